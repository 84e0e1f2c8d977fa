/- The engine, part M: slices of literals; slices made. -/
import Derived.Test.YtnnmkenloijkcaaEngL
set_option linter.unusedVariables false
set_option linter.unusedSimpArgs false
namespace Go.Proofs.Ytnnmkenloijkcaa.Eng
open Go

variable {E : Env} {s : St} {a : Act} {w : World} {g : Gh} {T : Tab} {C : Ctr} {q : Bool} {o : Oper} {K : St → Prop}

/-- The world goes on, and no object is written. -/
theorem rel_on (h : Rel E s a w g) {w' : World} {imm' : Imm} (hsz : w.heap.size ≤ w'.heap.size) (hheap : ∀ b, b < w.heap.size → w'.heap[b]? = w.heap[b]?)
    (himm1 : ∀ b o, g.imm b o → imm' b o) (himm2 : ∀ b o, imm' b o → ∀ id, (s.hp id).live = true → g.blk id = some b → g.imm b o) (himm3 : ∀ b o, imm' b o → b < w'.heap.size) (himm4 : ∀ b o, imm' b o → b < w.heap.size → g.imm b o) (hio : SameIO w w' := by exact ⟨rfl, rfl⟩) :
    Rel E s a w' ⟨imm', g.blk, g.val⟩ ∧ Ext w g.imm w' imm' := by
  have e : GExt w g s.hp w' ⟨imm', g.blk, g.val⟩ s.hp :=
    ⟨⟨himm1, fun b o hi => cell_heap (hheap b (h.bound b o hi)) o⟩, fun _ h => h, fun _ _ _ => rfl, fun _ _ _ => rfl, fun _ _ h => h, fun _ e n _ h => ⟨n, h, Nat.le_refl _, fun _ => rfl⟩⟩
  refine ⟨⟨fun t => RepV.ext e _ _ (h.slots t), fun i => ?_, h.dist, himm3, fun k => RepP.ext e.ext (h.globs k), h.low, fun b hb hn => ?_, Nat.le_trans h.size hsz, h.start.trans e.ext, fun b o hi hb => h.fresh b o (himm4 b o hi (by have := h.size; omega)) hb, h.nt, h.defers, h.old.trans e, h.io.trans hio⟩, e.ext⟩
  · cases hlive : (s.hp i).live with
    | true => exact ObjRep.ext e hlive rfl rfl (fun b hb => hheap b ((h.objs i).lt hlive hb)) (fun b hb x hx => himm2 b x hx i hlive hb) (h.objs i)
    | false => cases hh : s.hp i <;> simp_all [Obj.live, ObjRep]
  · have := h.size
    rw [hheap b (by omega)]; exact h.frame b hb hn

theorem fill_rows {esz : Nat} : ∀ (vals : List Value) (k : Nat) (cells : Array Value), (∀ v ∈ vals, v.cells.size = esz) → (k + vals.length) * esz ≤ cells.size →
    ∃ cells', Instr.fill (fun i => some (i * esz, esz)) cells ((List.range' k vals.length).zip vals) = some cells' ∧ cells'.size = cells.size ∧ (∀ j, j < k * esz → cells'[j]? = cells[j]?) ∧
      ∀ (i : Nat) v, vals[i]? = some v → ∀ j, j < esz → cells'[(k + i) * esz + j]? = v.cells[j]?
  | [], k, cells, _, _ => ⟨cells, by simp [Instr.fill], rfl, fun _ _ => rfl, by simp⟩
  | v :: vals, k, cells, hv, hl => by
    have hvs := hv v List.mem_cons_self
    have hke : k * esz + esz ≤ cells.size := by
      have : (k + 1) * esz ≤ (k + (v :: vals).length) * esz := Nat.mul_le_mul_right _ (by simp)
      rw [Nat.add_mul, Nat.one_mul] at this
      omega
    have hfold := foldl_set (k * esz) v.cells.toList 0 cells
    rw [← Array.toList_zipIdx, Array.foldl_toList, Nat.add_zero, setVals_eq _ _ _ (by simp; omega)] at hfold
    generalize hc1 : (v.cells.zipIdx.foldl (fun cs (c, j) => cs.setIfInBounds (k * esz + j) c) cells) = c1 at hfold
    have hsz : c1.size = cells.size := by rw [← Array.length_toList, hfold]; simp; omega
    obtain ⟨cells', h1, h2, h3, h4⟩ := fill_rows vals (k + 1) c1 (fun v' hv' => hv v' (List.mem_cons_of_mem _ hv')) (by rw [hsz]; rw [show k + 1 + vals.length = k + (v :: vals).length by simp; omega]; exact hl)
    refine ⟨cells', ?_, h2.trans hsz, fun j hj => ?_, fun i v' hi j hj => ?_⟩
    · simp only [List.length_cons, List.range'_succ, List.zip_cons_cons, Instr.fill]
      rw [if_neg (by simp; omega)]
      rw [hc1]
      exact h1
    · rw [h3 j (by rw [Nat.add_mul]; omega), ← Array.getElem?_toList, hfold, List.append_assoc, List.getElem?_append_left (by simp; omega), List.getElem?_take, if_pos hj, Array.getElem?_toList]
    · cases i with
      | zero =>
        simp only [List.getElem?_cons_zero, Option.some.injEq] at hi
        subst hi
        rw [Nat.add_zero, h3 _ (by rw [Nat.add_mul]; omega), ← Array.getElem?_toList, hfold]
        have : (cells.toList.take (k * esz)).length = k * esz := by simp; omega
        rw [List.append_assoc, List.getElem?_append_right (by omega), List.getElem?_append_left (by simp; omega), this, Array.getElem?_toList]
        congr 1; omega
      | succ i =>
        have := h4 i v' (by simpa using hi) j hj
        rw [show k + (i + 1) = k + 1 + i by omega]
        exact this

theorem leafRows_cons (v : V) (vs : List V) (h : ∀ ws, v ≠ .tup ws) : aOp.leafRows (v :: vs) = match leafs (leaf0 (fun _ => .none)) v.cells, aOp.leafRows vs with
    | some x, some xs => some (x :: xs)
    | _, _ => none := by
  have : v.isTup = false := by cases v <;> first | rfl | exact absurd rfl (h _)
  simp only [aOp.leafRows, this]
  rfl

theorem leafRows_ok : ∀ {xs : List V} {rows : List (List D)} {us : List Value}, aOp.leafRows xs = some rows → RepVs w g s.hp xs us → rows.length = us.length ∧
    ∀ (i : Nat) r, rows[i]? = some r → ∃ u, us[i]? = some u ∧ r.length = u.cells.size ∧ ∀ (j : Nat) x, r[j]? = some x → ∃ y, u.cells[j]? = some y ∧ RepD w g.imm x y
  | [], rows, us, h, hr => by
    simp only [aOp.leafRows, Option.some.injEq] at h
    simp only [RepVs] at hr
    subst h; subst hr
    simp
  | v :: vs, rows, us, h, hr => by
    simp only [RepVs] at hr
    obtain ⟨u, us', rfl, h1, h2⟩ := hr
    have hnt : ∀ ws, v ≠ .tup ws := by rintro ws rfl; simp [aOp.leafRows, V.isTup] at h
    rw [leafRows_cons v vs hnt] at h
    cases hx : leafs (leaf0 (fun _ => .none)) v.cells with
    | none => simp [hx] at h
    | some x =>
      cases hxs : aOp.leafRows vs with
      | none => simp [hx, hxs] at h
      | some xs =>
        simp only [hx, hxs, Option.some.injEq] at h
        subst h
        obtain ⟨i1, i2⟩ := leafRows_ok hxs h2
        have hne : v ≠ .undef := by rintro rfl; simp [V.cells, leafs, leaf0] at hx
        have hc := h1.cells hne hnt
        obtain ⟨l1, l2, _⟩ := leafs_cells hx hc
        refine ⟨by simp [i1], fun i r hi => ?_⟩
        cases i with
        | zero =>
          simp only [List.getElem?_cons_zero, Option.some.injEq] at hi
          subst hi
          refine ⟨u, rfl, by simpa using l1, fun j y hj => ?_⟩
          have hjl := (List.getElem?_eq_some_iff.1 hj).1
          have hju : j < u.cells.size := by simp at l1; omega
          exact ⟨u.cells[j], by simp [hju], l2 j y _ hj (by simp [hju])⟩
        | succ i => simpa using i2 i r (by simpa using hi)

theorem sound_buildSlice {t : TypeId} {len : Nat} {parts : Array (Nat × Operand)} {ti : TI} (ho : o.op = .buildSlice t len parts) (hT : TIok E.P t ti) (h : Rel E s a w g) (hd : ∀ d, o.dst = some d → d < E.nt)
    (hk : match ti.slc, aOp.leafRows (parts.toList.map fun p => ev E.glob s p.2) with
      | true, some rows => match Nat.beq rows.length len, decide (parts.toList.map (·.1) = List.range len), rows.all (fun r => Nat.beq r.length ti.esz), Nat.ble (len * ti.esz) (2 ^ 24) with
        | true, true, true, true => putK s o.dst (.d (.slc true ti.esz rows)) K
        | _, _, _, _ => False
      | _, _ => False) : OpOk E o a w K := by
  split at hk
  · rename_i rows hg hrows
    split at hk
    · rename_i h1 h2 h3 h4
      have h1 := Nat.eq_of_beq_eq_true h1
      have h2 : parts.toList.map (·.1) = List.range len := by simpa using h2
      have h4 := Nat.le_of_ble_eq_true h4
      obtain ⟨hu, hz, ie, hi, hsz, hby, z, hz1, hz2, hzc⟩ := hT.slc hg
      have hevs : RepVs w g s.hp (parts.toList.map fun p => ev E.glob s p.2) (parts.toList.map fun p => a.eval p.2) := by
        have := evs_rep h (parts.toList.map (·.2))
        simpa [List.map_map, Function.comp_def] using this
      obtain ⟨l1, l2⟩ := leafRows_ok hrows hevs
      have hplen : parts.toList.length = len := by have := congrArg List.length h2; simpa using this
      have hvs : ∀ v ∈ (parts.toList.map fun p => a.eval p.2), v.cells.size = ti.esz := by
        intro v hv
        obtain ⟨i, hi', rfl⟩ := List.getElem_of_mem hv
        have hir : i < rows.length := by omega
        obtain ⟨u, hu', hl, _⟩ := l2 i rows[i] (List.getElem?_eq_getElem hir)
        rw [List.getElem?_eq_getElem hi'] at hu'
        injection hu' with hu'
        rw [hu', ← hl]
        have := List.all_eq_true.1 h3 rows[i] (List.getElem_mem hir)
        exact Nat.eq_of_beq_eq_true this
      obtain ⟨cells', f1, f2, f3, f4⟩ := fill_rows (esz := ti.esz) (parts.toList.map fun p => a.eval p.2) 0 ((Array.range (len * ti.esz)).map (z.cells[· % z.cells.size]!)) hvs (by simp at hplen ⊢; rw [hplen]; exact Nat.le_refl _)
      have hzip : (List.range' 0 (parts.toList.map fun p => a.eval p.2).length).zip (parts.toList.map fun p => a.eval p.2) = (parts.map fun (i, x) => (i, a.eval x)).toList := by
        rw [List.length_map, hplen, ← List.range_eq_range', ← h2]
        simp only [Array.toList_map]
        rw [List.zip_map']
      rw [hzip] at f1
      have hfr : len * ti.esz = 0 → ((Array.range (len * ti.esz)).map (z.cells[· % z.cells.size]!)) = ((Array.range (len * ti.esz)).map ((#[] : Array Value)[· % (#[] : Array Value).size]!)) := by
        intro h0; rw [h0]; simp
      have hrun : (Instr.buildSlice t len (parts.map fun (i, x) => (i, a.eval x))).run E.P w = .ok (.slice (some ⟨w.heap.size, 0, none⟩) len len) (w.alloc (.cells cells' ti.elem)) := by
        have hs : (sizeOf ti.elem).run E.P w = .ok ti.esz w := by unfold sizeOf typeInfo; simp [hi, hsz]
        have hzv : (zeroValue ti.elem).run E.P w = .ok z w := by unfold zeroValue typeInfo; simp [hi, hz1]
        have h4' : ¬ (len * ti.esz > 2 ^ 24) := by omega
        unfold Instr.buildSlice
        simp only [Sem.run_bind, run_underlying hu, Result.andThen_ok, hs, if_neg h4']
        by_cases h0 : len * ti.esz = 0
        · rw [hfr h0] at f1
          simp only [if_pos h0, Sem.run_pure, Result.andThen_ok, f1, newRow, Sem.run_bind, run_newObj]
          rfl
        · simp only [if_neg h0, Sem.run_bind, hzv, Sem.run_pure, Result.andThen_ok, f1, newRow, run_newObj]
          rfl
      obtain ⟨hR, hE⟩ := rel_on (w' := w.alloc (.cells cells' ti.elem)) (imm' := fun b o => g.imm b o ∨ b = w.heap.size) h (by simp) (fun b hb => heap_alloc_lt w _ hb) (fun _ _ h => .inl h)
        (fun b o hi id hl hb => by
          rcases hi with hi | rfl
          · exact hi
          · have := (h.objs id).lt hl hb; omega)
        (fun b o hi => by
          rcases hi with hi | rfl
          · have := h.bound b o hi; simp; omega
          · simp)
        (fun b o hi hb => by
          rcases hi with hi | rfl
          · exact hi
          · omega)
      refine op_value (u := .slice (some ⟨w.heap.size, 0, none⟩) len len) (w' := w.alloc (.cells cells' ti.elem)) (s' := s.app o.dst (.d (.slc true ti.esz rows))) ?_ (by rw [putK_eq] at hk; exact hk) (rel_put hR ?_ hd)
      · unfold execOp
        rw [ho]
        simp only [Sem.run_bind, hrun, Result.andThen_ok, Sem.run_pure]
      · simp only [RepV]
        subst h1
        have hh := repD_own (w' := w.alloc (.cells cells' ti.elem)) (imm' := fun b o => g.imm b o ∨ b = w.heap.size) (b := w.heap.size) (e := ti.esz) (c := rows.length) (us := cells') (tt := ti.elem) (rows := rows) (heap_alloc_new w _) (fun o ho => .inr rfl) (by omega) (by
            have : rows.length * 1 ≤ rows.length * ti.esz := Nat.mul_le_mul_left _ (by omega)
            omega)
          (fun i r hi' => by
            obtain ⟨u, hu', hl, hx⟩ := l2 i r hi'
            have hre : r.length = ti.esz := by
              have := List.all_eq_true.1 h3 r (List.mem_of_getElem? hi')
              exact Nat.eq_of_beq_eq_true this
            refine ⟨hre, fun j x hj => ?_⟩
            obtain ⟨y, hy, hr⟩ := hx j x hj
            have hjl := (List.getElem?_eq_some_iff.1 hj).1
            refine ⟨y, ?_, hr.ext hE⟩
            have := f4 i u hu' j (by omega)
            rw [Nat.zero_add] at this
            rw [this, hy])
        cases hh with
        | slc _ _ _ _ _ vals hc hn hf hrow hA hcell hrep =>
          exact RepD.slc (w := w.alloc (.cells cells' ti.elem)) (imm := fun b o => g.imm b o ∨ b = w.heap.size) true ti.esz rows _ _ vals hc hn (fun _ => rfl) hrow hA hcell hrep
    · exact hk.elim
  · exact hk.elim

theorem sound_makeSlice {t : TypeId} {l c : Operand} {ti : TI} {d : Nat} {k1 k2 : IntKind} {n m : Int} (ho : o.op = .makeSlice t l c) (hdst : o.dst = some d) (hT : TIok E.P t ti) (h : Rel E s a w g) (hd : ∀ d, o.dst = some d → d < E.nt)
    (hg : ti.slc = true) (hl : ev E.glob s l = .d (.int k1 n)) (hc : ev E.glob s c = .d (.int k2 m)) (hnone : s.hp d = .none) (hez : ti.ezero.length = ti.esz)
    (hk : n = m ∧ 0 ≤ n ∧ n * ti.ebytes ≤ 2 ^ 47 ∧ n ≤ 2 ^ 47 ∧ K ⟨upd s.sl d (.own d), upd s.hp d (.arr true ti.esz (List.replicate n.toNat ti.ezero))⟩) : OpOk E o a w K := by
  obtain ⟨rfl, h0, hb, hb2, hk⟩ := hk
  obtain ⟨hu, hz, ie, hi, hsz, hby, z, hz1, hz2, hzc⟩ := hT.slc hg
  have hvl := rel_ev h l
  rw [hl] at hvl
  have hvl := repV_int hvl
  have hvc := rel_ev h c
  rw [hc] at hvc
  have hvc := repV_int hvc
  generalize hcells : ((Array.range (n.toNat * ti.esz)).map (z.cells[· % z.cells.size]!)) = cells
  have hget : ∀ i j, i < n.toNat → j < ti.esz → ∃ u, cells[i * ti.esz + j]? = some u ∧ z.cells[j]? = some u := by
    intro i j hi' hj
    have hlt : i * ti.esz + j < n.toNat * ti.esz := by
      have : i * ti.esz + ti.esz ≤ n.toNat * ti.esz := by rw [← Nat.succ_mul]; exact Nat.mul_le_mul_right _ hi'
      omega
    have hmod : (i * ti.esz + j) % ti.esz = j := by rw [Nat.mul_comm, Nat.mul_add_mod]; exact Nat.mod_eq_of_lt hj
    subst hcells
    have hjz : j < z.cells.size := by omega
    refine ⟨z.cells[j], ?_, by simp [hjz]⟩
    simp only [Array.getElem?_map, Array.getElem?_range, hlt, if_true, Option.map_some, hzc, hmod, getElem!_pos z.cells j hjz]
  have hwrap : IntKind.i64.wrap n = n := by
    have h1 : n % (2 ^ IntKind.i64.bits : Int) = n := Int.emod_eq_of_lt h0 (by simp only [IntKind.bits]; omega)
    have h2 : ¬ (n ≥ (2 ^ (IntKind.i64.bits - 1) : Int)) := by simp only [IntKind.bits]; omega
    unfold IntKind.wrap
    simp only [h1, h2, decide_false, Bool.and_false, Bool.false_eq_true, if_false]
  have hrun : (Instr.makeSlice t (.int k1 n) (.int k2 n)).run E.P w = .ok (.slice (some ⟨w.heap.size, 0, none⟩) n.toNat n.toNat) (w.alloc (.cells cells ti.elem)) := by
    have hs : (sizeOf ti.elem).run E.P w = .ok ti.esz w := by unfold sizeOf typeInfo; simp [hi, hsz]
    have hti : (typeInfo ti.elem).run E.P w = .ok ie w := by unfold typeInfo; simp [hi]
    have hzv : (zeroValue ti.elem).run E.P w = .ok z w := by unfold zeroValue typeInfo; simp [hi, hz1]
    unfold Instr.makeSlice
    have e1 : ¬ (n < 0) := by omega
    have e2 : ¬ ((ie.bytes : Int) * n > 2 ^ 48) := by rw [hby, Int.mul_comm]; omega
    simp only [Sem.run_bind, run_underlying hu, Result.andThen_ok, Go.asInt, asIntOf, Sem.run_pure, hti, hwrap]
    simp only [e1, e2, decide_false, Bool.or_self, Bool.false_eq_true, Int.lt_irrefl, or_self, if_false, gt_iff_lt, Sem.run_pure, Result.andThen_ok, Sem.run_bind, run_askRoom, hs]
    by_cases hn0 : n.toNat * ti.esz = 0
    · have hce : ((Array.range (n.toNat * ti.esz)).map ((#[] : Array Value)[· % (#[] : Array Value).size]!)) = cells := by rw [← hcells, hn0]; simp
      simp only [if_pos hn0, Sem.run_pure, Result.andThen_ok, hce, newRow, Sem.run_bind, run_newObj]
      rfl
    · simp only [if_neg hn0, Sem.run_bind, hzv, Sem.run_pure, Result.andThen_ok, hcells, newRow, run_newObj]
      rfl
  have hzr := zerosB_reps w g s.hp _ _ hz2
  obtain ⟨hR, hE⟩ := rel_fresh (ob := .arr true ti.esz (List.replicate n.toNat ti.ezero)) (g' := ⟨g.imm, upd g.blk d (some w.heap.size), upd g.val d (.slice (some ⟨w.heap.size, 0, none⟩) n.toNat n.toNat)⟩) (w' := w.alloc (.cells cells ti.elem)) h hnone rfl (by simp) (fun b hb => heap_alloc_lt w _ hb)
    (fun _ _ h => h) (fun _ _ h => .inl h) (fun b o hi => by have := h.bound b o hi; simp; omega) (fun i hi => upd_ne _ _ hi) (fun i hi => upd_ne _ _ hi)
    (fun b hb => by simp only [upd_same, Option.some.injEq] at hb; omega)
    (fun e => ⟨some ⟨w.heap.size, 0, none⟩, n.toNat, by simp [upd_same], by simp, by simp; omega, by simp, fun i r hi' => by
        rw [List.getElem?_replicate] at hi'
        split at hi'
        · injection hi' with hi'; rw [← hi', hez]
        · simp at hi', fun hn => by simp [upd_same] at hn, fun b hb => by
      simp only [upd_same, Option.some.injEq] at hb
      subst hb
      refine ⟨rfl, fun o hi' => by have := h.bound _ _ hi'; omega, cells, ti.elem, heap_alloc_new w _, fun i r hi' j x hj => ?_⟩
      rw [List.getElem?_replicate] at hi'
      split at hi'
      · rename_i hin
        injection hi' with hi'
        subst hi'
        have hjl := (List.getElem?_eq_some_iff.1 hj).1
        obtain ⟨u, hu1, hu2⟩ := hget i j hin (by omega)
        refine ⟨u, hu1, ?_⟩
        obtain ⟨u', hu3, hu4⟩ := hzr.get (i := j) (c := .d x) (by rw [List.getElem?_map, hj]; rfl)
        rw [Array.getElem?_toList, hu2] at hu3
        injection hu3 with hu3
        subst hu3
        simp only [RepV] at hu4
        exact hu4.ext e.ext
      · simp at hi'⟩)
  refine op_value (u := .slice (some ⟨w.heap.size, 0, none⟩) n.toNat n.toNat) (w' := w.alloc (.cells cells ti.elem)) (g' := ⟨g.imm, upd g.blk d (some w.heap.size), upd g.val d (.slice (some ⟨w.heap.size, 0, none⟩) n.toNat n.toNat)⟩) ?_ hk ?_
  · unfold execOp
    rw [ho]
    simp only [hvl, hvc, Sem.run_bind, hrun, Result.andThen_ok, Sem.run_pure]
  · rw [hdst]
    exact rel_put (dst := some d) hR (by simp only [RepV, upd_same]; exact ⟨rfl, trivial, by simp, _, _, _, rfl⟩) (by rintro d' ⟨⟩; exact hd d hdst)

end Go.Proofs.Ytnnmkenloijkcaa.Eng
