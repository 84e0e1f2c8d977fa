/- The engine, part M2: a built slice that is an array of the call's own; an array that is written no more. -/
import Derived.Test.YtnnmkenloijkcaaEngN
set_option linter.unusedVariables false
set_option linter.unusedSimpArgs false
namespace Go.Proofs.Ytnnmkenloijkcaa.Eng
open Go

variable {E : Env} {s : St} {a : Act} {w : World} {g : Gh} {T : Tab} {C : Ctr} {q : Bool} {o : Oper} {K : St → Prop}

theorem sound_buildSlice_own {t : TypeId} {len : Nat} {parts : Array (Nat × Operand)} {ti : TI} {d : Nat} (ho : o.op = .buildSlice t len parts) (hdst : o.dst = some d) (hT : TIok E.P t ti) (h : Rel E s a w g) (hd : ∀ d, o.dst = some d → d < E.nt) (hnone : s.hp d = .none)
    (hk : match ti.slc, aOp.leafRows (parts.toList.map fun p => ev E.glob s p.2) with
      | true, some rows => match Nat.beq rows.length len, decide (parts.toList.map (·.1) = List.range len), rows.all (fun r => Nat.beq r.length ti.esz), Nat.ble (len * ti.esz) (2 ^ 24) with
        | true, true, true, true => K ⟨upd s.sl d (.own d), upd s.hp d (.arr true ti.esz rows)⟩
        | _, _, _, _ => False
      | _, _ => False) : OpOk E o a w K := by
  split at hk
  · rename_i rows hg hrows
    split at hk
    · rename_i h1 h2 h3 h4
      have h1 := Nat.eq_of_beq_eq_true h1
      have h2 : parts.toList.map (·.1) = List.range len := by simpa using h2
      have h4 := Nat.le_of_ble_eq_true h4
      obtain ⟨hu, hz, ie, hi, hsz, hby, z, hz1, hz2, hzc⟩ := hT.slc hg
      have hevs : RepVs w g s.hp (parts.toList.map fun p => ev E.glob s p.2) (parts.toList.map fun p => a.eval p.2) := by
        have := evs_rep h (parts.toList.map (·.2))
        simpa [List.map_map, Function.comp_def] using this
      obtain ⟨l1, l2⟩ := leafRows_ok hrows hevs
      have hplen : parts.toList.length = len := by have := congrArg List.length h2; simpa using this
      have hvs : ∀ v ∈ (parts.toList.map fun p => a.eval p.2), v.cells.size = ti.esz := by
        intro v hv
        obtain ⟨i, hi', rfl⟩ := List.getElem_of_mem hv
        have hir : i < rows.length := by omega
        obtain ⟨u, hu', hl, _⟩ := l2 i rows[i] (List.getElem?_eq_getElem hir)
        rw [List.getElem?_eq_getElem hi'] at hu'
        injection hu' with hu'
        rw [hu', ← hl]
        have := List.all_eq_true.1 h3 rows[i] (List.getElem_mem hir)
        exact Nat.eq_of_beq_eq_true this
      obtain ⟨cells', f1, f2, f3, f4⟩ := fill_rows (esz := ti.esz) (parts.toList.map fun p => a.eval p.2) 0 ((Array.range (len * ti.esz)).map (z.cells[· % z.cells.size]!)) hvs (by simp at hplen ⊢; rw [hplen]; exact Nat.le_refl _)
      have hzip : (List.range' 0 (parts.toList.map fun p => a.eval p.2).length).zip (parts.toList.map fun p => a.eval p.2) = (parts.map fun (i, x) => (i, a.eval x)).toList := by
        rw [List.length_map, hplen, ← List.range_eq_range', ← h2]
        simp only [Array.toList_map]
        rw [List.zip_map']
      rw [hzip] at f1
      have hfr : len * ti.esz = 0 → ((Array.range (len * ti.esz)).map (z.cells[· % z.cells.size]!)) = ((Array.range (len * ti.esz)).map ((#[] : Array Value)[· % (#[] : Array Value).size]!)) := by
        intro h0; rw [h0]; simp
      have hrun : (Instr.buildSlice t len (parts.map fun (i, x) => (i, a.eval x))).run E.P w = .ok (.slice (some ⟨w.heap.size, 0, none⟩) len len) (w.alloc (.cells cells' ti.elem)) := by
        have hs : (sizeOf ti.elem).run E.P w = .ok ti.esz w := by unfold sizeOf typeInfo; simp [hi, hsz]
        have hzv : (zeroValue ti.elem).run E.P w = .ok z w := by unfold zeroValue typeInfo; simp [hi, hz1]
        have h4' : ¬ (len * ti.esz > 2 ^ 24) := by omega
        unfold Instr.buildSlice
        simp only [Sem.run_bind, run_underlying hu, Result.andThen_ok, hs, if_neg h4']
        by_cases h0 : len * ti.esz = 0
        · rw [hfr h0] at f1
          simp only [if_pos h0, Sem.run_pure, Result.andThen_ok, f1, newRow, Sem.run_bind, run_newObj]
          rfl
        · simp only [if_neg h0, Sem.run_bind, hzv, Sem.run_pure, Result.andThen_ok, f1, newRow, run_newObj]
          rfl
      have hrows : ∀ (i : Nat) (r : List D), rows[i]? = some r → r.length = ti.esz ∧ ∀ (j : Nat) (x : D), r[j]? = some x → ∃ u, cells'[i * ti.esz + j]? = some u ∧ RepD w g.imm x u := fun i r hi' => by
        obtain ⟨u, hu', hl, hx⟩ := l2 i r hi'
        have hre : r.length = ti.esz := by
          have := List.all_eq_true.1 h3 r (List.mem_of_getElem? hi')
          exact Nat.eq_of_beq_eq_true this
        refine ⟨hre, fun j x hj => ?_⟩
        obtain ⟨y, hy, hr⟩ := hx j x hj
        have hjl := (List.getElem?_eq_some_iff.1 hj).1
        refine ⟨y, ?_, hr⟩
        have := f4 i u hu' j (by omega)
        rw [Nat.zero_add] at this
        rw [this, hy]
      have hbig : rows.length ≤ 2 ^ 48 := by
        have : rows.length * 1 ≤ rows.length * ti.esz := Nat.mul_le_mul_left _ (by omega)
        rw [← h1] at h4
        omega
      obtain ⟨hR, hE⟩ := rel_fresh (ob := .arr true ti.esz rows) (g' := ⟨g.imm, upd g.blk d (some w.heap.size), upd g.val d (.slice (some ⟨w.heap.size, 0, none⟩) len len)⟩)
        (w' := w.alloc (.cells cells' ti.elem)) h hnone rfl (by simp) (fun b hb => heap_alloc_lt w _ hb)
        (fun _ _ h => h) (fun b o hi => .inl hi)
        (fun b o hi => by have := h.bound b o hi; simp; omega)
        (fun i hi => upd_ne _ _ hi) (fun i hi => upd_ne _ _ hi) (fun b hb => by simp only [upd_same, Option.some.injEq] at hb; omega)
        (fun e => ⟨some ⟨w.heap.size, 0, none⟩, len, by simp [upd_same, h1], by omega, by omega, fun _ => h1.symm, fun i r hi => (hrows i r hi).1, fun hn => by simp [upd_same] at hn, fun b hb => by
          simp only [upd_same, Option.some.injEq] at hb
          subst hb
          exact ⟨rfl, fun o hi => by have := h.bound _ _ hi; omega, cells', ti.elem, heap_alloc_new w _, fun i r hi j x hj => by
            obtain ⟨u, hu1, hu2⟩ := (hrows i r hi).2 j x hj
            exact ⟨u, hu1, hu2.ext e.ext⟩⟩⟩)
      refine op_value (u := .slice (some ⟨w.heap.size, 0, none⟩) len len) (w' := w.alloc (.cells cells' ti.elem)) ?_ hk (g' := ⟨g.imm, upd g.blk d (some w.heap.size), upd g.val d (.slice (some ⟨w.heap.size, 0, none⟩) len len)⟩) ?_
      · unfold execOp
        rw [ho]
        simp only [Sem.run_bind, hrun, Result.andThen_ok, Sem.run_pure]
      · rw [hdst]
        refine rel_put (dst := some d) hR ?_ (by rintro d' ⟨⟩; exact hd d hdst)
        simp only [RepV, upd_same]
        exact ⟨by first | rfl | trivial, by first | rfl | trivial, by simp, _, _, _, rfl⟩
    · exact hk.elim
  · exact hk.elim

theorem rel_frz (h : Rel E s a w g) {x : Operand} {s2 : St} (hf : frz q s x = some s2) : ∃ g2, Rel E s2 a w g2 := by
  unfold frz at hf
  split at hf
  · rename_i t
    split at hf
    · rename_i id hid
      split at hf
      · rename_i full e rows hob
        injection hf with hf
        subst hf
        have hs := h.slots t
        rw [hid] at hs
        have hus : ∀ i, i ∈ [id] → (s.hp i).used = true ∧ ∀ e n, s.hp i ≠ .grow e n := fun i hi => by
          simp only [List.mem_singleton] at hi
          subst hi
          rw [hob]; exact ⟨rfl, by simp⟩
        obtain ⟨hK, _⟩ := rel_kill h [id] hus
        have hpv : pureV s.hp (.own id) = some (.d (.slc full e rows)) := by simp [pureV, leaf2, leaf1, leaf0, hob]
        have hp := pureVs_ok (ids := [id]) (vs := [.own id]) (us := [a.tmps.getD t Go.undef]) h (by simp only [RepVs]; exact ⟨_, _, rfl, hs, rfl⟩) (vs' := [.d (.slc full e rows)]) (by simp only [pureVs, hpv]) (by simp [idsV, ids1, ids0])
        unfold RepPs at hp
        simp only [RepVs] at hp
        obtain ⟨u, us', e1, e2, _⟩ := hp
        injection e1 with e1 _
        subst e1
        refine ⟨_, fun t' => ?_, hK.objs, hK.dist, hK.bound, hK.globs, hK.low, hK.frame, hK.size, hK.start, hK.fresh, hK.nt, hK.defers, hK.old, hK.io⟩
        show RepV _ _ _ (upd s.sl t _ t') _
        rw [upd_eq]
        split
        · rename_i ht; subst ht; exact RepP.to rfl _ _ _ e2
        · exact hK.slots t'
      · simp at hf
    · simp at hf
  · simp at hf

theorem repV_asg {hp : Nat → Obj} {x : Operand} {v : V} {u : Value} {ty : TypeId} (hv : RepV w g hp v u) (hx : ∀ c, x = .const c → u = c) : RepV w g hp (asgV T ty x v) u := by
  unfold asgV
  split
  · have hu := hx _ rfl
    split
    · subst hu
      simp only [RepV]
      exact .slc true _ [] none 0 (fun _ _ => default) (by simp) (by simp) (by simp) (by simp) (by simp) (by simp) (by simp)
    · exact hv
  · exact hv

theorem sound_assign {x : Operand} (ho : o.op = .assign x) (h : Rel E s a w g) (hd : ∀ d, o.dst = some d → d < E.nt)
    (hk : putK s o.dst (asgV T o.type x (ev E.glob s x)) K) : OpOk E o a w K := by
  refine op_put h hd (u := a.eval x) ?_ (repV_asg (rel_ev h x) (fun c hc => by subst hc; rfl)) hk
  unfold execOp
  rw [ho]; rfl

theorem run_eq_nil {P : Program} (w : World) (d : Nat) (t : TypeId) {e : TypeId} (A : Option Addr) (n c : Nat) (hu : P.underlying t = some (.slice e)) : (Op.equalIn (d + 1) t (.slice A n c) (.slice none 0 0)).run P w = .ok A.isNone w := by
  cases A <;> simp [Op.equalIn, run_underlying hu]
theorem sound_nilCmp {op : BinOp} {t t' : TypeId} {x y : Operand} {ti : TI} (ho : o.op = .binOp op t x y t') (hT : TIok E.P t ti) (h : Rel E s a w g) (hd : ∀ d, o.dst = some d → d < E.nt) (hg : ti.slc = true) {rows : List (List D)}
    (hn : nilCmp s.hp (ev E.glob s x) y = some (ti.esz, rows)) (hk : nilK op rows fun v => putK s o.dst v K) : OpOk E o a w K := by
  obtain ⟨hu, hz, _⟩ := hT.slc hg
  have hx := rel_ev h x
  have hex : execOp a.eval o = (do pure (.value (← (do eqGuard op t x y (a.eval x) (a.eval y); binOp op t (a.eval x) (a.eval y))))) := by
    unfold execOp; rw [ho]
  unfold nilCmp at hn
  split at hn
  · obtain ⟨A, c, news, e1, _, _, _, p1, _⟩ := rows_cells hz h.objs hx hn
    rw [e1] at hex
    have hyv : a.eval (.const (.slice none 0 0)) = .slice none 0 0 := rfl
    rw [hyv] at hex
    have hgd := eqGuard_plain E.P op t x (.const (.slice none 0 0)) (.slice A rows.length c) (.slice none 0 0) w ⟨by simp, by simp⟩
    have heq := run_eq_nil (P := E.P) w 9999 t A rows.length c hu
    have hA : A.isNone = true → rows = [] := fun hA => by
      apply Classical.byContradiction
      intro hr
      obtain ⟨b, off, hb, _⟩ := p1 hr
      rw [hb] at hA; simp at hA
    unfold nilK at hk
    split at hk
    · cases hb : A.isNone with
      | true =>
        refine op_put h hd (u := .bool true) ?_ (repV_mkbool _ _) (hk.1 (hA hb))
        rw [hex]
        simp [hgd, binOp, Op.equal, Op.maxDepth, heq, hb]
      | false =>
        refine op_put h hd (u := .bool false) ?_ (repV_mkbool _ _) hk.2
        rw [hex]
        simp [hgd, binOp, Op.equal, Op.maxDepth, heq, hb]
    · cases hb : A.isNone with
      | true =>
        refine op_put h hd (u := .bool false) ?_ (repV_mkbool _ _) (hk.1 (hA hb))
        rw [hex]
        simp [hgd, binOp, Op.equal, Op.maxDepth, heq, hb]
      | false =>
        refine op_put h hd (u := .bool true) ?_ (repV_mkbool _ _) hk.2
        rw [hex]
        simp [hgd, binOp, Op.equal, Op.maxDepth, heq, hb]
    · exact hk.elim
  · simp at hn

theorem sound_clip {t : TypeId} {x : Operand} {lo hi mx : Option Operand} (hT : ∀ {t ti}, T.get t = some ti → TIok E.P t ti) (ho : o.op = .slice t x lo hi mx) (h : Rel E s a w g) (hd : ∀ d, o.dst = some d → d < E.nt)
    (hk : aClip T E.glob s o.dst t x lo hi mx K) : OpOk E o a w K := by
  unfold aClip at hk
  split at hk
  · rename_i ti d id hti hdst hev
    split at hk
    · rename_i full e rows hn mn hob hnone hhi hmx
      split at hk
      · rename_i hg hee
        obtain rfl := Nat.eq_of_beq_eq_true hee
        obtain ⟨hl1, hl2, hk⟩ := hk
        rw [withS_eq] at hk
        have hTi := hT hti
        obtain ⟨hu, hz, ie, hi1, hi2, _⟩ := hTi.slc hg
        have hsz : (sizeOf ti.elem).run E.P w = .ok ti.esz w := by unfold sizeOf typeInfo; simp [hi1, hi2]
        have hxv := rel_ev h x
        rw [hev] at hxv
        simp only [RepV] at hxv
        obtain ⟨hus, hval, _, _⟩ := hxv
        have hobj := h.objs id
        rw [hob] at hobj
        obtain ⟨A, c, o1, o2, o3, o4, o5, o6, o7⟩ := hobj
        have hbd := run_bounds (P := E.P) (lo := none) (l := none) h rfl hhi hmx true rows.length c (.inr (by simp)) 0 rows.length rows.length (by simp; omega) (by simp; omega) (by simp) (by simp) (by simp; omega) (by simp; omega) (by omega) (by omega) (by omega)
        have hdid : d ≠ id := by rintro rfl; rw [hob] at hnone; simp at hnone
        let g2 : Gh := ⟨g.imm, upd g.blk d (g.blk id), upd g.val d (.slice A rows.length rows.length)⟩
        let hp2 : Nat → Obj := upd (upd s.hp id .dead) d (.arr true ti.esz rows)
        have hne : ∀ i, (s.hp i).used = true → i ≠ d := by rintro i hi rfl; rw [hnone] at hi; simp [Obj.used] at hi
        have hp2e : ∀ i, hp2 i = if i = d then .arr true ti.esz rows else if i = id then .dead else s.hp i := fun i => by simp only [hp2, upd_eq]
        have e : GExt w g s.hp w g2 hp2 := by
          refine ⟨Ext.refl _ _, fun i hi => ?_, fun i hi _ => upd_ne _ _ (hne i hi), fun i hi _ => upd_ne _ _ (hne i hi), fun i hi hgr => ?_, fun i ee n hi hgr => ?_⟩
          · rw [hp2e, if_neg (hne i hi)]; split
            · rfl
            · exact hi
          · rw [hp2e, if_neg (hne i hi)]; split
            · simp
            · exact hgr
          · rw [hp2e, if_neg (hne i hi)] at hgr
            split at hgr
            · simp at hgr
            · exact ⟨n, hgr, Nat.le_refl _, fun _ => upd_ne _ _ (hne i hi)⟩
        have hlv : ∀ i, (hp2 i).live = true → i ≠ d → (s.hp i).live = true ∧ i ≠ id := fun i hi hid => by
          rw [hp2e, if_neg hid] at hi
          split at hi
          · simp [Obj.live] at hi
          · exact ⟨hi, by assumption⟩
        have hidl : (s.hp id).live = true := by rw [hob]; rfl
        have hR : Rel E ⟨s.sl, hp2⟩ a w g2 := by
          refine ⟨fun t => RepV.ext e _ _ (h.slots t), fun i => ?_, fun i j b hij hi hj hb => ?_, h.bound, fun k => h.globs k, fun i b hi hb => ?_, h.frame, h.size, h.start, h.fresh, h.nt, h.defers, h.old.trans e, h.io⟩
          · show ObjRep w g2 hp2 i (hp2 i)
            by_cases hid : i = d
            · subst hid
              rw [hp2e, if_pos rfl]
              refine ⟨A, rows.length, by simp [g2, upd_same], Nat.le_refl _, o3, fun _ => rfl, o5, ?_, ?_⟩
              · intro hb; simp only [g2, upd_same] at hb; exact o6 hb
              · intro b hb; simp only [g2, upd_same] at hb; exact o7 b hb
            · rw [hp2e, if_neg hid]
              split
              · trivial
              · cases hlive : (s.hp i).live with
                | true => exact ObjRep.ext e hlive (upd_ne _ _ hid) (upd_ne _ _ hid) (fun _ _ => rfl) (fun _ _ _ h => h) (h.objs i)
                | false => cases hh : s.hp i <;> simp_all [Obj.live, ObjRep]
          · have hb2 : upd g.blk d (g.blk id) i = some b := hb
            show upd g.blk d (g.blk id) j ≠ some b
            by_cases hid : i = d
            · subst hid
              have hjd : j ≠ i := fun e => hij e.symm
              obtain ⟨q1, q2⟩ := hlv j hj hjd
              rw [upd_same] at hb2
              rw [upd_ne _ _ hjd]
              exact h.dist id j b (fun e => q2 e.symm) hidl q1 hb2
            · obtain ⟨p1, p2⟩ := hlv i hi hid
              rw [upd_ne _ _ hid] at hb2
              by_cases hjd : j = d
              · subst hjd
                rw [upd_same]
                exact h.dist i id b p2 p1 hidl hb2
              · obtain ⟨q1, q2⟩ := hlv j hj hjd
                rw [upd_ne _ _ hjd]
                exact h.dist i j b hij p1 q1 hb2
          · have hb : upd g.blk d (g.blk id) i = some b := hb
            by_cases hid : i = d
            · subst hid
              rw [upd_same] at hb
              exact h.low id b hidl hb
            · rw [upd_ne _ _ hid] at hb
              exact h.low i b (hlv i hi hid).1 hb
        have hA : (if rows.length = 0 then A else A.map (·.add (0 * ti.esz))) = A := by
          split
          · rfl
          · cases hb : g.blk id with
            | none => have := o6 hb; simp_all
            | some b =>
              obtain ⟨q1, _⟩ := o7 b hb
              rw [q1]; simp [Addr.add]
        refine op_value (u := .slice A rows.length rows.length) (w' := w) (g' := g2) ?_ hk ?_
        · unfold execOp
          rw [ho]
          simp only [Option.map_none] at hbd
          simp only [Instr.sliceAt, hval, o1, Sem.run_bind, run_underlying hu, Result.andThen_ok, Instr.slice, Option.map_none, hbd, hsz, Sem.run_pure]
          simp only [Nat.sub_zero, hA]
        · rw [hdst]
          refine rel_put (dst := some d) hR ?_ (by rintro d' ⟨⟩; exact hd d hdst)
          simp only [RepV]
          refine ⟨by rw [hp2e, if_pos rfl]; rfl, by simp [g2, upd_same], by rw [hp2e, if_pos rfl]; simp, _, _, _, rfl⟩
      · exact hk.elim
    · exact hk.elim
  · exact hk.elim

end Go.Proofs.Ytnnmkenloijkcaa.Eng
