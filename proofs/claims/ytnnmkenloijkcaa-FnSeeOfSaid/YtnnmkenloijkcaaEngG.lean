/- The engine, part G: strings' bytes, structs built, lengths, cuts. -/
import Derived.Test.YtnnmkenloijkcaaEngF
set_option linter.unusedVariables false
set_option linter.unusedSimpArgs false
namespace Go.Proofs.Ytnnmkenloijkcaa.Eng
open Go

variable {E : Env} {s : St} {a : Act} {w : World} {g : Gh} {T : Tab} {C : Ctr} {q : Bool} {o : Oper} {K : St → Prop}

theorem sound_index {t : TypeId} {x i : Operand} {ti : TI} (ho : o.op = .index t x i) (hT : TIok E.P t ti) (h : Rel E s a w g) (hd : ∀ d, o.dst = some d → d < E.nt)
    {b : ByteArray} {k : IntKind} {n : Int} (hx : ev E.glob s x = .d (.str b)) (hi : ev E.glob s i = .d (.int k n)) (hs : ti.str = true)
    (hk : 0 ≤ n ∧ n < b.size ∧ putK s o.dst (.d (.int .u8 (byteAt b n))) K) : OpOk E o a w K := by
  obtain ⟨h0, h1, hk⟩ := hk
  have hx' := rel_ev h x
  rw [hx] at hx'
  have hx' := repV_str hx'
  have hi' := rel_ev h i
  rw [hi] at hi'
  have hi' := repV_int hi'
  have hu := hT.str hs
  have hlt : n.toNat < b.size := by omega
  refine op_put h hd (u := .int .u8 (byteAt b n)) ?_ (repV_mkint _ _ _) hk
  have hb : b[n.toNat]? = some b[n.toNat] := by simp [hlt]
  have hba : byteAt b n = (b[n.toNat].toNat : Int) := by
    unfold byteAt
    have : b.data.toList[n.toNat]? = some b[n.toNat] := by
      rw [Array.getElem?_toList, Array.getElem?_eq_getElem (by simpa using hlt)]; rfl
    rw [this]; rfl
  unfold execOp
  rw [ho]
  simp only [hx', hi', Instr.index, asIntOf, Sem.run_bind, Sem.run_pure, Result.andThen_ok, run_underlying hu, h0, if_true, hb]
  rw [hba]

def setVals (cs : List Value) (off : Nat) : List Value → List Value
  | [] => cs
  | x :: xs => setVals (cs.set off x) (off + 1) xs
theorem setVals_len (vs : List Value) : ∀ (cs : List Value) (off : Nat), (setVals cs off vs).length = cs.length := by
  induction vs with
  | nil => intro cs off; rfl
  | cons v vs ih => intro cs off; simp [setVals, ih]
theorem repVs_setCells {hp : Nat → Obj} : ∀ {xs : List V} {us : List Value} {cs : List V} {vs : List Value} (off : Nat), RepVs w g hp cs vs → RepVs w g hp xs us →
    RepVs w g hp (setCells cs off xs) (setVals vs off us)
  | [], us, cs, vs, off, h, hx => by simp only [RepVs] at hx; subst hx; exact h
  | x :: xs, us, cs, vs, off, h, hx => by
    simp only [RepVs] at hx
    obtain ⟨u, us', rfl, h1, h2⟩ := hx
    exact repVs_setCells (off + 1) (h.set off h1) h2

theorem foldl_set (off : Nat) : ∀ (l : List Value) (k : Nat) (cs : Array Value),
    ((l.zipIdx k).foldl (fun cs (c, j) => cs.setIfInBounds (off + j) c) cs).toList = setVals cs.toList (off + k) l
  | [], k, cs => rfl
  | v :: l, k, cs => by
    simp only [List.zipIdx_cons, List.foldl_cons, setVals]
    rw [foldl_set off l (k + 1)]
    simp [Nat.add_assoc]

theorem fillFlds_cons (flds : List (Nat × Nat)) (zero : List V) (i : Nat) (v : V) (r : List (Nat × V)) (h1 : v ≠ .undef) (h2 : ∀ vs, v ≠ .tup vs) :
    fillFlds flds zero ((i, v) :: r) = match flds[i]? with
      | some (off, size) => match Nat.beq v.cells.length size with
        | true => fillFlds flds (setCells zero off v.cells) r
        | false => none
      | none => none := by
  cases v <;> first | rfl | exact absurd rfl h1 | exact absurd rfl (h2 _)

theorem fill_fst {hp : Nat → Obj} {place : Nat → Option (Nat × Nat)} : ∀ (ps : List (Nat × V)) (qs : List (Nat × Value)) (flds : List (Nat × Nat)) (zero : List V) (cells : Array Value) (cs : List V),
    (∀ (f fo n : Nat), flds[f]? = some (fo, n) → place f = some (fo, n) ∧ fo + n ≤ zero.length) →
    ps.length = qs.length → (∀ (i : Nat) p q, ps[i]? = some p → qs[i]? = some q → p.1 = q.1 ∧ (p.2 ≠ .undef → (∀ vs, p.2 ≠ .tup vs) → RepVs w g hp p.2.cells q.2.cells.toList) ) →
    (∀ p ∈ ps, p.2 ≠ .undef ∧ ∀ vs, p.2 ≠ .tup vs) →
    RepVs w g hp zero cells.toList → fillFlds flds zero ps = some cs → ∃ cells', Instr.fill place cells qs = some cells' ∧ RepVs w g hp cs cells'.toList
  | [], [], flds, zero, cells, cs, hpl, hl, hr, hne, hz, hf => by
    simp only [fillFlds, Option.some.injEq] at hf
    subst hf
    exact ⟨cells, rfl, hz⟩
  | [], _ :: _, _, _, _, _, _, hl, _, _, _, _ => by simp at hl
  | _ :: _, [], _, _, _, _, _, hl, _, _, _, _ => by simp at hl
  | (i, v) :: ps, (j, u) :: qs, flds, zero, cells, cs, hpl, hl, hr, hne, hz, hf => by
    obtain ⟨h1, h2⟩ := hr 0 _ _ rfl rfl
    dsimp only at h1 h2
    subst h1
    have hne0 := hne (i, v) List.mem_cons_self
    have h2 := h2 hne0.1 hne0.2
    rw [fillFlds_cons _ _ _ _ _ hne0.1 hne0.2] at hf
    split at hf
    · rename_i off size hfl
      split at hf
      · rename_i hb
        have hb := Nat.eq_of_beq_eq_true hb
        obtain ⟨hp1, hp2⟩ := hpl _ _ _ hfl
        have hlen := h2.len
        have hzl := hz.len
        have hsz : u.cells.size = size := by simpa [hb] using hlen
        have hbd : ¬ (u.cells.size ≠ size ∨ off + u.cells.size > cells.size) := by
          simp at hzl; omega
        unfold Instr.fill
        simp only [hp1]
        rw [if_neg (by simpa using hbd)]
        refine fill_fst ps qs flds _ _ cs (fun f fo n hfn => ⟨(hpl f fo n hfn).1, ?_⟩) (by simpa using hl) (fun i p q h3 h4 => hr (i + 1) p q (by simpa using h3) (by simpa using h4))
          (fun p hp => hne p (List.mem_cons_of_mem _ hp)) ?_ hf
        · have := (hpl f fo n hfn).2
          have hsl : ∀ (xs : List V) (cs : List V) (off : Nat), (setCells cs off xs).length = cs.length := by
            intro xs
            induction xs with
            | nil => intro cs off; rfl
            | cons x xs ih => intro cs off; simp [setCells, ih]
          rw [hsl]; exact this
        · have := foldl_set off u.cells.toList 0 cells
          rw [← Array.toList_zipIdx, Array.foldl_toList] at this
          rw [this]
          exact repVs_setCells off hz h2
      · simp at hf
    · simp at hf

theorem run_mapM_sizes {P : Program} : ∀ (fs : List Field) (flds : List (Nat × Nat)) (w : World), fs.length = flds.length →
    (∀ (f fo n : Nat), flds[f]? = some (fo, n) → ∃ fl, fs[f]? = some fl ∧ fl.offset = fo ∧ ∃ i, P.info? fl.type = some i ∧ i.size = n) →
    (fs.mapM fun f => (do pure (f.offset, ← sizeOf f.type) : Sem (Nat × Nat))).run P w = .ok flds w
  | [], [], w, _, _ => by simp
  | f :: fs, (o, n) :: r, w, hl, h => by
    obtain ⟨fl, h1, h2, i, h3, h4⟩ := h 0 o n rfl
    simp only [List.getElem?_cons_zero, Option.some.injEq] at h1
    subst h1
    have ih := run_mapM_sizes (P := P) fs r w (by simpa using hl) (fun f fo n hf => h (f + 1) fo n (by simpa using hf))
    have hs : (sizeOf f.type).run P w = .ok n w := by unfold sizeOf typeInfo; simp [h3, h4]
    simp only [List.mapM_cons, Sem.run_bind, hs, Result.andThen_ok, Sem.run_pure, ih, h2]
  | [], _ :: _, _, hl, _ => by simp at hl
  | _ :: _, [], _, hl, _ => by simp at hl

theorem fillFlds_ne : ∀ (ps : List (Nat × V)) (flds : List (Nat × Nat)) (zero cs : List V), fillFlds flds zero ps = some cs → ∀ p ∈ ps, p.2 ≠ .undef ∧ ∀ vs, p.2 ≠ .tup vs
  | [], _, _, _, _, p, hp => by simp at hp
  | (i, v) :: ps, flds, zero, cs, hf, p, hp => by
    have h1 : v ≠ .undef := by rintro rfl; simp [fillFlds] at hf
    have h2 : ∀ vs, v ≠ .tup vs := by rintro vs rfl; simp [fillFlds] at hf
    rw [fillFlds_cons _ _ _ _ _ h1 h2] at hf
    rcases List.mem_cons.1 hp with rfl | hp
    · exact ⟨h1, h2⟩
    · split at hf
      · split at hf
        · exact fillFlds_ne ps flds _ cs hf p hp
        · simp at hf
      · simp at hf

theorem sound_build {t : TypeId} {parts : Array (Nat × Operand)} {ti : TI} (ho : o.op = .build t parts) (hT : TIok E.P t ti) (h : Rel E s a w g) (hd : ∀ d, o.dst = some d → d < E.nt)
    (hk : match ti.agg, fillFlds ti.flds (ti.zero.map .d) (parts.toList.map fun p => (p.1, ev E.glob s p.2)) with
      | true, some cs => putK s o.dst (.agg cs) K
      | _, _ => False) : OpOk E o a w K := by
  split at hk
  · rename_i cs hg hf
    obtain ⟨fs, hu, hall⟩ := hT.flds hg
    obtain ⟨fs', hu', hlen⟩ := hT.nflds hg
    rw [hu] at hu'; injection hu' with hu'; injection hu' with hu'; subst hu'
    obtain ⟨i, hi, _, _, hz⟩ := hT.info
    have hzr : ∃ z : Value, (zeroValue t).run E.P w = .ok z w ∧ RepVs w g s.hp (ti.zero.map .d) z.cells.toList := by
      by_cases hze : ti.zero = []
      · exact absurd hze (hT.nz hg)
      · obtain ⟨z, h1, h2⟩ := hz hze
        exact ⟨z, by unfold zeroValue typeInfo; simp [hi, h1], zerosB_reps w g s.hp _ _ h2⟩
    obtain ⟨z, hz1, hz2⟩ := hzr
    have hne := fillFlds_ne _ _ _ _ hf
    obtain ⟨cells', h1, h2⟩ := fill_fst (place := fun i => (ti.flds.toArray)[i]?) (parts.toList.map fun p => (p.1, ev E.glob s p.2)) (parts.toList.map fun p => (p.1, a.eval p.2)) ti.flds (ti.zero.map .d) z.cells cs
      (fun f fo n hfn => ⟨by simpa using hfn, by
        obtain ⟨_, _, _, _, _, h6⟩ := hall f fo n hfn
        simpa using h6⟩) (by simp)
      (fun i p q h3 h4 => by
        rw [List.getElem?_map] at h3 h4
        cases hp : parts.toList[i]? with
        | none => simp [hp] at h3
        | some pp =>
          simp only [hp, Option.map_some, Option.some.injEq] at h3 h4
          subst h3; subst h4
          exact ⟨rfl, fun h5 h6 => (rel_ev h pp.2).cells h5 h6⟩) hne hz2 hf
    refine op_put h hd (u := .agg cells') ?_ (by simp only [RepV]; exact ⟨_, rfl, h2⟩) hk
    unfold execOp
    rw [ho]
    have hm := run_mapM_sizes (P := E.P) fs.toList ti.flds w (by simpa using hlen) (fun f fo n hfn => by
      obtain ⟨fl, h3, h4, h5, h6, _⟩ := hall f fo n hfn
      exact ⟨fl, by simpa using h3, h4, h6⟩)
    have hm' : (fs.mapM fun f => (do pure (f.offset, ← sizeOf f.type) : Sem (Nat × Nat))).run E.P w = .ok ti.flds.toArray w := by
      rw [Array.mapM_eq_mapM_toList]
      simp only [Sem.run_map, hm, Result.andThen_ok]
    have hpl : (parts.map fun x => match x with | (i, x) => (i, a.eval x)).toList = parts.toList.map fun p => (p.1, a.eval p.2) := by simp
    simp only [Instr.build, Sem.run_bind, hz1, Result.andThen_ok, run_underlying hu, hm', hpl, h1, Sem.run_pure]
  · exact hk.elim

end Go.Proofs.Ytnnmkenloijkcaa.Eng
