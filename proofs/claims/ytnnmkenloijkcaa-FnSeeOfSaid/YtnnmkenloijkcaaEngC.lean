/- The engine, part C: the table of types holds; what Rel says is kept. -/
import Derived.Test.YtnnmkenloijkcaaEngB
set_option linter.unusedVariables false
set_option linter.unusedSimpArgs false
namespace Go.Proofs.Ytnnmkenloijkcaa.Eng
open Go

def zeroB : D → Value → Bool
  | .bool a, .bool b => a == b
  | .int k a, .int k' b => k == k' && a == b
  | .str a, .string b => a.size == 0 && b.size == 0
  | .slc true _ [], .slice none 0 0 => true
  | .nilp, .pointer none => true
  | .nilfn, .nilFunc => true
  | _, _ => false
def zerosB : List D → List Value → Bool
  | [], [] => true
  | x :: xs, v :: vs => zeroB x v && zerosB xs vs
  | _, _ => false
def fldsB (P : Program) (m : Nat) : List Field → List (Nat × Nat) → Bool
  | [], [] => true
  | f :: fs, (o, n) :: r => f.offset == o && n != 0 && (match P.info? f.type with | some i => i.size == n | none => false) && Nat.ble (o + n) m && fldsB P m fs r
  | _, _ => false
def tiB (P : Program) (t : Nat) (ti : TI) : Bool :=
  match P.info? t, P.underlying t with
  | some i, some d =>
    i.size == ti.size && i.bytes == ti.bytes && (ti.agg || ti.size != 0) &&
    (ti.zero.isEmpty || match i.zero with | some z => zerosB ti.zero z.cells.toList | none => false) &&
    (match d with
     | .struct fs => !ti.zero.isEmpty && !ti.bool && ti.agg && ti.kind.isNone && !ti.slc && !ti.str && fldsB P ti.zero.length fs.toList ti.flds
     | .slice e => !ti.bool && !ti.agg && ti.kind.isNone && ti.slc && !ti.str && !ti.cmp && e == ti.elem && ti.esz != 0 &&
        (match P.info? e with
         | some ie => ie.size == ti.esz && ie.bytes == ti.ebytes && (match ie.zero with | some z => zerosB ti.ezero z.cells.toList && z.cells.size == ti.esz | none => false)
         | none => false)
     | .int k => !ti.bool && !ti.agg && !ti.slc && !ti.str && !ti.cmp && ti.kind == some k
     | .bool => ti.bool && !ti.agg && !ti.slc && !ti.str && !ti.cmp && ti.kind.isNone
     | .string => !ti.bool && !ti.agg && !ti.slc && ti.str && !ti.cmp && ti.kind.isNone
     | .array .. => false
     | _ => !ti.bool && !ti.agg && !ti.slc && !ti.str && !ti.cmp && ti.kind.isNone)
  | _, _ => false
def tabB (P : Program) : Tab → Bool
  | [] => true
  | (t, ti) :: r => tiB P t ti && tabB P r

structure TIok (P : Program) (t : Nat) (ti : TI) : Prop where
  one : ti.agg = false → ti.size ≠ 0
  nz : ti.agg = true → ti.zero ≠ []
  info : ∃ i, P.info? t = some i ∧ i.size = ti.size ∧ i.bytes = ti.bytes ∧ (ti.zero ≠ [] → ∃ z, i.zero = some z ∧ zerosB ti.zero z.cells.toList = true)
  und : ∃ d, P.underlying t = some d ∧ ((match d with | .struct _ | .array _ _ => true | _ => false) = ti.agg)
  flds : ti.agg = true → ∃ fs : Array Field, P.underlying t = some (.struct fs) ∧ ∀ (f fo n : Nat), ti.flds[f]? = some (fo, n) →
    ∃ fl, fs[f]? = some fl ∧ fl.offset = fo ∧ n ≠ 0 ∧ (∃ i, P.info? fl.type = some i ∧ i.size = n) ∧ fo + n ≤ ti.zero.length
  nflds : ti.agg = true → ∃ fs : Array Field, P.underlying t = some (.struct fs) ∧ fs.size = ti.flds.length
  slc : ti.slc = true → P.underlying t = some (.slice ti.elem) ∧ ti.esz ≠ 0 ∧ ∃ i, P.info? ti.elem = some i ∧ i.size = ti.esz ∧ i.bytes = ti.ebytes ∧
    ∃ z, i.zero = some z ∧ zerosB ti.ezero z.cells.toList = true ∧ z.cells.size = ti.esz
  str : ti.str = true → P.underlying t = some .string
  kind : ∀ k, ti.kind = some k → P.underlying t = some (.int k)
  cmp : ti.cmp = true → ti.agg = true
  bool : ti.bool = true → P.underlying t = some .bool

theorem fldsB_ok {P : Program} {m : Nat} : ∀ (fs : List Field) (l : List (Nat × Nat)), fldsB P m fs l = true → ∀ (f fo n : Nat), l[f]? = some (fo, n) →
    ∃ fl, fs[f]? = some fl ∧ fl.offset = fo ∧ n ≠ 0 ∧ (∃ i, P.info? fl.type = some i ∧ i.size = n) ∧ fo + n ≤ m
  | [], [], _, f, fo, n, h => by simp at h
  | x :: fs, (o, k) :: r, hb, f, fo, n, h => by
    simp only [fldsB, Bool.and_eq_true] at hb
    obtain ⟨⟨⟨⟨h1, h2⟩, h3⟩, h5⟩, h4⟩ := hb
    cases f with
    | zero =>
      simp only [List.getElem?_cons_zero, Option.some.injEq, Prod.mk.injEq] at h
      obtain ⟨rfl, rfl⟩ := h
      refine ⟨x, rfl, by simpa using h1, by simpa using h2, ?_, Nat.le_of_ble_eq_true h5⟩
      cases hi : P.info? x.type with
      | none => simp [hi] at h3
      | some i => exact ⟨i, rfl, by simpa [hi] using h3⟩
    | succ f => exact fldsB_ok fs r h4 f fo n (by simpa using h)
  | [], _ :: _, hb, _, _, _, _ => by simp [fldsB] at hb
  | _ :: _, [], hb, _, _, _, _ => by simp [fldsB] at hb

theorem fldsB_len {P : Program} {m : Nat} : ∀ (fs : List Field) (l : List (Nat × Nat)), fldsB P m fs l = true → fs.length = l.length
  | [], [], _ => rfl
  | x :: fs, (o, k) :: r, hb => by
    simp only [fldsB, Bool.and_eq_true] at hb
    simp [fldsB_len fs r hb.2]
  | [], _ :: _, hb => by simp [fldsB] at hb
  | _ :: _, [], hb => by simp [fldsB] at hb

theorem tiB_ok {P : Program} {t : Nat} {ti : TI} (h : tiB P t ti = true) : TIok P t ti := by
  unfold tiB at h
  cases hi : P.info? t with
  | none => simp [hi] at h
  | some i =>
    cases hu : P.underlying t with
    | none => simp [hi, hu] at h
    | some d =>
      simp only [hi, hu, Bool.and_eq_true] at h
      obtain ⟨⟨⟨⟨h1, h2⟩, h2'⟩, h3⟩, h4⟩ := h
      have hone : ti.agg = false → ti.size ≠ 0 := fun hg => by simpa [hg] using h2'
      have hinfo : ∃ i', P.info? t = some i' ∧ i'.size = ti.size ∧ i'.bytes = ti.bytes ∧ (ti.zero ≠ [] → ∃ z, i'.zero = some z ∧ zerosB ti.zero z.cells.toList = true) := by
        refine ⟨i, hi, by simpa using h1, by simpa using h2, fun hz => ?_⟩
        simp only [Bool.or_eq_true] at h3
        rcases h3 with h3 | h3
        · exact absurd (by simpa using h3) hz
        · cases hzz : i.zero with
          | none => simp [hzz] at h3
          | some z => exact ⟨z, rfl, by simpa [hzz] using h3⟩
      cases d with
      | struct fs =>
        simp only [Bool.and_eq_true, Bool.not_eq_true', Option.isNone_iff_eq_none] at h4
        obtain ⟨⟨⟨⟨⟨⟨az, a0⟩, a1⟩, a2⟩, a3⟩, a4⟩, a5⟩ := h4
        refine ⟨hone, fun _ => by simpa using az, hinfo, ⟨_, hu, a1.symm⟩, fun _ => ⟨fs, hu, fun f fo n hf => ?_⟩, fun _ => ⟨fs, hu, by simpa using fldsB_len _ _ a5⟩, by simp [a3], by simp [a4], by simp [a2], fun _ => a1, by simp [a0]⟩
        obtain ⟨fl, b1, b2⟩ := fldsB_ok _ _ a5 f fo n hf
        exact ⟨fl, by simpa using b1, b2⟩
      | slice e =>
        simp only [Bool.and_eq_true, Bool.not_eq_true', Option.isNone_iff_eq_none, beq_iff_eq, bne_iff_ne] at h4
        obtain ⟨⟨⟨⟨⟨⟨⟨⟨a0, a1⟩, a2⟩, a3⟩, a4⟩, a4'⟩, a5⟩, a6⟩, a7⟩ := h4
        refine ⟨hone, by simp [a1], hinfo, ⟨_, hu, a1.symm⟩, by simp [a1], by simp [a1], fun _ => ⟨by rw [hu, a5], a6, ?_⟩, by simp [a4], by simp [a2], by simp [a4'], by simp [a0]⟩
        subst a5
        cases hie : P.info? ti.elem with
        | none => simp [hie] at a7
        | some ie =>
          simp only [hie, Bool.and_eq_true, beq_iff_eq] at a7
          obtain ⟨⟨b1, b2⟩, b3⟩ := a7
          refine ⟨ie, rfl, b1, b2, ?_⟩
          cases hzz : ie.zero with
          | none => simp [hzz] at b3
          | some z =>
            simp only [hzz, Bool.and_eq_true, beq_iff_eq] at b3
            exact ⟨z, rfl, b3⟩
      | int k =>
        simp only [Bool.and_eq_true, Bool.not_eq_true', beq_iff_eq] at h4
        obtain ⟨⟨⟨⟨⟨a0, a1⟩, a2⟩, a3⟩, a3'⟩, a4⟩ := h4
        refine ⟨hone, by simp [a1], hinfo, ⟨_, hu, a1.symm⟩, by simp [a1], by simp [a1], by simp [a2], by simp [a3], fun k' hk => ?_, by simp [a3'], by simp [a0]⟩
        rw [a4] at hk; injection hk with hk; subst hk; exact hu
      | string =>
        simp only [Bool.and_eq_true, Bool.not_eq_true', Option.isNone_iff_eq_none] at h4
        obtain ⟨⟨⟨⟨⟨a0, a1⟩, a2⟩, a3⟩, a3'⟩, a4⟩ := h4
        exact ⟨hone, by simp [a1], hinfo, ⟨_, hu, a1.symm⟩, by simp [a1], by simp [a1], by simp [a2], fun _ => hu, by simp [a4], by simp [a3'], by simp [a0]⟩
      | bool =>
        simp only [Bool.and_eq_true, Bool.not_eq_true', Option.isNone_iff_eq_none] at h4
        obtain ⟨⟨⟨⟨⟨a0, a1⟩, a2⟩, a3⟩, a3'⟩, a4⟩ := h4
        exact ⟨hone, by simp [a1], hinfo, ⟨_, hu, a1.symm⟩, by simp [a1], by simp [a1], by simp [a2], by simp [a3], by simp [a4], by simp [a3'], fun _ => hu⟩
      | array n e => simp at h4
      | _ =>
        simp only [Bool.and_eq_true, Bool.not_eq_true', Option.isNone_iff_eq_none] at h4
        obtain ⟨⟨⟨⟨⟨a0, a1⟩, a2⟩, a3⟩, a3'⟩, a4⟩ := h4
        exact ⟨hone, by simp [a1], hinfo, ⟨_, hu, a1.symm⟩, by simp [a1], by simp [a1], by simp [a2], by simp [a3], by simp [a4], by simp [a3'], by simp [a0]⟩

theorem tab_ok {P : Program} : ∀ {T : Tab}, tabB P T = true → ∀ {t : Nat} {ti : TI}, T.get t = some ti → TIok P t ti
  | [], _, t, ti, h => by simp [Tab.get] at h
  | (k, i) :: r, hb, t, ti, h => by
    simp only [tabB, Bool.and_eq_true] at hb
    unfold Tab.get at h
    split at h
    · rename_i hk
      obtain rfl := Nat.eq_of_beq_eq_true hk
      injection h with h
      subst h
      exact tiB_ok hb.1
    · exact tab_ok hb.2 h

theorem zeroB_rep {x : D} {v : Value} (h : zeroB x v = true) (w : World) (imm : Imm) : RepD w imm x v := by
  unfold zeroB at h
  split at h
  · simp only [beq_iff_eq] at h; subst h; exact .bool _
  · simp only [Bool.and_eq_true, beq_iff_eq] at h; obtain ⟨rfl, rfl⟩ := h; exact .int _ _
  · rename_i a b
    simp only [Bool.and_eq_true, beq_iff_eq] at h
    have : a = b := by
      obtain ⟨⟨a⟩⟩ := a; obtain ⟨⟨b⟩⟩ := b
      obtain ⟨h1, h2⟩ := h
      simp [ByteArray.size] at h1 h2
      subst h1; subst h2; rfl
    subst this; exact .str _
  · rename_i e
    exact .slc true e [] none 0 (fun _ _ => default) (by simp) (by simp) (by simp) (by simp) (by simp) (by simp) (by simp)
  · exact .nilp
  · exact .nilfn
  · simp at h

theorem zerosB_reps (w : World) (g : Gh) (hp : Nat → Obj) : ∀ (xs : List D) (vs : List Value), zerosB xs vs = true → RepVs w g hp (xs.map .d) vs
  | [], [], _ => by simp [RepVs]
  | x :: xs, v :: vs, h => by
    simp only [zerosB, Bool.and_eq_true] at h
    simp only [List.map_cons, RepVs]
    exact ⟨v, vs, rfl, by simpa only [RepV] using zeroB_rep h.1 w g.imm, zerosB_reps w g hp xs vs h.2⟩
  | [], _ :: _, h => by simp [zerosB] at h
  | _ :: _, [], h => by simp [zerosB] at h

end Go.Proofs.Ytnnmkenloijkcaa.Eng
