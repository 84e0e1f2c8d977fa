/- The engine, part V: structs are compared cell by cell. -/
import Derived.Test.YtnnmkenloijkcaaEngU
import Derived.Laws.StructEq
import Derived.ChangeKeysEq
set_option linter.unusedVariables false
set_option linter.unusedSimpArgs false
namespace Go.Proofs.Ytnnmkenloijkcaa.Eng
open Go

def fldsC (P : Program) (c : TypeId → Nat → List D → Bool) (k : Nat) : List Field → Nat → List D → Bool
  | [], off, _ => Nat.beq off k
  | f :: fs, off, z => f.name != "_" && Nat.beq f.offset off && match P.info? f.type with
    | some i => i.size != 0 && c f.type i.size (z.take i.size) && fldsC P c k fs (off + i.size) (z.drop i.size)
    | none => false
def cmpT (P : Program) : Nat → TypeId → Nat → List D → Bool
  | 0, _, _, _ => false
  | n + 1, t, k, z => match P.underlying t with
    | some .bool => match z with | [.bool _] => Nat.beq k 1 | _ => false
    | some (.int i) => match z with | [.int j _] => Nat.beq k 1 && decide (j = i) | _ => false
    | some .string => match z with | [.str _] => Nat.beq k 1 | _ => false
    | some (.struct fs) => (match P.info? t with | some i => Nat.beq i.size k | none => false) && !P.stoodInHeld t && fldsC P (cmpT P n) k fs.toList 0 z
    | _ => false
def cmpB (P : Program) : Tab → Bool
  | [] => true
  | (t, ti) :: r => (match ti.cmp with | true => cmpT P 9 t ti.size ti.zero && Nat.beq ti.zero.length ti.size && !P.eqGuardType P.depth t && (match P.underlying t with | some (.struct _) => true | _ => false) | false => true) && cmpB P r

theorem eqVs_len : ∀ {z : List D} {xs ys : List V} {b : Bool}, eqVs z xs ys = some b → xs.length = z.length ∧ ys.length = z.length
  | [], xs, ys, b, h => by
    unfold eqVs at h
    split at h <;> simp_all
  | z :: zs, xs, ys, b, h => by
    unfold eqVs at h
    split at h
    · simp_all
    · simp_all
    · rename_i z' zs' x' xs' y' ys' hne hz
      split at h
      · rename_i a c h1 h2
        injection hz with hz1 hz2
        subst hz2
        have := eqVs_len h2
        simp [this.1, this.2]
      · simp at h
    · simp at h
theorem eqVs_cons {z : D} {zs : List D} {xs ys : List V} {b : Bool} (h : eqVs (z :: zs) xs ys = some b) :
    ∃ p q xs' ys' a c, xs = .d p :: xs' ∧ ys = .d q :: ys' ∧ eqD z p q = some a ∧ eqVs zs xs' ys' = some c ∧ b = (a && c) := by
  unfold eqVs at h
  split at h
  · rename_i hz; simp at hz
  · rename_i z' p q hz
    injection hz with hz1 hz2
    subst hz1; subst hz2
    exact ⟨p, q, [], [], b, true, rfl, rfl, h, by simp [eqVs], by simp⟩
  · rename_i z' zs' p xs' q ys' hne hz
    injection hz with hz1 hz2
    subst hz1; subst hz2
    split at h
    · rename_i a c h3 h4
      injection h with h
      exact ⟨p, q, xs', ys', a, c, rfl, rfl, h3, h4, h.symm⟩
    · simp at h
  · simp at h
theorem eqVs_append : ∀ {z1 z2 : List D} {xs ys : List V} {b : Bool}, eqVs (z1 ++ z2) xs ys = some b → ∃ b1 b2, eqVs z1 (xs.take z1.length) (ys.take z1.length) = some b1 ∧ eqVs z2 (xs.drop z1.length) (ys.drop z1.length) = some b2 ∧ b = (b1 && b2)
  | [], z2, xs, ys, b, h => ⟨true, b, by simp [eqVs], by simpa using h, by simp⟩
  | z :: z1, z2, xs, ys, b, h => by
    obtain ⟨p, q, xs', ys', a, c, rfl, rfl, h1, h2, rfl⟩ := eqVs_cons (by simpa using h)
    obtain ⟨b1, b2, h3, h4, rfl⟩ := eqVs_append h2
    refine ⟨a && b1, b2, ?_, by simpa using h4, by rw [Bool.and_assoc]⟩
    simp only [List.length_cons, List.take_succ_cons]
    have hl := eqVs_len h3
    cases z1 with
    | nil =>
      simp [eqVs] at h3 ⊢; subst h3; simpa using h1
    | cons z' z1 =>
      cases hx : xs'.take (z' :: z1).length with
      | nil => rw [hx] at hl; simp at hl
      | cons x' x1 => cases hy : ys'.take (z' :: z1).length with
        | nil => rw [hy] at hl; simp at hl
        | cons y' y1 =>
          rw [hx, hy] at h3
          unfold eqVs
          simp only [h1, h3]

section
variable {P : Program} {w : World} {g : Gh} {hp : Nat → Obj}

theorem part_one {t : TypeId} {d : TypeDesc} (hu : P.underlying t = some d) (hd : (match d with | .struct _ | .array _ _ => true | _ => false) = false) {U : Array Value} {off : Nat} {v : Value} (hv : U[off]? = some v) : (part t U off).run P w = .ok v w := by
  cases d <;> simp at hd <;> simp [part, isAgg, run_underlying hu, hv]

theorem part_struct {t : TypeId} {fs : Array Field} {i : TypeInfo} (hu : P.underlying t = some (.struct fs)) (hi : P.info? t = some i) {U : Array Value} {off : Nat} : (part t U off).run P w = .ok (.agg (U.extract off (off + i.size))) w := by
  have : P.cellsOf t = i.size := by simp [Program.cellsOf, hi]
  simp [part, isAgg, run_underlying hu, run_sizeOf w hi, this]

def EqOk (P : Program) (w : World) (g : Gh) (hp : Nat → Obj) (d : Nat) (t : TypeId) (k : Nat) (z : List D) : Prop :=
  ∀ (U W : Array Value) (off : Nat) (xs ys : List V) (b : Bool), z.length = k → RepVs w g hp xs ((U.toList.drop off).take k) → RepVs w g hp ys ((W.toList.drop off).take k) → eqVs z xs ys = some b →
    ∃ u v, (part t U off).run P w = .ok u w ∧ (part t W off).run P w = .ok v w ∧ (Op.equalIn d t u v).run P w = .ok b w

theorem fldsC_le {c : TypeId → Nat → List D → Bool} {k : Nat} : ∀ (fs : List Field) (o : Nat) (z : List D), fldsC P c k fs o z = true → o ≤ k
  | [], o, z, h => by have := Nat.eq_of_beq_eq_true (by simpa [fldsC] using h); omega
  | f :: fs, o, z, h => by
    unfold fldsC at h
    simp only [Bool.and_eq_true] at h
    obtain ⟨⟨_, _⟩, h⟩ := h
    split at h
    · simp only [Bool.and_eq_true] at h
      have := fldsC_le fs _ _ h.2
      omega
    · simp at h

theorem flds_eq {c : TypeId → Nat → List D → Bool} {d k : Nat} (hc : ∀ t n z, c t n z = true → EqOk P w g hp d t n z) : ∀ (fs : List Field) (o : Nat) (z : List D), fldsC P c k fs o z = true → ∀ (U W : Array Value) (xs ys : List V) (b : Bool),
    z.length + o = k → RepVs w g hp xs (U.toList.drop o) → RepVs w g hp ys (W.toList.drop o) → eqVs z xs ys = some b → (Op.eqFields d U W fs).run P w = .ok b w
  | [], o, z, hf, U, W, xs, ys, b, hx, hU, hW, he => by
    have ho := Nat.eq_of_beq_eq_true (by simpa [fldsC] using hf)
    have h1 : z = [] := by cases z with | nil => rfl | cons => simp at hx; omega
    subst h1
    have := eqVs_len he
    simp at this
    obtain ⟨rfl, rfl⟩ := this
    simp [eqVs] at he
    subst he
    simp [Op.eqFields]
  | f :: fs, o, z, hf, U, W, xs, ys, b, hx, hU, hW, he => by
    unfold fldsC at hf
    cases hi : P.info? f.type with
    | none => simp [hi] at hf
    | some i =>
      simp only [hi, Bool.and_eq_true] at hf
      obtain ⟨⟨hn, ho⟩, ⟨hz, hcf⟩, hr⟩ := hf
      have ho := Nat.eq_of_beq_eq_true ho
      subst ho
      have hn' : f.name ≠ "_" := by simpa using hn
      have hk := fldsC_le _ _ _ hr
      rw [← List.take_append_drop i.size z] at he
      have hlz : (z.take i.size).length = i.size := by simp; omega
      obtain ⟨b1, b2, h1, h2, rfl⟩ := eqVs_append he
      rw [hlz] at h1 h2
      obtain ⟨u, v, q1, q2, q3⟩ := hc _ _ _ hcf U W f.offset _ _ b1 hlz (hU.take i.size) (hW.take i.size) h1
      have hrec := flds_eq hc fs (f.offset + i.size) _ hr U W (xs.drop i.size) (ys.drop i.size) b2 (by simp; omega)
        (by have := hU.drop i.size; rwa [List.drop_drop] at this) (by have := hW.drop i.size; rwa [List.drop_drop] at this) h2
      simp only [Op.eqFields, hn', ne_eq, not_false_eq_true, if_true, Sem.run_bind, q1, q2, q3, Result.andThen_ok]
      cases b1 with
      | true => simpa using hrec
      | false => simp

theorem cmp_struct {n m : Nat} {t : TypeId} {k : Nat} {z : List D} (ih : ∀ t n' z', cmpT P n t n' z' = true → EqOk P w g hp (n + m) t n' z') {fs : Array Field} (hu : P.underlying t = some (.struct fs)) (h : cmpT P (n + 1) t k z = true)
    {U W : Array Value} {xs ys : List V} {b : Bool} (hz : z.length = k) (hU : RepVs w g hp xs U.toList) (hW : RepVs w g hp ys W.toList) (he : eqVs z xs ys = some b) : (Op.equalIn (n + m + 1) t (.agg U) (.agg W)).run P w = .ok b w := by
  unfold cmpT at h
  simp only [hu, Bool.and_eq_true] at h
  obtain ⟨⟨hi, hp'⟩, hf⟩ := h
  have hfs : P.fieldsOf t = fs := by simp [Program.fieldsOf, hu]
  rw [run_equalIn_agg w (n + m) t _ _ (by rw [hfs]; exact hu) (by simpa using hp'), hfs]
  exact flds_eq ih fs.toList 0 z hf _ _ xs ys b (by omega) (by simpa using hU) (by simpa using hW) he

theorem cmp_ok : ∀ (n m : Nat) (t : TypeId) (k : Nat) (z : List D), cmpT P n t k z = true → EqOk P w g hp (n + m) t k z
  | 0, m, t, k, z, h => by simp [cmpT] at h
  | n + 1, m, t, k, z, h => by
    intro U W off xs ys b hz hU hW he
    have hone : ∀ z0, z = [z0] → k = 1 → ∃ p q u v, U[off]? = some u ∧ W[off]? = some v ∧ RepD w g.imm p u ∧ RepD w g.imm q v ∧ eqD z0 p q = some b := fun z0 hz0 hk => by
      subst hz0; subst hk
      obtain ⟨p, q, xs', ys', a, c, rfl, rfl, h1, h2, rfl⟩ := eqVs_cons he
      have := eqVs_len h2
      simp at this
      obtain ⟨rfl, rfl⟩ := this
      simp [eqVs] at h2
      subst h2
      obtain ⟨u, hu1, hu2⟩ := RepVs.get hU (i := 0) rfl
      obtain ⟨v, hv1, hv2⟩ := RepVs.get hW (i := 0) rfl
      simp only [RepV] at hu2 hv2
      exact ⟨p, q, u, v, by simpa using hu1, by simpa using hv1, hu2, hv2, by simpa using h1⟩
    have hnm : n + 1 + m = (n + m) + 1 := by omega
    rw [hnm]
    have h0 := h
    unfold cmpT at h
    split at h
    · rename_i hu
      split at h
      · obtain ⟨p, q, u, v, h1, h2, h3, h4, h5⟩ := hone _ rfl (Nat.eq_of_beq_eq_true h)
        refine ⟨u, v, part_one hu rfl h1, part_one hu rfl h2, ?_⟩
        unfold eqD at h5
        split at h5 <;> first | (rename_i hh; simp at hh; done) | skip
        · cases h3; cases h4; injection h5 with h5; subst h5; exact run_equalIn_bool' _ _ _ _ _ hu
        · simp at h5
      · simp at h
    · rename_i i hu
      split at h
      · rename_i j nn
        simp only [Bool.and_eq_true] at h
        obtain ⟨p, q, u, v, h1, h2, h3, h4, h5⟩ := hone _ rfl (Nat.eq_of_beq_eq_true h.1)
        refine ⟨u, v, part_one hu rfl h1, part_one hu rfl h2, ?_⟩
        unfold eqD at h5
        split at h5 <;> first | (rename_i hh; simp at hh; done) | skip
        · split at h5
          · rename_i hk1 hk2
            have hk1 := of_decide_eq_true hk1
            have hk2 := of_decide_eq_true hk2
            subst hk1; subst hk2
            cases h3; cases h4; injection h5 with h5; subst h5
            exact run_equalIn_int _ _ _ _ _ _ _ hu
          · simp at h5
        · simp at h5
      · simp at h
    · rename_i hu
      split at h
      · obtain ⟨p, q, u, v, h1, h2, h3, h4, h5⟩ := hone _ rfl (Nat.eq_of_beq_eq_true h)
        refine ⟨u, v, part_one hu rfl h1, part_one hu rfl h2, ?_⟩
        unfold eqD at h5
        split at h5 <;> first | (rename_i hh; simp at hh; done) | skip
        · cases h3; cases h4; injection h5 with h5; subst h5
          rw [run_equalIn_string _ _ _ _ _ hu, beq_toListBytes]
        · simp at h5
      · simp at h
    · rename_i fs hu
      have h' := h
      simp only [Bool.and_eq_true] at h
      obtain ⟨⟨hi, hp'⟩, hf⟩ := h
      cases hinfo : P.info? t with
      | none => simp [hinfo] at hi
      | some i =>
        simp only [hinfo] at hi
        have hi := Nat.eq_of_beq_eq_true hi
        subst hi
        refine ⟨_, _, part_struct hu hinfo, part_struct hu hinfo, ?_⟩
        have htl : ∀ U : Array Value, (U.extract off (off + i.size)).toList = (U.toList.drop off).take i.size := fun U => by simp [List.extract]
        exact cmp_struct (fun t n' z' h' => cmp_ok n m t n' z' h') hu h0 hz (by rw [htl]; exact hU) (by rw [htl]; exact hW) he
    · simp at h

theorem cmpB_ok : ∀ {T : Tab}, cmpB P T = true → ∀ t ti, T.get t = some ti → ti.cmp = true → CmpOk P t ti.zero
  | [], _, t, ti, h => by simp [Tab.get] at h
  | (k, i) :: r, hb, t, ti, h => by
    intro hcmp
    simp only [cmpB, Bool.and_eq_true] at hb
    unfold Tab.get at h
    split at h
    · rename_i hk
      obtain rfl := Nat.eq_of_beq_eq_true hk
      injection h with h
      subst h
      have hb1 := hb.1
      simp only [hcmp, Bool.and_eq_true] at hb1
      obtain ⟨⟨⟨h1, h2⟩, h3⟩, h4⟩ := hb1
      split at h4
      · rename_i fs hu
        intro w g hp xs ys us vs b hx hy he x y
        have hg : P.eqGuardType P.depth k = false := by simpa using h3
        have heq := cmp_struct (w := w) (g := g) (hp := hp) (n := 8) (m := 9991) (fun t n' z' h' => cmp_ok 8 9991 t n' z' h') hu h1 (Nat.eq_of_beq_eq_true h2) hx hy he
        refine ⟨run_eqGuard_agg w _ _ _ _ _ _ hg, run_eqGuard_agg w _ _ _ _ _ _ hg, ?_, ?_⟩
        · rw [run_eql_struct]
          show ((Op.equalIn (8 + 9991 + 1) k (.agg us) (.agg vs)).run P w).andThen _ = _
          rw [heq]; rfl
        · rw [run_neq_struct]
          show ((Op.equalIn (8 + 9991 + 1) k (.agg us) (.agg vs)).run P w).andThen _ = _
          rw [heq]; rfl
      · simp at h4
    · exact cmpB_ok hb.2 t ti h hcmp
end

end Go.Proofs.Ytnnmkenloijkcaa.Eng
