/- What the laws' comparisons compute. -/
import Derived.Test.YtnnmkenloijkcaaSeeS
import Derived.Test.YtnnmkenloijkcaaDrawD
set_option linter.unusedVariables false
set_option maxRecDepth 10000
namespace Go.Proofs.Ytnnmkenloijkcaa
open Go Eng

open Classical in
noncomputable def eqI (l m : List Int) : Bool := decide (l = m)
theorem eqI_t {l m : List Int} : eqI l m = true ↔ l = m := by simp [eqI]
theorem eqI_self (l : List Int) : eqI l l = true := eqI_t.2 rfl
theorem eqI_f {l m : List Int} (h : l ≠ m) : eqI l m = false := by
  cases hb : eqI l m with
  | false => rfl
  | true => exact absurd (eqI_t.1 hb) h
theorem ints_ok (f1 f2 : Bool) (l m : List Int) : ACalls Try.prog G0 11 [.d (dInts f1 l), .d (dInts f2 m)] (· = vb (eqI l m)) := by
  refine spec_intro tabOk Try.func11 (by kernel_rfl) rfl ?_
  conv => whnf
  intro hlen
  have hlen := le_map hlen
  conv => whnf
  intro _
  conv => whnf
  refine ⟨fun hne => ?_, fun heq => ?_⟩ <;> conv => whnf
  · exact congrArg vb (eqI_f fun h => hne (by rw [h])).symm
  have heq : l.length = m.length := by
    have := Classical.not_not.1 heq
    simp only [List.length_map] at this
    omega
  let P : Nat → Prop := fun i => ∀ j, j < i → l[j]? = m[j]?
  let I : Nat → SL := fun i => ⟨[(0, .d (dInts f1 l)), (1, .d (dInts f2 m)), (5, vi i)], []⟩
  refine loop_up l.length P I (by intro j h; omega) ?_ ?_
  · refine ⟨?_, ?_, rfl⟩ <;> repeat' (first | exact weakSl_nil | exact weakHp_nil | refine weakSl_cons ?_ rfl ?_ | refine weakHp_cons ?_ rfl ?_)
    all_goals rfl
  intro i hi hP
  conv => whnf
  intro _
  refine ⟨fun hlt => ?_, fun hge => ?_⟩ <;> conv => whnf
  · have hlt := lt_map hlt
    refine (entsAt hlt).elim fun n hn => ?_
    refine (entsAt (l := m) (i := i) (by omega)).elim fun k hk => ?_
    refine ⟨by omega, encI n, row_map hn, ?_⟩
    conv => whnf
    refine ⟨by omega, encI k, row_map hk, ?_⟩
    conv => whnf
    refine ⟨fun hd => ?_, fun hd => ?_⟩ <;> conv => whnf
    · exact congrArg vb (eqI_f fun h => hd (by rw [h, hk] at hn; injection hn with hn; exact hn.symm)).symm
    · have hd : n = k := Classical.not_not.1 hd
      exact up_next hlt (fun j hj => by
        by_cases hji : j = i
        · subst hji; rw [hn, hk, hd]
        · exact hP j (by omega)) ⟨weakSl_cons rfl rfl (weakSl_cons rfl rfl (weakSl_cons (wrap_succ (by omega)) rfl weakSl_nil)), weakHp_nil, rfl⟩
  have hin := ge_map hge hi
  subst hin
  exact congrArg vb (eqI_t.2 (List.ext_getElem? fun j => by
    rcases Nat.lt_or_ge j l.length with h | h
    · exact hP j h
    · rw [List.getElem?_eq_none h, List.getElem?_eq_none (by omega)])).symm

def entB (e f : Ent) : Bool := (e.client == f.client) && ((e.x == f.x) && ((e.y == f.y) && ((e.life == f.life) && (e.gold == f.gold))))
theorem entB_t {e f : Ent} : entB e f = true ↔ e = f := by
  cases e; cases f
  simp [entB]
open Classical in
noncomputable def eqE (l m : List Ent) : Bool := decide (l = m)
noncomputable def eqG (g h : Game) : Bool := eqE g.ents h.ents && (eqI g.floor h.floor && eqI g.last h.last)
theorem eqE_t {l m : List Ent} : eqE l m = true ↔ l = m := by simp [eqE]
theorem eqE_f {l m : List Ent} (h : l ≠ m) : eqE l m = false := by
  cases hb : eqE l m with
  | false => rfl
  | true => exact absurd (eqE_t.1 hb) h
theorem eqG_self (g : Game) : eqG g g = true := by simp [eqG, eqI_self, eqE]
theorem game_eq (a b c a' b' c' : Bool) (g h : Game) : ACalls Try.prog G0 10 [vGame a b c g, vGame a' b' c' h] (· = vb (eqG g h)) := by
  refine spec_intro tabOk Try.func10 (by kernel_rfl) rfl ?_
  conv => whnf
  intro hlen
  have hlen := le_map hlen
  conv => whnf
  intro _
  conv => whnf
  refine ⟨fun hne => ?_, fun heq => ?_⟩ <;> conv => whnf
  · exact congrArg vb (show eqG g h = false by rw [eqG, eqE_f fun hh => hne (by rw [hh])]; rfl).symm
  have heq : g.ents.length = h.ents.length := by
    have := Classical.not_not.1 heq
    simp only [List.length_map] at this
    omega
  let P : Nat → Prop := fun i => ∀ j, j < i → g.ents[j]? = h.ents[j]?
  let I : Nat → SL := fun i => ⟨[(2, .ref 2 0 0 0), (3, .ref 3 0 0 0), (5, vi i)], [(2, .box [.d (dEnts a g.ents), .d (dInts b g.floor), .d (dInts c g.last)]), (3, .box [.d (dEnts a' h.ents), .d (dInts b' h.floor), .d (dInts c' h.last)])]⟩
  refine loop_up g.ents.length P I (by intro j h; omega) ?_ ?_
  · refine ⟨?_, ?_, rfl⟩ <;> repeat' (first | exact weakSl_nil | exact weakHp_nil | refine weakSl_cons ?_ rfl ?_ | refine weakHp_cons ?_ rfl ?_)
    all_goals rfl
  intro i hi hP
  conv => whnf
  intro _
  refine ⟨fun hlt => ?_, fun hge => ?_⟩ <;> conv => whnf
  · have hlt := lt_map hlt
    refine (entsAt hlt).elim fun e he => ?_
    refine (entsAt (l := h.ents) (i := i) (by omega)).elim fun f hf => ?_
    refine ⟨by omega, encEnt e, row_map he, ?_⟩
    conv => whnf
    refine ⟨by omega, encEnt f, row_map hf, ?_⟩
    conv => whnf
    refine ⟨fun hd => ?_, fun hd => ?_⟩ <;> conv => whnf
    · have hd : (!entB e f) = true := hd
      exact congrArg vb (show eqG g h = false by
        rw [eqG, eqE_f fun hh => ?_]; rfl
        rw [hh, hf] at he; injection he with he
        rw [entB_t.2 he.symm] at hd; simp at hd).symm
    · have hd : (!entB e f) = false := hd
      have hd : e = f := entB_t.1 (by simpa using hd)
      exact up_next hlt (fun j hj => by
        by_cases hji : j = i
        · subst hji; rw [he, hf, hd]
        · exact hP j (by omega)) ⟨weakSl_cons rfl rfl (weakSl_cons rfl rfl (weakSl_cons (wrap_succ (by omega)) rfl weakSl_nil)), weakHp_cons rfl rfl (weakHp_cons rfl rfl weakHp_nil), rfl⟩
  have hin := ge_map hge hi
  have hE : eqE g.ents h.ents = true := eqE_t.2 (List.ext_getElem? fun j => by
    rcases Nat.lt_or_ge j g.ents.length with h' | h'
    · exact hP j (by omega)
    · rw [List.getElem?_eq_none h', List.getElem?_eq_none (by omega)])
  refine call_bool (ints_ok b b' g.floor h.floor) (fun h1 => ?_) (fun h1 => ?_) <;> conv => whnf
  · refine call_bool (ints_ok c c' g.last h.last) (fun h2 => ?_) (fun h2 => ?_) <;> conv => whnf
    · exact congrArg vb (show eqG g h = true by simp [eqG, hE, h1, h2]).symm
    · exact congrArg vb (show eqG g h = false by simp [eqG, hE, h1, h2]).symm
  · exact congrArg vb (show eqG g h = false by simp [eqG, hE, h1]).symm
end Go.Proofs.Ytnnmkenloijkcaa
