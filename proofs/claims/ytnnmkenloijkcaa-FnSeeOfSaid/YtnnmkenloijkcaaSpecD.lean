/- What the reference's new game is, and its copy. -/
import Derived.Test.YtnnmkenloijkcaaSpecC
set_option linter.unusedVariables false
set_option maxRecDepth 10000
namespace Go.Proofs.Ytnnmkenloijkcaa
open Go Eng

def newFl : Nat → List Int
  | 0 => List.replicate 16 0
  | i + 1 => addAt (newFl i) (((i : Int) * 5).tmod 16) 1
theorem newFl_len : ∀ i, (newFl i).length = 16
  | 0 => by simp [newFl]
  | i + 1 => by simp [newFl, addAt, newFl_len i]
theorem newFl_range : ∀ i (j : Nat) n, (newFl i)[j]? = some n → 0 ≤ n ∧ n ≤ i
  | 0, j, n, h => by
    simp only [newFl, List.getElem?_replicate] at h
    split at h
    · injection h with h; omega
    · simp at h
  | i + 1, j, n, h => by
    simp only [newFl, addAt, List.getElem?_set] at h
    split at h
    · split at h
      · rename_i hj
        injection h with h
        have h2 := newFl_range i _ _ (intAt_get hj)
        omega
      · simp at h
    · have := newFl_range i j n h
      omega
def newG : Game := ⟨[], newFl 20, List.replicate 4 0⟩
def newV : GV := ⟨true, true, true, newG⟩

theorem new_ok : ACalls Try.prog G0 92 [] (· = newV.v) := by
  refine spec_intro tabOk Try.func92 (by kernel_rfl) rfl ?_
  conv => whnf
  refine ⟨rfl, by omega, by decide, by omega, ?_⟩
  conv => whnf
  refine ⟨rfl, by omega, by decide, by omega, ?_⟩
  conv => whnf
  let P : Nat → Prop := fun i => True
  let I : Nat → SL := fun i => ⟨[(0, .ref 0 0 0 0), (1, .ref 1 0 0 0), (2, vi i)], [(0, .box [.d (.slc true 5 []), .d (.slc true 1 []), .d (.slc true 1 [])]), (1, .box [.d (.slc true 5 []), .own 4, .own 5]), (4, .arr true 1 ((newFl i).map encI)), (5, .arr true 1 ((List.replicate 4 0).map encI))]⟩
  refine loop_up 20 P I trivial ?_ ?_
  · refine ⟨?_, ?_, rfl⟩ <;> repeat' (first | exact weakSl_nil | exact weakHp_nil | refine weakSl_cons ?_ rfl ?_ | refine weakHp_cons ?_ rfl ?_)
    all_goals rfl
  intro i hi _
  conv => whnf
  refine ⟨fun hlt => ?_, fun hge => ?_⟩ <;> conv => whnf
  · have hl := newFl_len i
    have hL : (((newFl i).map encI).length : Int) = 16 := by simp [hl]
    intro _
    conv => whnf
    refine ⟨by rw [hL]; omega, ?_⟩
    conv => whnf
    have wi : IntKind.i64.wrap ((i : Int) * 5) = (i : Int) * 5 := wrap_id (by omega) (by omega)
    have q1 := Int.tmod_nonneg (16 : Int) (a := (i : Int) * 5) (by omega)
    have q2 := Int.tmod_lt_of_pos ((i : Int) * 5) (b := 16) (by omega)
    have hr := newFl_range i _ _ (intAt_get (l := newFl i) (k := ((i : Int) * 5).tmod 16) (by omega))
    refine ⟨by rw [wi, hL]; exact q1, by rw [wi, hL]; simp; omega, ?_⟩
    conv => whnf
    refine ⟨encI (intAt (newFl i) (((i : Int) * 5).tmod 16)), by rw [wi, hL]; exact intAt_row q1 (by omega), ?_⟩
    conv => whnf
    refine ⟨by rw [wi, hL]; exact q1, by rw [wi, hL]; simp; omega, ?_⟩
    conv => whnf
    refine ⟨encI (intAt (newFl i) (((i : Int) * 5).tmod 16)), by rw [wi, hL]; exact intAt_row q1 (by omega), ?_⟩
    conv => whnf
    refine up_next (by omega) trivial ⟨weakSl_cons rfl rfl (weakSl_cons rfl rfl (weakSl_cons (wrap_succ (by omega)) rfl weakSl_nil)), weakHp_cons rfl rfl (weakHp_cons rfl rfl (weakHp_cons ?_ rfl (weakHp_cons rfl rfl weakHp_nil))), rfl⟩
    refine congrArg (Obj.arr true 1) ?_
    rw [wi, hL, wrap_id (by omega) (by omega)]
    exact set_row rfl
  have hin : i = 20 := by omega
  subst hin
  rfl

/-- The copy's slices are arrays of its own. -/
theorem copy_own (a b c : Bool) (g : Game) (h1 : g.ents.length ≤ 1000) (h2 : g.floor.length ≤ 1000) (h3 : g.last.length ≤ 1000) : HCalls Try.prog G0 55 (hpOf []) [vGame a b c g]
    (fun r l => r = .agg [.own 6, .own 10, .own 14] ∧ l = [(6, .arr false 5 (g.ents.map encEnt)), (10, .arr false 1 (g.floor.map encI)), (14, .arr false 1 (g.last.map encI))]) := by
  refine hspec tabOk Try.func55 (by kernel_rfl) true [6, 10, 14] [] rfl ?_
  conv => whnf
  refine ⟨room (by simp; omega) rfl, room' (by simp; omega), ?_⟩
  conv => whnf
  refine ⟨room (by simp; omega) rfl, room' (by simp; omega), ?_⟩
  conv => whnf
  refine ⟨room (by simp; omega) rfl, room' (by simp; omega), ?_⟩
  conv => whnf
  exact ⟨[(6, .arr false 5 (g.ents.map encEnt)), (10, .arr false 1 (g.floor.map encI)), (14, .arr false 1 (g.last.map encI))], ⟨weakHp_cons rfl rfl (weakHp_cons rfl rfl (weakHp_cons rfl rfl weakHp_nil)), rfl, rfl⟩, rfl, rfl, rfl⟩

theorem copy_ok (a b c : Bool) (g : Game) (h1 : g.ents.length ≤ 1000) (h2 : g.floor.length ≤ 1000) (h3 : g.last.length ≤ 1000) : ACalls Try.prog G0 55 [vGame a b c g] (· = vGame false false false g) := by
  refine spec_own tabOk Try.func55 (by kernel_rfl) [6, 10, 14] [] rfl ?_
  conv => whnf
  refine ⟨room (by simp; omega) rfl, room' (by simp; omega), ?_⟩
  conv => whnf
  refine ⟨room (by simp; omega) rfl, room' (by simp; omega), ?_⟩
  conv => whnf
  refine ⟨room (by simp; omega) rfl, room' (by simp; omega), ?_⟩
  conv => whnf
  rfl
end Go.Proofs.Ytnnmkenloijkcaa
