/- The law FnSeeMoves holds of every slice of bytes, of whatever length: it returns true, changes nothing and never panics. -/
import Derived.Test.YtnnmkenloijkcaaMvsC
import Derived.Test.YtnnmkenloijkcaaMvsD
set_option linter.unusedVariables false
namespace Go.Proofs.Ytnnmkenloijkcaa
open Go Eng Go.ChangeShapes Go.WideShapes Go.ChangeAt Go.RowKit

set_option maxHeartbeats 800000 in
set_option maxRecDepth 100000 in
theorem seeMoves_lifted (os : Os) (started : os.Started) (H : Type) (enc : TypeId × Value → H) :
    ReturnsInHanded {} Try.checked os 5 .any (Rows.fnSeeMovesSpec.pre6 enc Try.prog Try.f5 Rows.fnSeeMovesRow.domain false) (Rows.fnSeeMovesSpec.post enc Try.prog Try.f5 false true false false) := by
  refine returnsInHanded_of_change_sized (C := Try.checked) own started (by kernel_rfl) Try.func5
    (ChangeSpec.witness6 (enc := enc) (C := Try.checked) false ⟨#[], #[.slice none 0 0], []⟩ 8 (by kernel_rfl) (by kernel_rfl) (by kernel_rfl) (by kernel_rfl)) ?_
  intro W base args ds gs before hval0 hW _ hwt _
  have hval : ∀ (j : Nat) t v, Try.f5.params[j]? = some t → args[j]? = some v → Value.okWide Try.prog W .any base t v := hval0
  have hW' := hW
  obtain ⟨p, q, hA0, hV, rfl, _, _⟩ := hW
  have hA : DataW.TrodAll enc Try.prog W 0 (fun _ => true) true Try.f5.params.toList args.toList ds p := hA0
  rw [Try.params5] at hA hval
  obtain ⟨v0, d0, rfl, rfl, h0⟩ := trodAll_one hA
  obtain ⟨rfl, rfl⟩ := trodVars_none hV
  obtain ⟨a0, len0, cap0, rfl⟩ := okWide_slice Try.underlying22 (hval 0 22 v0 rfl rfl)
  clear hA0 hval0
  simp only [List.append_nil] at hW'
  have hlt : ∀ x ∈ p, x.block < W.heap.size := fun x hx => by simpa using hW'.lt x hx
  have hsz0 : ∀ elems spare, d0 = DataW.slice elems spare → elems.length ≤ 2 ^ 48 := fun elems spare hd => by
    subst hd
    have h1 := sized_slice hwt (j := 0) (t := 22) (e := 5) rfl rfl Try.underlying22
    have h2 : Try.checked.prog.bytesOf 5 = 1 := by kernel_rfl
    rw [h2] at h1
    have h3 := reachBytes_lt
    omega
  obtain ⟨bs0, hb0, hrep0⟩ := bytes_rep h0 hsz0
  refine ((law_moves insOk delOk false bs0 hb0).2 W (immW W) [.slice a0 len0 cap0] (fun b o h => h) (fun k => by simp [RepP, RepV]) (by unfold RepPs; simp only [RepVs]; exact ⟨_, _, rfl, hrep0, rfl⟩)).mono fun e W' ⟨u, r, imm', he, hr, hrepu, hsz, hblk, _, _, _, hio⟩ => ?_
  subst hr
  have hu : u = .bool true := by
    unfold RepP vb at hrepu
    simp only [RepV] at hrepu
    cases hrepu; rfl
  subst hu
  subst he
  have hargs0 : DataW.Trod enc Try.prog W' 0 (fun b => decide (b < W.heap.size)) true 22 (.slice a0 len0 cap0) d0 p :=
    WideElems.Trod_stays laidOut (by kernel_rfl) (of_decide_eq_true (by kernel_rfl)) h0 (fun x hx => sameAt hblk (hlt x (by simp [hx]))) (fun x hx => by simpa using hlt x (by simp [hx]))
  exact ⟨_, rfl, _, _, _, [], _, [], hW', trodAll_mk1 (shut_bool Try.underlying4 true), trodAll_mk1 hargs0, rfl, kept hio hblk _, fun h => by cases h⟩

/-- Just what goes is told, whatever the code. -/
theorem seeMoves_holds : Rows.FnSeeMovesSaid :=
  OpenClaim.holds_of_wide 5 Try.f5 rfl rfl rfl rfl rfl rfl rfl ⟨rfl, rfl, rfl, rfl, rfl⟩ rfl rfl rfl rfl rfl (by kernel_rfl) Try.func5 (by kernel_rfl)
    (of_decide_eq_true (by kernel_rfl)) (by unfold Func.isWrapper; first | (rw [if_pos (by decide +kernel)]; kernel_rfl) | (rw [if_neg (by decide +kernel)]; exact ⟨rfl, rfl⟩))
    (fun os started H enc _ => seeMoves_lifted os started H enc)
#print axioms seeMoves_holds
end Go.Proofs.Ytnnmkenloijkcaa
