/- The exact law of CheckOf holds of every number, every list of asks, and every number: it returns true, changes nothing that came in, and never panics. -/
import Derived.Test.YtdfneaponidfgaaDoorLC
import Derived.Test.YtdfneaponidfgaaDoorLD
import Derived.Test.YtdfneaponidfgaaDoorTie
import Derived.Test.YtdfneaponidfgaaDoorCards
import Derived.LaidMore
import Derived.OpenShut
import Derived.Stop.Joined
import Derived.SevenTiedAt
set_option linter.unusedVariables false
namespace Go.Proofs.YtdfneaponidfgaaDoor
open Go Eng Go.ChangeShapes Go.WideShapes Go.ChangeAt Go.RowKit

/-- What the rows list. -/
def laid3 : List (String × DataW Unit) := [("math/bits.deBruijn32tab", Rows.laid_math_bits_deBruijn32tab), ("math/bits.deBruijn64tab", Rows.laid_math_bits_deBruijn64tab), ("internal/strconv.uint64pow10", Rows.laid_internal_strconv_uint64pow10)]
set_option maxRecDepth 100000 in
theorem door_met (os : Os) (args : Array Value) : laidMetH Tryd.prog laid3 ((World.doorLaid Tryd.prog 400 os).forCall (fun _ _ => 0) ⟨#[], args, []⟩).memory :=
  laidMetH_of_parts3 (fuel := 8) (laidMet_of_run' 8 (by kernel_rfl) (by kernel_rfl)) (by kernel_rfl) (by kernel_rfl)

theorem fits_reqs {d : D} (h : Fits (.slc [shI, shI, shI, shI, shI]) d) : ∃ l : List Req, d = .slc false 5 (l.map encReq) :=
  fits_rows (f := encReq) h fun r hl hf => by
    match r, hl with
    | [x0, x1, x2, x3, x4], _ =>
      obtain ⟨n0, rfl, _⟩ := fits_int (hf 0 _ x0 rfl rfl)
      obtain ⟨n1, rfl, _⟩ := fits_int (hf 1 _ x1 rfl rfl)
      obtain ⟨n2, rfl, _⟩ := fits_int (hf 2 _ x2 rfl rfl)
      obtain ⟨n3, rfl, _⟩ := fits_int (hf 3 _ x3 rfl rfl)
      obtain ⟨n4, rfl, _⟩ := fits_int (hf 4 _ x4 rfl rfl)
      exact ⟨⟨n0, n1, n2, n3, n4⟩, rfl⟩
theorem shapeR : shape Tryd.prog 4 22 = some [.slc [shI, shI, shI, shI, shI]] := by kernel_rfl
/-- A list of asks that comes in. -/
theorem reqs_in {H : Type} {enc : TypeId × Value → H} {W : World} {sp : Nat → Bool} {a0 : Option Addr} {len cap : Nat} {d : DataW H} {p : List MemPlace} (h : DataW.Trod enc Tryd.prog W 0 sp true 22 (.slice a0 len cap) d p) (hw : ∀ m ∈ d.weights Tryd.prog 22, m ≤ reachBytes) :
    ∃ l : List Req, RepP W (immW W) (.d (.slc false 5 (l.map encReq))) (.slice a0 len cap) := by
  obtain ⟨fuel, hf⟩ := h
  obtain ⟨ds, hl⟩ := lift 4 fuel 22 _ _ _ shapeR hf hw
  have hdl := hl.dl
  match ds, hdl with
  | [d0], _ =>
    have hc : (Value.slice a0 len cap).cells.toList[0]? = some (.slice a0 len cap) := rfl
    obtain ⟨h1, h2⟩ := hl.ok 0 _ d0 _ rfl rfl hc
    obtain ⟨l, rfl⟩ := fits_reqs h1
    refine ⟨l, ?_⟩
    unfold RepP
    simp only [RepV, gh0]
    exact h2

set_option maxHeartbeats 800000 in
set_option maxRecDepth 100000 in
theorem exCheck_lifted (os : Os) (started : os.Started) (H : Type) (enc : TypeId × Value → H) :
    ReturnsInHanded {} Tryd.checked os 3 .any (fun w args => (Rows.fnExactCheckOfSpec.pre enc Tryd.prog Tryd.f3 [] false w args ∧ laidMetH Tryd.prog laid3 w) ∧ sizedMet enc Tryd.prog Tryd.f3 (OpenSpec.ofChange Rows.fnExactCheckOfSpec) false w args)
      (Rows.fnExactCheckOfSpec.post enc Tryd.prog Tryd.f3 false true false false) := by
  refine returnsInHanded_of_change_and (C := Tryd.checked) (X := fun w _ => laidMetH Tryd.prog laid3 w) (fun _ _ _ hh h => h.of_heap hh) own started (by kernel_rfl) Tryd.func3
    (ChangeSpec.witness_shaped (enc := enc) (C := Tryd.checked) (os := os) (X := fun w _ => laidMetH Tryd.prog laid3 w) false (World.doorLaid Tryd.prog 400 os) #[.int .i64 0, .slice none 0 0, .int .i64 0] 8 rfl (World.shaped_of_RefB (by kernel_rfl) (by kernel_rfl)) (by kernel_rfl) (by kernel_rfl) (by kernel_rfl) (door_met os _)) ?_
  intro W base args ds gs before hval0 hW _ hwt _ _
  have hval : ∀ (j : Nat) t v, Tryd.f3.params[j]? = some t → args[j]? = some v → Value.okWide Tryd.prog W .any base t v := hval0
  have hW' := hW
  obtain ⟨p, q, hA0, hV, rfl, _, _⟩ := hW
  have hA : DataW.TrodAll enc Tryd.prog W 0 (fun _ => true) true Tryd.f3.params.toList args.toList ds p := hA0
  rw [Tryd.params3] at hA hval
  obtain ⟨v0, v1, v2, d0, d1, d2, p0, p1, p2, rfl, rfl, rfl, h0, h1, h2⟩ := trodAll_three hA
  obtain ⟨rfl, rfl⟩ := trodVars_none hV
  obtain ⟨c, rfl, rfl, rfl, hwf0⟩ := open_int Tryd.underlying3 (hval 0 3 v0 rfl rfl) h0
  obtain ⟨a0, len0, cap0, rfl⟩ := okWide_slice Tryd.underlying22 (hval 1 22 v1 rfl rfl)
  obtain ⟨n, rfl, rfl, rfl, hwf2⟩ := open_int Tryd.underlying3 (hval 2 3 v2 rfl rfl) h2
  clear hA0 hval0
  simp only [List.append_nil] at hW'
  have hlt : ∀ x ∈ p1, x.block < W.heap.size := fun x hx => hW'.lt x (by simp [hx])
  obtain ⟨l, hrep⟩ := reqs_in h1 (fun m hm => by
    have := List.all_eq_true.1 hwt m (DataW.weights_mem_each (j := 1) rfl rfl m hm)
    simpa using this)
  refine ((law_exCheck false c l n).2 W (immW W) [.int .i64 c, .slice a0 len0 cap0, .int .i64 n] (fun b o h => h) (fun k => by simp [RepP, RepV]) (by unfold RepPs; simp only [RepVs]; exact ⟨_, _, rfl, by unfold vi; simp only [RepV]; exact .int _ _, _, _, rfl, hrep, _, _, rfl, by unfold vi; simp only [RepV]; exact .int _ _, rfl⟩)).mono fun e W' ⟨u, r, imm', he, hr, hrepu, hsz, hblk, _, _, _, hio⟩ => ?_
  subst hr
  have hu : u = .bool true := by
    unfold RepP vb at hrepu
    simp only [RepV] at hrepu
    cases hrepu; rfl
  subst hu
  subst he
  have hargs1 : DataW.Trod enc Tryd.prog W' 0 (fun b => decide (b < W.heap.size)) true 22 (.slice a0 len0 cap0) d1 p1 :=
    WideElems.Trod_stays laidOut (by kernel_rfl) (of_decide_eq_true (by kernel_rfl)) h1 (fun x hx => sameAt hblk (hlt x hx)) (fun x hx => by simpa using hlt x hx)
  exact ⟨_, rfl, _, _, _, [], _, [], hW', trodAll_mk1 (shut_bool Tryd.underlying4 true), trodAll_mk3 (shut_int Tryd.underlying3 hwf0) hargs1 (shut_int Tryd.underlying3 hwf2), rfl, kept hio hblk _, fun h => by cases h⟩

theorem exCheck_row : Rows.FnExactCheckOfSaid :=
  OpenClaim.holds_of_wide 3 Tryd.f3 rfl rfl rfl rfl rfl rfl rfl ⟨rfl, rfl, rfl, rfl, rfl⟩ rfl rfl rfl rfl rfl (by kernel_rfl) Tryd.func3 (by kernel_rfl)
    (of_decide_eq_true (by kernel_rfl)) (by unfold Func.isWrapper; first | (rw [if_pos (by decide +kernel)]; kernel_rfl) | (rw [if_neg (by decide +kernel)]; exact ⟨rfl, rfl⟩))
    (fun os started H enc _ => exCheck_lifted os started H enc)

/-- The program's CheckOf returns what the reference's returns, for all arguments. -/
theorem exCheck_holds : Rows.FnExactCheckOfCardSaid :=
  Claim7.holds_tied_plain_at .later [] [.data, .data, .data] true (true, "0bbf0f7f2a24cc77fa79d27d03bcabd9d8a99f8fc1dbca177fec4b9975a26f28") false
    exCheck_row (fun _ h => by cases h) (by kernel_rfl) (fun _ h => by cases h) fnExactCheckOf_row_tie rfl ⟨rfl, rfl⟩ (by kernel_rfl) rfl
    (fun f fn hf hfn => by
      obtain rfl : f = 3 := Option.some.inj ((show Tryd.prog.funcNamed "loop.example/wapentake/laws.FnExactCheckOf" = some 3 by kernel_rfl).symm.trans hf) |>.symm
      obtain rfl : fn = Tryd.f3 := (Option.some.inj (Tryd.func3.symm.trans hfn)).symm
      exact ⟨by kernel_rfl, fun j t ht => by
        rw [Tryd.params3] at ht
        have hm : t ∈ [3, 22, 3] := by simpa using Array.mem_of_getElem? ht
        have hall : ([3, 22, 3].all fun u => !Tryd.prog.wantsStandIn u) = true := by kernel_rfl
        exact (show Tryd.prog.wantsStandIn t = false by simpa using List.all_eq_true.1 hall t hm)⟩)
    (by kernel_rfl)
end Go.Proofs.YtdfneaponidfgaaDoor
