/- A law over a code: what the engine says of a call is what the row asks. -/
import Derived.Test.YtnnmkenloijkcaaLawB
import Derived.Test.YtnnmkenloijkcaaRows
import Derived.ProofKit
import Derived.SizedLaws
set_option linter.unusedVariables false
namespace Go.Proofs.Ytnnmkenloijkcaa
open Go Eng Go.ChangeShapes Go.WideShapes Go.ChangeAt Go.RowKit

theorem own : ownKnob Try.prog.godebug = none := by kernel_rfl
theorem laidOut : laidOutB Try.prog = true := by kernel_rfl
theorem cells5 : Try.prog.cellsOf 5 = 1 := by kernel_rfl

/-- All that is there when the call begins may be read, and is not written. -/
def immW (W : World) : Imm := fun b _ => b < W.heap.size

theorem cell_spot {W : World} {a : Addr} {v : Value} (h : W.cell? a = some v) : a = ⟨a.block, a.off, none⟩ ∧ a.block < W.heap.size := by
  unfold World.cell? at h
  split at h
  · rename_i c e r hb
    split at h
    · simp at h
    · rename_i hs
      have hlt := (Array.getElem?_eq_some_iff.1 hb).1
      refine ⟨?_, hlt⟩
      obtain ⟨b, o, s⟩ := a
      cases s with
      | none => rfl
      | some s => simp at hs
  · simp at h

/-- A slice of bytes, as the engine sees it. -/
theorem bytes_rep {H : Type} {enc : TypeId × Value → H} {W : World} {a0 : Option Addr} {len cap : Nat} {d : DataW H} {p : List MemPlace} (h : DataW.Trod enc Try.prog W 0 (fun _ => true) true 22 (.slice a0 len cap) d p) (hsz : ∀ elems spare, d = .slice elems spare → elems.length ≤ 2 ^ 48) :
    ∃ bs : List Int, Bytes bs ∧ RepP W (immW W) (.d (.slc false 1 (bs.map encB))) (.slice a0 len cap) := by
  obtain ⟨fuel, hf⟩ := h
  rcases open_ints Try.underlying22 Try.underlying5 cells5 hf with ⟨hcs, hx⟩ | ⟨a, len', cap', zs, hcs, _, hl, hm, hz, hx, hcell, hwz⟩
  · simp [Value.cells] at hcs
    obtain ⟨rfl, rfl, rfl⟩ := hcs
    refine ⟨[], by intro i b h; simp at h, ?_⟩
    unfold RepP
    simp only [RepV]
    exact .slc false 1 [] none 0 (fun _ _ => default) (by simp) (by simp) (by simp) (by simp) (by simp) (by simp) (by simp)
  · simp [Value.cells] at hcs
    obtain ⟨rfl, rfl, rfl⟩ := hcs
    simp only [if_true] at hz
    simp only [Prod.mk.injEq] at hx
    have hreach := hsz _ _ hx.1
    simp only [lits, List.length_map, List.length_take] at hreach
    have hlen : ((zs.take len).map encB).length = len := by simp; omega
    have hget : ∀ (i : Nat) (r : List D), ((zs.take len).map encB)[i]? = some r → ∃ n, r = encB n ∧ i < len ∧ W.cell? (a.add i) = some (.int .u8 n) := fun i r hi => by
      rw [List.getElem?_map] at hi
      cases hn : (zs.take len)[i]? with
      | none => simp [hn] at hi
      | some n =>
        simp [hn] at hi
        have hlt := (List.getElem?_eq_some_iff.1 hn).1
        simp at hlt
        refine ⟨n, hi.symm, by omega, ?_⟩
        rw [hcell i (by omega)]
        rw [List.getElem?_take] at hn
        split at hn
        · simp [List.getD, hn]
        · simp at hn
    refine ⟨zs.take len, fun i b hi => ?_, ?_⟩
    · have hw := hwz b (List.mem_of_mem_take (List.mem_of_getElem? hi))
      have h1 : IntKind.u8.min = 0 := rfl
      have h2 : IntKind.u8.max = 255 := rfl
      simp only [Lit.wf, Bool.and_eq_true, decide_eq_true_eq] at hw
      omega
    · unfold RepP
      simp only [RepV]
      have := RepD.slc (w := W) (imm := immW W) false 1 ((zs.take len).map encB) (some a) cap (fun i j => .int .u8 (zs.getD i 0)) (by rw [hlen]; exact hl) (by rw [hlen]; omega) (by simp)
        (fun i r hi => by obtain ⟨n, rfl, _⟩ := hget i r hi; rfl)
        (fun hne => by
          cases hz0 : (zs.take len).map encB with
          | nil => exact absurd hz0 hne
          | cons r rs =>
            obtain ⟨n, _, _, hc⟩ := hget 0 r (by rw [hz0]; rfl)
            have := (cell_spot hc).1
            have hs : a.spot = none := by have := congrArg Addr.spot this; simpa [Addr.add] using this
            exact ⟨a.block, a.off, by obtain ⟨b, o, s⟩ := a; simp at hs; subst hs; rfl⟩)
        (fun b o ha i r hi j x hj => by
          obtain ⟨n, rfl, hil, hc⟩ := hget i r hi
          injection ha with ha
          subst ha
          have hj0 : j = 0 := by
            cases j with
            | zero => rfl
            | succ j => simp [encB] at hj
          subst hj0
          refine ⟨by have := (cell_spot hc).2; unfold Addr.add at this; split at this <;> exact this, ?_⟩
          have e : (⟨b, o + i * 1 + 0, none⟩ : Addr) = (Addr.add ⟨b, o, none⟩ i) := by simp [Addr.add]
          rw [e, hcell i (by omega)])
        (fun i r hi j x hj => by
          obtain ⟨n, rfl, hil, hc⟩ := hget i r hi
          have hj0 : j = 0 := by
            cases j with
            | zero => rfl
            | succ j => simp [encB] at hj
          subst hj0
          simp [encB] at hj
          subst hj
          rw [hcell i (by omega)] at hc
          injection hc with hc
          show RepD W (immW W) (.int .u8 n) (.int .u8 (zs.getD i 0))
          rw [hc]
          exact .int _ _)
      rw [hlen] at this
      exact this

theorem kept {w w' : World} (hio : SameIO w w') (hb : ∀ b, b < w.heap.size → w'.heap[b]? = w.heap[b]?) (may : MemPlace → Prop) : w.keptBut w' may := by
  refine ⟨hio.1, hio.2, fun i hi => ?_⟩
  rw [hb i hi]
  split <;> simp_all
theorem sameAt {W W' : World} (hb : ∀ b, b < W.heap.size → W'.heap[b]? = W.heap[b]?) {p : MemPlace} (hp : p.block < W.heap.size) : W.sameAt W' p := by
  cases p with
  | cell b o => exact World.cell?_of_block (w := W) (hb b hp)
  | map b => exact hb b hp

set_option maxHeartbeats 800000 in
set_option maxRecDepth 100000 in
theorem seeOf_lifted (os : Os) (started : os.Started) (H : Type) (enc : TypeId × Value → H) :
    ReturnsInHanded {} Try.checked os 3 .any (Rows.fnSeeOfSpec.pre6 enc Try.prog Try.f3 Rows.fnSeeOfRow.domain false) (Rows.fnSeeOfSpec.post enc Try.prog Try.f3 false true false false) := by
  refine returnsInHanded_of_change_sized (C := Try.checked) own started (by kernel_rfl) Try.func3
    (ChangeSpec.witness6 (enc := enc) (C := Try.checked) false ⟨#[], #[.slice none 0 0], []⟩ 8 (by kernel_rfl) (by kernel_rfl) (by kernel_rfl) (by kernel_rfl)) ?_
  intro W base args ds gs before hval0 hW _ hwt _
  have hval : ∀ (j : Nat) t v, Try.f3.params[j]? = some t → args[j]? = some v → Value.okWide Try.prog W .any base t v := hval0
  have hW' := hW
  obtain ⟨p, q, hA0, hV, rfl, _, _⟩ := hW
  have hA : DataW.TrodAll enc Try.prog W 0 (fun _ => true) true Try.f3.params.toList args.toList ds p := hA0
  rw [Try.params3] at hA hval
  obtain ⟨v0, d0, rfl, rfl, h0⟩ := trodAll_one hA
  obtain ⟨rfl, rfl⟩ := trodVars_none hV
  obtain ⟨a0, len, cap, rfl⟩ := okWide_slice Try.underlying22 (hval 0 22 v0 rfl rfl)
  clear hA0 hval0
  simp only [List.append_nil] at hW'
  have hlt : ∀ x ∈ p, x.block < W.heap.size := fun x hx => by simpa using hW'.lt x hx
  have hsz : ∀ elems spare, d0 = DataW.slice elems spare → elems.length ≤ 2 ^ 48 := fun elems spare hd => by
    subst hd
    have h1 := sized_slice hwt (j := 0) (t := 22) (e := 5) rfl rfl Try.underlying22
    have h2 : Try.checked.prog.bytesOf 5 = 1 := by kernel_rfl
    rw [h2] at h1
    have h3 := reachBytes_lt
    omega
  obtain ⟨bs, hb, hrep⟩ := bytes_rep h0 hsz
  refine ((law_see false bs hb).2 W (immW W) [.slice a0 len cap] (fun b o h => h) (fun k => by simp [RepP, RepV]) (by unfold RepPs; simp only [RepVs]; exact ⟨_, _, rfl, hrep, rfl⟩)).mono fun e W' ⟨u, r, imm', he, hr, hrepu, hsz, hblk, _, _, _, hio⟩ => ?_
  subst hr
  have hu : u = .bool true := by
    unfold RepP vb at hrepu
    simp only [RepV] at hrepu
    cases hrepu; rfl
  subst hu
  subst he
  have hargs : DataW.Trod enc Try.prog W' 0 (fun b => decide (b < W.heap.size)) true 22 (.slice a0 len cap) d0 p :=
    WideElems.Trod_stays laidOut (by kernel_rfl) (of_decide_eq_true (by kernel_rfl)) h0 (fun x hx => sameAt hblk (hlt x hx)) (fun x hx => by simpa using hlt x hx)
  exact ⟨_, rfl, _, _, _, [], _, [], hW', trodAll_mk1 (shut_bool Try.underlying4 true), trodAll_mk1 hargs, rfl, kept hio hblk _, fun h => by cases h⟩

/-- What a player sees is there, whatever the code. -/
theorem seeOf_holds : Rows.FnSeeOfSaid :=
  OpenClaim.holds_of_wide 3 Try.f3 rfl rfl rfl rfl rfl rfl rfl ⟨rfl, rfl, rfl, rfl, rfl⟩ rfl rfl rfl rfl rfl (by kernel_rfl) Try.func3 (by kernel_rfl)
    (of_decide_eq_true (by kernel_rfl)) (by unfold Func.isWrapper; first | (rw [if_pos (by decide +kernel)]; kernel_rfl) | (rw [if_neg (by decide +kernel)]; exact ⟨rfl, rfl⟩))
    (fun os started H enc _ => seeOf_lifted os started H enc)
#print axioms seeOf_holds
end Go.Proofs.Ytnnmkenloijkcaa
