/- The games that are drawn. -/
import Derived.Test.YtnnmkenloijkcaaDrawC
set_option linter.unusedVariables false
set_option maxRecDepth 10000
namespace Go.Proofs.Ytnnmkenloijkcaa
open Go Eng

abbrev ownG (g : Game) : HP := [(6, .arr false 5 (g.ents.map encEnt)), (10, .arr false 1 (g.floor.map encI)), (14, .arr false 1 (g.last.map encI))]
abbrev ownV : V := .agg [.own 6, .own 10, .own 14]

theorem reqs_use {full : Bool} {bs : List Int} (hb : Bytes bs) {p : Int} (h0 : 0 ≤ p) (h1 : p ≤ 1099511620000) {most : Int} (m0 : 0 ≤ most) (m1 : most ≤ 40) {s : St} (hs : s.hp 1000 = .box (rdC full bs p)) {K : HP → V → HP → Prop}
    (k : ∀ (f : Bool) (list : List Req) p', (p ≤ p' ∧ p' ≤ p + 1000) → (∀ q ∈ list, ReqOk q) → K (Rd 1000 full bs p) (.d (.slc f 5 (list.map encReq))) (Rd 1000 full bs p')) :
    ∃ hin φ, HCalls Try.prog G0 86 (hpOf hin) [.ref 1000 0 0 0, vi most] φ ∧ weakHp s (hin.map (·.1)) hin ∧ okVs (hin.map (·.1)) [.ref 1000 0 0 0, vi most] = true ∧ ∀ r l, φ r l → K hin r l :=
  ⟨_, _, reqs_ok full bs hb p h0 h1 most m0 m1, ⟨hs, rfl, trivial⟩, rfl, fun r l ⟨f, list, p', e1, e2, h3, h4⟩ => by subst e1; subst e2; exact k f list p' h3 h4⟩
theorem copy_use {x : GV} (h : Good x.g) {s : St} {K : HP → V → HP → Prop} (k : K [] ownV (ownG x.g)) :
    ∃ hin φ, HCalls Try.prog G0 55 (hpOf hin) [x.v] φ ∧ weakHp s (hin.map (·.1)) hin ∧ okVs (hin.map (·.1)) [x.v] = true ∧ ∀ r l, φ r l → K hin r l :=
  ⟨[], _, copy_own x.a x.b x.c x.g (by have := good_len h; omega) (by rw [h.nfloor]; omega) (by rw [h.nlast]; omega), trivial, rfl, fun r l ⟨e1, e2⟩ => by subst e1; subst e2; exact k⟩

theorem game_ok (full : Bool) (bs : List Int) (hb : Bytes bs) (p : Int) (h0 : 0 ≤ p) (h1 : p ≤ 1099511610000) : HCalls Try.prog G0 67 (hpOf (Rd 1000 full bs p)) [.ref 1000 0 0 0]
    (fun r l => ∃ g p', r = ownV ∧ l = Rd 1000 full bs p' ++ ownG g ∧ (p ≤ p' ∧ p' ≤ p + 2000) ∧ Good g) := by
  refine hspec tabOk Try.func67 (by kernel_rfl) true [] [32, 86, 55] rfl ?_
  conv => whnf
  refine hcall_box (one_ok full true bs hb p h0 (by omega) [0, 6, 20, 40] (by simp) 1000) rfl rfl rfl ⟨⟨trivial, trivial⟩, ?_⟩
  conv => whnf
  have hm := List.mem_of_getElem? (one_mem hb h0 (by omega) (list := [0, 6, 20, 40]) (by simp))
  have hm : 0 ≤ oneF bs p [0, 6, 20, 40] ∧ oneF bs p [0, 6, 20, 40] ≤ 40 := by
    simp only [List.mem_cons, List.not_mem_nil, or_false] at hm
    omega
  refine reqs_use hb (by omega) (by omega) hm.1 hm.2 rfl fun f list p' hp hl => ⟨⟨trivial, trivial⟩, ?_⟩
  conv => whnf
  refine call_eq (fold_ok f list hl) ?_
  conv => whnf
  have hg := foldV_good hl
  refine copy_use (x := foldV list) hg ⟨⟨rfl, rfl, rfl, trivial⟩, ?_⟩
  conv => whnf
  exact ⟨Rd 1000 full bs p' ++ ownG (foldV list).g, ⟨weakHp_cons rfl rfl (weakHp_cons rfl rfl (weakHp_cons rfl rfl (weakHp_cons rfl rfl weakHp_nil))), rfl, rfl⟩, rfl, (foldV list).g, p', rfl, rfl, by omega, hg⟩

theorem game_use {full : Bool} {bs : List Int} (hb : Bytes bs) {p : Int} (h0 : 0 ≤ p) (h1 : p ≤ 1099511610000) {s : St} (hs : s.hp 1000 = .box (rdC full bs p)) {K : HP → V → HP → Prop}
    (k : ∀ g p', (p ≤ p' ∧ p' ≤ p + 2000) → Good g → K (Rd 1000 full bs p) ownV (Rd 1000 full bs p' ++ ownG g)) :
    ∃ hin φ, HCalls Try.prog G0 67 (hpOf hin) [.ref 1000 0 0 0] φ ∧ weakHp s (hin.map (·.1)) hin ∧ okVs (hin.map (·.1)) [.ref 1000 0 0 0] = true ∧ ∀ r l, φ r l → K hin r l :=
  ⟨_, _, game_ok full bs hb p h0 h1, ⟨hs, rfl, trivial⟩, rfl, fun r l ⟨g, p', e1, e2, h3, h4⟩ => by subst e1; subst e2; exact k g p' h3 h4⟩

theorem any_ok (full : Bool) (bs : List Int) (hb : Bytes bs) (p : Int) (h0 : 0 ≤ p) (h1 : p ≤ 1099511600000) : HCalls Try.prog G0 31 (hpOf (Rd 1000 full bs p)) [.ref 1000 0 0 0]
    (fun r l => ∃ a b c g p', r = vGame a b c g ∧ l = Rd 1000 full bs p' ∧ (p ≤ p' ∧ p' ≤ p + 3000)) := by
  refine hspec tabOk Try.func31 (by kernel_rfl) false [] [32, 45, 67] rfl ?_
  conv => whnf
  refine game_use hb h0 (by omega) rfl fun g p1 hp hg => ⟨⟨trivial, rfl, rfl, rfl, trivial⟩, ?_⟩
  conv => whnf
  refine hcall_box (pick_ok full bs hb p1 _ (by omega) (by omega) 1000) rfl rfl rfl ⟨⟨trivial, trivial⟩, ?_⟩
  conv => whnf
  have fin : ∀ (s : St) (a b c : Bool) (g' : Game) (v : V) (p' : Int), (p ≤ p' ∧ p' ≤ p + 3000) → v = vGame a b c g' → s.hp 1000 = .box (rdC full bs p') →
      ∃ l, HRest s [1000] l ∧ ∃ a b c g p', v = vGame a b c g ∧ l = Rd 1000 full bs p' ∧ (p ≤ p' ∧ p' ≤ p + 3000) := fun s a b c g' v p' hp hv hs =>
    ⟨Rd 1000 full bs p', ⟨weakHp_cons hs rfl weakHp_nil, rfl, rfl⟩, a, b, c, g', p', hv, rfl, hp⟩
  have hfl : g.floor.length = 16 := hg.nfloor
  have hla : g.last.length = 4 := hg.nlast
  have k1 := pick_range (n := 16) hb (p := p1 + 1) (by omega) (by omega)
  refine ⟨fun hc => ?_, fun hc => ?_⟩ <;> conv => whnf
  · refine drawn_box (pick_ok full bs hb _ _ (by omega) (by omega) 1000) ?_
    conv => whnf
    refine drawn_box (one_ok full true bs hb _ (by omega) (by omega) [-1, 3, 20] (by simp) 1000) ?_
    conv => whnf
    refine ⟨k1.1, by simp; omega, ?_⟩
    conv => whnf
    refine ⟨encI (intAt g.floor (pickF bs (p1 + 1) 16)), intAt_row k1.1 (by omega), ?_⟩
    conv => whnf
    refine fin _ false false false ⟨g.ents, g.floor.set (pickF bs (p1 + 1) 16).toNat (oneF bs (p1 + 1 + 1) [-1, 3, 20]), g.last⟩ _ (p1 + 1 + 1 + 1) (by omega) ?_ ?_
    · exact (vGame_ext rfl (set_row rfl) rfl)
    · rfl
  refine ⟨fun hc => ?_, fun hc => ?_⟩ <;> conv => whnf
  · refine ⟨by omega, by simp; omega, ?_⟩
    conv => whnf
    refine fin _ false false false ⟨g.ents, g.floor, g.last.drop 1⟩ _ (p1 + 1) (by omega) ?_ ?_
    · have hd : (g.last.map encI).drop (1 : Int).toNat = (g.last.drop 1).map encI := by rw [List.map_drop]; rfl
      exact vGame_ext rfl rfl hd
    · rfl
  refine ⟨fun hc => ?_, fun hc => ?_⟩ <;> conv => whnf
  · intro hlen
    refine ⟨fun hz => ?_, fun hz => ?_⟩ <;> conv => whnf
    · have hz : 0 < g.ents.length := by simpa using hz
      refine drawn_box (one_ok full true bs hb _ (by omega) (by omega) [-1, 4, 0] (by simp) 1000) ?_
      conv => whnf
      refine ⟨by omega, by simp; omega, ?_⟩
      conv => whnf
      refine ⟨encEnt (entAt g.ents 0), entAt_row (k := 0) (by omega) (by omega), ?_⟩
      conv => whnf
      refine fin _ false false false ⟨setEnt g.ents 0 { entAt g.ents 0 with x := oneF bs (p1 + 1) [-1, 4, 0] }, g.floor, g.last⟩ _ (p1 + 1 + 1) (by omega) ?_ ?_
      · exact (vGame_ext (set_row rfl) rfl rfl)
      · rfl
    · refine fin _ false false false g _ (p1 + 1) (by omega) ?_ ?_
      · exact rfl
      · rfl
  · refine fin _ false false false g _ (p1 + 1) (by omega) ?_ ?_
    · exact rfl
    · rfl

theorem any_use {full : Bool} {bs : List Int} (hb : Bytes bs) {p : Int} (h0 : 0 ≤ p) (h1 : p ≤ 1099511600000) {s : St} (hs : s.hp 1000 = .box (rdC full bs p)) {K : HP → V → HP → Prop}
    (k : ∀ a b c g p', (p ≤ p' ∧ p' ≤ p + 3000) → K (Rd 1000 full bs p) (vGame a b c g) (Rd 1000 full bs p')) :
    ∃ hin φ, HCalls Try.prog G0 31 (hpOf hin) [.ref 1000 0 0 0] φ ∧ weakHp s (hin.map (·.1)) hin ∧ okVs (hin.map (·.1)) [.ref 1000 0 0 0] = true ∧ ∀ r l, φ r l → K hin r l :=
  ⟨_, _, any_ok full bs hb p h0 h1, ⟨hs, rfl, trivial⟩, rfl, fun r l ⟨a, b, c, g, p', e1, e2, h3⟩ => by subst e1; subst e2; exact k a b c g p' h3⟩
theorem open_use {full : Bool} {bs : List Int} (hb : Bytes bs) {s : St} {K : HP → V → HP → Prop}
    (k : ∀ f' bs', Bytes bs' → K [] (.ref 1000 0 0 0) (Rd 1000 f' bs' 0)) :
    ∃ hin φ, HCalls Try.prog G0 30 (hpOf hin) [.d (.slc full 1 (bs.map encB))] φ ∧ weakHp s (hin.map (·.1)) hin ∧ okVs (hin.map (·.1)) [.d (.slc full 1 (bs.map encB))] = true ∧ ∀ r l, φ r l → K hin r l :=
  ⟨[], _, open_ok full bs, trivial, rfl, fun r l ⟨f', bs', e1, e2, h3⟩ => by
    subst e1; subst e2
    exact k f' bs' fun i b hi => by
      obtain ⟨j, hj⟩ := List.mem_iff_getElem?.1 (h3 b (List.mem_of_getElem? hi))
      exact hb j b hj⟩

theorem see_ok (full : Bool) (bs : List Int) (hb : Bytes bs) : ACalls Try.prog G0 7 [.d (.slc full 1 (bs.map encB))] (fun r => ∃ a b c g cl, r = .tup [vGame a b c g, vi cl]) := by
  refine spec_own tabOk Try.func7 (by kernel_rfl) [] [30, 31, 32] rfl ?_
  conv => whnf
  refine open_use hb fun f' bs' hb' => ⟨⟨rfl, trivial⟩, ?_⟩
  conv => whnf
  refine any_use hb' (by omega) (by omega) rfl fun a b c g p' hp => ⟨⟨trivial, trivial⟩, ?_⟩
  conv => whnf
  refine drawn_box (one_ok f' true bs' hb' p' (by omega) (by omega) [1, 2, 3, 4, 0] (by simp) 1000) ?_
  conv => whnf
  exact ⟨a, b, c, g, _, rfl⟩
end Go.Proofs.Ytnnmkenloijkcaa
