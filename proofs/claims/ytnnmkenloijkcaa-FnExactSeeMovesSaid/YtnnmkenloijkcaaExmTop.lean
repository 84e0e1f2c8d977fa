/- The exact law of SeeMoves holds of every game, of whatever lists, and every number: it returns true, changes nothing that came in, and never panics. -/
import Derived.Test.YtnnmkenloijkcaaExmC
import Derived.Test.YtnnmkenloijkcaaExmE
set_option linter.unusedVariables false
namespace Go.Proofs.Ytnnmkenloijkcaa
open Go Eng Go.ChangeShapes Go.WideShapes Go.ChangeAt Go.RowKit

abbrev shI : CSh := .int .i64
theorem fits_int {k : IntKind} {x : D} (h : Fits (.int k) x) : ∃ n, x = .int k n ∧ k.min ≤ n ∧ n ≤ k.max := by
  cases h with
  | int _ n hn => exact ⟨n, rfl, hn⟩
theorem fits_rows {α : Type} {f : α → List D} {es : List CSh} {d : D} (h : Fits (.slc es) d) (hr : ∀ r : List D, r.length = es.length → (∀ (j : Nat) e x, es[j]? = some e → r[j]? = some x → Fits e x) → ∃ a, r = f a) : ∃ l : List α, d = .slc false es.length (l.map f) := by
  cases h with
  | slc _ rows hl hf =>
    have : ∀ rs : List (List D), (∀ r, r ∈ rs → r ∈ rows) → ∃ l : List α, rs = l.map f := by
      intro rs
      induction rs with
      | nil => intro _; exact ⟨[], rfl⟩
      | cons r rs ih =>
        intro hrs
        obtain ⟨l, hl'⟩ := ih fun q hq => hrs q (List.mem_cons_of_mem _ hq)
        obtain ⟨i, hi⟩ := List.mem_iff_getElem?.1 (hrs r List.mem_cons_self)
        obtain ⟨a, ha⟩ := hr r (hl i r hi) fun j e x he hx => hf i r j e x hi he hx
        exact ⟨a :: l, by rw [List.map_cons, ← ha, ← hl']⟩
    obtain ⟨l, hl'⟩ := this rows fun r h => h
    exact ⟨l, by rw [hl']⟩
theorem fits_ints {d : D} (h : Fits (.slc [shI]) d) : ∃ l : List Int, d = dInts false l :=
  fits_rows h fun r hl hf => by
    match r, hl with
    | [x], _ =>
      obtain ⟨n, rfl, _⟩ := fits_int (hf 0 _ x rfl rfl)
      exact ⟨n, rfl⟩
theorem fits_ents {d : D} (h : Fits (.slc [shI, shI, shI, shI, shI]) d) : ∃ l : List Ent, d = dEnts false l :=
  fits_rows h fun r hl hf => by
    match r, hl with
    | [x0, x1, x2, x3, x4], _ =>
      obtain ⟨n0, rfl, _⟩ := fits_int (hf 0 _ x0 rfl rfl)
      obtain ⟨n1, rfl, _⟩ := fits_int (hf 1 _ x1 rfl rfl)
      obtain ⟨n2, rfl, _⟩ := fits_int (hf 2 _ x2 rfl rfl)
      obtain ⟨n3, rfl, _⟩ := fits_int (hf 3 _ x3 rfl rfl)
      obtain ⟨n4, rfl, _⟩ := fits_int (hf 4 _ x4 rfl rfl)
      exact ⟨⟨n0, n1, n2, n3, n4⟩, rfl⟩
theorem lift_reps {W : World} : ∀ {shs : List CSh} {cs : List Value} {ds : List D}, LiftR W shs cs ds → RepVs W (gh0 (immW W)) (fun _ => .none) (ds.map .d) cs := by
  intro shs cs ds h
  refine RepVs.of_get (by rw [List.length_map, h.cl, h.dl]) fun i c u hc hu => ?_
  rw [List.getElem?_map] at hc
  cases hd : ds[i]? with
  | none => simp [hd] at hc
  | some d =>
    simp only [hd, Option.map_some, Option.some.injEq] at hc
    subst hc
    have hil := (List.getElem?_eq_some_iff.1 hd).1
    have h1 := h.dl
    simp only [RepV, gh0]
    exact (h.ok i _ d u (List.getElem?_eq_getElem (by omega)) hd hu).2
theorem shape52 : shape Try.prog 4 52 = some [.slc [shI, shI, shI, shI, shI], .slc [shI], .slc [shI]] := by kernel_rfl
/-- A game that comes in. -/
theorem game_in {H : Type} {enc : TypeId × Value → H} {W : World} {sp : Nat → Bool} {v : Value} {d : DataW H} {p : List MemPlace} (hv : ∃ cs, v = .agg cs) (h : DataW.Trod enc Try.prog W 0 sp true 52 v d p) (hw : ∀ m ∈ d.weights Try.prog 52, m ≤ reachBytes) :
    ∃ g : Game, RepP W (immW W) (vGame false false false g) v := by
  obtain ⟨cs, rfl⟩ := hv
  obtain ⟨fuel, hf⟩ := h
  obtain ⟨ds, hl⟩ := lift 4 fuel 52 _ _ _ shape52 hf hw
  have hreps := lift_reps hl
  have hdl := hl.dl
  have hcl := hl.cl
  match ds, hdl with
  | [d0, d1, d2], _ =>
    have hg : ∀ i, i < 3 → ∃ v, (Value.agg cs).cells.toList[i]? = some v := fun i hi => ⟨_, List.getElem?_eq_getElem (by rw [hcl]; exact hi)⟩
    obtain ⟨u0, h0⟩ := hg 0 (by omega)
    obtain ⟨u1, h1⟩ := hg 1 (by omega)
    obtain ⟨u2, h2⟩ := hg 2 (by omega)
    obtain ⟨e, rfl⟩ := fits_ents (hl.ok 0 _ d0 u0 rfl rfl h0).1
    obtain ⟨f, rfl⟩ := fits_ints (hl.ok 1 _ d1 u1 rfl rfl h1).1
    obtain ⟨l, rfl⟩ := fits_ints (hl.ok 2 _ d2 u2 rfl rfl h2).1
    refine ⟨⟨e, f, l⟩, ?_⟩
    unfold RepP vGame
    simp only [RepV]
    exact ⟨cs, rfl, hreps⟩

set_option maxHeartbeats 800000 in
set_option maxRecDepth 100000 in
theorem exactMoves_lifted (os : Os) (started : os.Started) (H : Type) (enc : TypeId × Value → H) :
    ReturnsInHanded {} Try.checked os 6 .any (Rows.fnExactSeeMovesSpec.pre6 enc Try.prog Try.f6 Rows.fnExactSeeMovesRow.domain false) (Rows.fnExactSeeMovesSpec.post enc Try.prog Try.f6 false true false false) := by
  refine returnsInHanded_of_change_sized (C := Try.checked) own started (by kernel_rfl) Try.func6
    (ChangeSpec.witness6 (enc := enc) (C := Try.checked) false ⟨#[], #[.agg #[.slice none 0 0, .slice none 0 0, .slice none 0 0], .int .i64 0], []⟩ 8 (by kernel_rfl) (by kernel_rfl) (by kernel_rfl) (by kernel_rfl)) ?_
  intro W base args ds gs before hval0 hW _ hwt _
  have hval : ∀ (j : Nat) t v, Try.f6.params[j]? = some t → args[j]? = some v → Value.okWide Try.prog W .any base t v := hval0
  have hW' := hW
  obtain ⟨p, q, hA0, hV, rfl, _, _⟩ := hW
  have hA : DataW.TrodAll enc Try.prog W 0 (fun _ => true) true Try.f6.params.toList args.toList ds p := hA0
  rw [Try.params6] at hA hval
  obtain ⟨v0, v1, d0, d1, p0, p1, rfl, rfl, rfl, h0, h1⟩ := trodAll_two hA
  obtain ⟨rfl, rfl⟩ := trodVars_none hV
  obtain ⟨n, rfl, rfl, rfl, hwf⟩ := open_int Try.underlying3 (hval 1 3 v1 rfl rfl) h1
  obtain ⟨cs, hcs, _⟩ := okWide_struct Try.underlying52 (hval 0 52 v0 rfl rfl)
  clear hA0 hval0
  simp only [List.append_nil] at hW'
  have hlt : ∀ x ∈ p0, x.block < W.heap.size := fun x hx => hW'.lt x (by simp [hx])
  obtain ⟨g, hrep⟩ := game_in ⟨cs, hcs⟩ h0 (fun m hm => by
    have := List.all_eq_true.1 hwt m (DataW.weights_mem_each (j := 0) rfl rfl m hm)
    simpa using this)
  refine ((law_exMoves insOk delOk false false false g n).2 W (immW W) [v0, .int .i64 n] (fun b o h => h) (fun k => by simp [RepP, RepV]) (by unfold RepPs; simp only [RepVs]; exact ⟨_, _, rfl, hrep, _, _, rfl, by unfold vi; simp only [RepV]; exact .int _ _, rfl⟩)).mono fun e W' ⟨u, r, imm', he, hr, hrepu, hsz, hblk, _, _, _, hio⟩ => ?_
  subst hr
  have hu : u = .bool true := by
    unfold RepP vb at hrepu
    simp only [RepV] at hrepu
    cases hrepu; rfl
  subst hu
  subst he
  have hargs0 : DataW.Trod enc Try.prog W' 0 (fun b => decide (b < W.heap.size)) true 52 v0 d0 p0 :=
    WideElems.Trod_stays laidOut (by kernel_rfl) (of_decide_eq_true (by kernel_rfl)) h0 (fun x hx => sameAt hblk (hlt x hx)) (fun x hx => by simpa using hlt x hx)
  exact ⟨_, rfl, _, _, _, [], _, [], hW', trodAll_mk1 (shut_bool Try.underlying4 true), trodAll_mk2 hargs0 (shut_int Try.underlying3 hwf), rfl, kept hio hblk _, fun h => by cases h⟩

/-- The program's SeeMoves returns what the reference's returns, for all arguments. -/
theorem exactMoves_holds : Rows.FnExactSeeMovesSaid :=
  OpenClaim.holds_of_wide 6 Try.f6 rfl rfl rfl rfl rfl rfl rfl ⟨rfl, rfl, rfl, rfl, rfl⟩ rfl rfl rfl rfl rfl (by kernel_rfl) Try.func6 (by kernel_rfl)
    (of_decide_eq_true (by kernel_rfl)) (by unfold Func.isWrapper; first | (rw [if_pos (by decide +kernel)]; kernel_rfl) | (rw [if_neg (by decide +kernel)]; exact ⟨rfl, rfl⟩))
    (fun os started H enc _ => exactMoves_lifted os started H enc)
#print axioms exactMoves_holds
end Go.Proofs.Ytnnmkenloijkcaa
