/- What the reference's fold of asks computes, and the asks that are drawn. -/
import Derived.Test.YtnnmkenloijkcaaGameL
import Derived.Test.YtnnmkenloijkcaaDrawA
set_option linter.unusedVariables false
set_option maxRecDepth 10000
namespace Go.Proofs.Ytnnmkenloijkcaa
open Go Eng

def foldV (list : List Req) : GV := list.foldl (fun x r => (doV x r).1) newV
theorem foldV_good {list : List Req} (h : ∀ r ∈ list, ReqOk r) : Good (foldV list).g := by
  have : ∀ (l : List Req) (x : GV), (∀ r ∈ l, ReqOk r) → Good x.g → Good (l.foldl (fun x r => (doV x r).1) x).g := by
    intro l
    induction l with
    | nil => intro x _ hx; exact hx
    | cons r l ih => intro x hl hx; exact ih _ (fun r hr => hl r (List.mem_cons_of_mem _ hr)) (good_do hx (hl r List.mem_cons_self))
  exact this list newV h good_new
theorem foldV_succ {list : List Req} {i : Nat} {r : Req} (h : list[i]? = some r) : foldV (list.take (i + 1)) = (doV (foldV (list.take i)) r).1 := by
  unfold foldV
  rw [List.take_add_one, h]
  simp

theorem fold_ok (f : Bool) (list : List Req) (h : ∀ r ∈ list, ReqOk r) : ACalls Try.prog G0 85 [.d (.slc f 5 (list.map encReq))] (· = (foldV list).v) := by
  refine spec_intro tabOk Try.func85 (by kernel_rfl) rfl ?_
  conv => whnf
  refine call_eq new_ok ?_
  conv => whnf
  let P : Nat → Prop := fun i => True
  let X : Nat → GV := fun i => foldV (list.take i)
  let I : Nat → SL := fun i => ⟨[(0, .d (.slc f 5 (list.map encReq))), (2, .ref 2 0 0 0), (3, .ref 3 0 0 0), (4, vi i)], [(2, .box [.d (.slc true 5 []), .d (.slc true 1 []), .d (.slc true 1 [])]), (3, .box [.d (dEnts (X i).a (X i).g.ents), .d (dInts (X i).b (X i).g.floor), .d (dInts (X i).c (X i).g.last)])]⟩
  refine loop_up list.length P I trivial ?_ ?_
  · refine ⟨?_, ?_, rfl⟩ <;> repeat' (first | exact weakSl_nil | exact weakHp_nil | refine weakSl_cons ?_ rfl ?_ | refine weakHp_cons ?_ rfl ?_)
    all_goals rfl
  intro i hi _
  conv => whnf
  intro hlen
  have hlen := le_map hlen
  refine ⟨fun hlt => ?_, fun hge => ?_⟩ <;> conv => whnf
  · have hlt := lt_map hlt
    refine (entsAt hlt).elim fun r hr => ?_
    refine ⟨by omega, encReq r, row_map hr, ?_⟩
    conv => whnf
    have hrm := h r (List.mem_of_getElem? hr)
    have hg : Good (X i).g := foldV_good fun r hr => h r (List.mem_of_mem_take hr)
    refine drawn_eq (do_ok (X i) r (good_fit hg) (good_life hg) hrm.into) ?_
    conv => whnf
    refine up_next hlt trivial ⟨weakSl_cons rfl rfl (weakSl_cons rfl rfl (weakSl_cons rfl rfl (weakSl_cons (wrap_succ (by omega)) rfl weakSl_nil))), weakHp_cons rfl rfl (weakHp_cons ?_ rfl weakHp_nil), rfl⟩
    have hx : X (i + 1) = (doV (X i) r).1 := foldV_succ hr
    exact congrArg (fun z : GV => Obj.box [.d (dEnts z.a z.g.ents), .d (dInts z.b z.g.floor), .d (dInts z.c z.g.last)]) hx.symm
  have hin := ge_map hge hi
  subst hin
  have hx : X list.length = foldV list := by show foldV (list.take list.length) = _; rw [List.take_length]
  exact congrArg GV.v hx

/-- A reader, wherever it has come to. -/
abbrev Rd (id : Nat) (full : Bool) (bs : List Int) (p : Int) : HP := [(id, .box (rdC full bs p))]

theorem req_ok (full : Bool) (bs : List Int) (hb : Bytes bs) (p : Int) (h0 : 0 ≤ p) (h1 : p ≤ 1099511627000) : HCalls Try.prog G0 74 (hpOf (Rd 1000 full bs p)) [.ref 1000 0 0 0]
    (fun r l => ∃ q p', r = vReq q ∧ l = Rd 1000 full bs p' ∧ (p ≤ p' ∧ p' ≤ p + 10) ∧ (1 ≤ q.client ∧ q.client ≤ 3 ∧ 1 ≤ q.num ∧ q.num ≤ 6 ∧ -1 ≤ q.x ∧ q.x ≤ 3 ∧ -1 ≤ q.y ∧ q.y ≤ 3 ∧ (q.op ≠ 2 → 0 ≤ q.y))) := by
  refine hspec tabOk Try.func74 (by kernel_rfl) false [] [45] rfl ?_
  conv => whnf
  refine hcall_box (pick_ok full bs hb p _ h0 (by omega) 1000) rfl rfl rfl ⟨⟨trivial, trivial⟩, ?_⟩
  conv => whnf
  refine hcall_box (pick_ok full bs hb _ _ (by omega) (by omega) 1000) rfl rfl rfl ⟨⟨trivial, trivial⟩, ?_⟩
  conv => whnf
  refine hcall_box (pick_ok full bs hb _ _ (by omega) (by omega) 1000) rfl rfl rfl ⟨⟨trivial, trivial⟩, ?_⟩
  conv => whnf
  have k1 := pick_range (n := 3) hb h0 (by omega)
  have k2 := pick_range (n := 6) hb (p := p + 1) (by omega) (by omega)
  have k3 := pick_range (n := 5) hb (p := p + 1 + 1) (by omega) (by omega)
  have wr : ∀ (z : Int) (n : Int), 0 ≤ z ∧ (1 ≤ n → z < n) → 1 ≤ n → n ≤ 10 → 1 ≤ IntKind.i64.wrap (1 + z) ∧ IntKind.i64.wrap (1 + z) ≤ n := fun z n h h1 h2 => by
    have := h.2 h1
    rw [wrap_id (by omega) (by omega)]; omega
  have ws : ∀ (z : Int) (n : Int), 0 ≤ z ∧ (1 ≤ n → z < n) → 1 ≤ n → n ≤ 10 → -1 ≤ IntKind.i64.wrap (z - 1) ∧ IntKind.i64.wrap (z - 1) ≤ n - 2 := fun z n h h1 h2 => by
    have := h.2 h1
    rw [wrap_id (by omega) (by omega)]; omega
  have b1 := wr _ 3 k1 (by omega) (by omega)
  have b2 := wr _ 6 k2 (by omega) (by omega)
  have fin : ∀ (s : St) (c n o x y p' : Int), (1 ≤ c ∧ c ≤ 3 ∧ 1 ≤ n ∧ n ≤ 6 ∧ -1 ≤ x ∧ x ≤ 3 ∧ -1 ≤ y ∧ y ≤ 3 ∧ (o ≠ 2 → 0 ≤ y)) → (p ≤ p' ∧ p' ≤ p + 10) → s.hp 1000 = .box (rdC full bs p') →
      ∃ l, HRest s [1000] l ∧ ∃ q p', V.agg [vi c, vi n, vi o, vi x, vi y] = vReq q ∧ l = Rd 1000 full bs p' ∧ (p ≤ p' ∧ p' ≤ p + 10) ∧ (1 ≤ q.client ∧ q.client ≤ 3 ∧ 1 ≤ q.num ∧ q.num ≤ 6 ∧ -1 ≤ q.x ∧ q.x ≤ 3 ∧ -1 ≤ q.y ∧ q.y ≤ 3 ∧ (q.op ≠ 2 → 0 ≤ q.y)) := fun s c n o x y p' hv hp hs =>
    ⟨Rd 1000 full bs p', ⟨weakHp_cons hs rfl weakHp_nil, rfl, rfl⟩, ⟨c, n, o, x, y⟩, p', rfl, rfl, hp, hv⟩
  refine ⟨fun h2 => ?_, fun h2 => ?_⟩ <;> conv => whnf
  · refine hcall_box (pick_ok full bs hb _ _ (by omega) (by omega) 1000) rfl rfl rfl ⟨⟨trivial, trivial⟩, ?_⟩
    conv => whnf
    refine hcall_box (pick_ok full bs hb _ _ (by omega) (by omega) 1000) rfl rfl rfl ⟨⟨trivial, trivial⟩, ?_⟩
    conv => whnf
    have b4 := ws _ 3 (pick_range (n := 3) hb (p := p + 1 + 1 + 1) (by omega) (by omega)) (by omega) (by omega)
    have b5 := ws _ 3 (pick_range (n := 3) hb (p := p + 1 + 1 + 1 + 1) (by omega) (by omega)) (by omega) (by omega)
    exact fin _ _ _ _ _ _ (p + 1 + 1 + 1 + 1 + 1) (by omega) (by omega) rfl
  refine ⟨fun h4 => ?_, fun h4 => ?_⟩ <;> conv => whnf
  · refine hcall_box (pick_ok full bs hb _ _ (by omega) (by omega) 1000) rfl rfl rfl ⟨⟨trivial, trivial⟩, ?_⟩
    conv => whnf
    have b4 := wr _ 3 (pick_range (n := 3) hb (p := p + 1 + 1 + 1) (by omega) (by omega)) (by omega) (by omega)
    exact fin _ _ _ _ _ 0 (p + 1 + 1 + 1 + 1) (by omega) (by omega) rfl
  refine ⟨fun h5 => ?_, fun h5 => ?_⟩ <;> conv => whnf
  · refine hcall_box (pick_ok full bs hb _ _ (by omega) (by omega) 1000) rfl rfl rfl ⟨⟨trivial, trivial⟩, ?_⟩
    conv => whnf
    refine hcall_box (pick_ok full bs hb _ _ (by omega) (by omega) 1000) rfl rfl rfl ⟨⟨trivial, trivial⟩, ?_⟩
    conv => whnf
    have b4 := wr _ 3 (pick_range (n := 3) hb (p := p + 1 + 1 + 1) (by omega) (by omega)) (by omega) (by omega)
    have b5 := wr _ 3 (pick_range (n := 3) hb (p := p + 1 + 1 + 1 + 1) (by omega) (by omega)) (by omega) (by omega)
    exact fin _ _ _ _ _ _ (p + 1 + 1 + 1 + 1 + 1) (by omega) (by omega) rfl
  · exact fin _ _ _ _ 0 0 (p + 1 + 1 + 1) (by omega) (by omega) rfl
end Go.Proofs.Ytnnmkenloijkcaa
