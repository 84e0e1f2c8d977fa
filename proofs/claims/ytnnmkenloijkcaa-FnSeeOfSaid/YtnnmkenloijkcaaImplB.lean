/- What the program's own helpers compute: figures, clones, clips, what is near. -/
import Derived.Test.YtnnmkenloijkcaaImplA
set_option linter.unusedVariables false
set_option maxRecDepth 10000
namespace Go.Proofs.Ytnnmkenloijkcaa
open Go Eng

theorem fig1_ok (e : Ent) (c : Int) : ACalls Try.prog G0 69 [vEnt e, .d (.ptr (encI c))] (· = vb (decide (e.client = c))) := by
  refine spec_intro tabOk Try.func69 (by kernel_rfl) rfl ?_
  conv => whnf
  refine ⟨fun h => ?_, fun h => ?_⟩ <;> conv => whnf
  · simp [vb, h]
  · simp [vb, h]
theorem find_ok (f : Bool) (l : List Ent) (c : Int) : ACalls Try.prog G0 68 [.d (dEnts f l), .d (.fn 69 [.ptr (encI c)])] (· = vi (atF l c)) := by
  refine spec_intro tabOk Try.func68 (by kernel_rfl) rfl ?_
  conv => whnf
  intro hlen
  have hlen := le_map hlen
  let P : Nat → Prop := fun i => ∀ (j : Nat) x, j < i → l[j]? = some x → x.client ≠ c
  let I : Nat → SL := fun i => ⟨[(0, .d (dEnts f l)), (1, .d (.fn 69 [.ptr (encI c)])), (7, vi (l.map encEnt).length), (8, vi i)], []⟩
  refine loop_up l.length P I (by intro j n h; omega) ?_ ?_
  · refine ⟨?_, ?_, rfl⟩ <;> repeat' (first | exact weakSl_nil | exact weakHp_nil | refine weakSl_cons ?_ rfl ?_ | refine weakHp_cons ?_ rfl ?_)
    all_goals rfl
  intro i hi hP
  conv => whnf
  refine ⟨fun hlt => ?_, fun hge => ?_⟩ <;> conv => whnf
  · have hlt := lt_map hlt
    refine (entsAt hlt).elim fun e he => ?_
    refine ⟨by omega, encEnt e, row_map he, ?_⟩
    conv => whnf
    refine call_bool (fig1_ok e c) (fun h => ?_) (fun h => ?_) <;> conv => whnf
    · exact congrArg vi (atF_some he (by simpa using h) hP).symm
    · exact up_next hlt (fun j x hj hx => by
        by_cases hji : j = i
        · subst hji; rw [he] at hx; injection hx with hx; subst hx; simpa using h
        · exact hP j x (by omega) hx) ⟨weakSl_cons rfl rfl (weakSl_cons rfl rfl (weakSl_cons rfl rfl (weakSl_cons (wrap_succ (by omega)) rfl weakSl_nil))), weakHp_nil, rfl⟩
  have hin := ge_map hge hi
  subst hin
  exact congrArg vi (atF_none fun j x hj => hP j x (List.getElem?_eq_some_iff.1 hj).1 hj).symm
theorem figure_ok (a b c : Bool) (g : Game) (cl : Int) : ACalls Try.prog G0 33 [vGame a b c g, vi cl] (· = vi (atF g.ents cl)) := by
  refine spec_intro tabOk Try.func33 (by kernel_rfl) rfl ?_
  conv => whnf
  refine call_eq (find_ok a g.ents cl) ?_
  conv => whnf
  rfl

theorem clipI_own (f : Bool) (rows : List (List D)) : HCalls Try.prog G0 70 (hpOf [(7, .arr f 1 rows)]) [.own 7] (fun r l => r = .own 8 ∧ l = [(7, .dead), (8, .arr true 1 rows)]) := by
  refine hspec tabOk Try.func70 (by kernel_rfl) true [8] [] rfl ?_
  conv => whnf
  intro _
  conv => whnf
  intro _
  conv => whnf
  refine ⟨rfl, rfl, ?_⟩
  conv => whnf
  exact ⟨[(7, .dead), (8, .arr true 1 rows)], ⟨weakHp_cons rfl rfl (weakHp_cons rfl rfl weakHp_nil), rfl, rfl⟩, rfl, rfl, rfl⟩
theorem cloneI_own0 (f : Bool) (l : List Int) (h0 : l ≠ []) (h1 : l.length ≤ 1000) : HCalls Try.prog G0 71 (hpOf []) [.d (dInts f l)] (fun r k => r = .own 7 ∧ k = [(7, .arr false 1 (l.map encI))]) := by
  refine hspec tabOk Try.func71 (by kernel_rfl) true [7] [] rfl ?_
  conv => whnf
  refine ⟨fun h => absurd (List.map_eq_nil_iff.1 h) h0, ?_⟩
  conv => whnf
  refine ⟨room (by simp; omega) rfl, room' (by simp; omega), ?_⟩
  conv => whnf
  exact ⟨[(7, .arr false 1 (l.map encI))], ⟨weakHp_cons rfl rfl weakHp_nil, rfl, rfl⟩, rfl, rfl, rfl⟩
theorem hcall_ex {P : Program} {G : Nat → V} {f : FuncId} {hin : HP} {args : List V} {φ : V → HP → Prop} (h : HCalls P G f (hpOf hin) args φ) {s : St} (hw : weakHp s (hin.map (·.1)) hin) (ha : okVs (hin.map (·.1)) args = true) {K : HP → V → HP → Prop}
    (k : ∀ r l, φ r l → K hin r l) : ∃ hin φ, HCalls P G f (hpOf hin) args φ ∧ weakHp s (hin.map (·.1)) hin ∧ okVs (hin.map (·.1)) args = true ∧ ∀ r l, φ r l → K hin r l := ⟨hin, φ, h, hw, ha, k⟩
theorem hcall_eq {P : Program} {G : Nat → V} {f : FuncId} {hin : HP} {args : List V} {R : V} {L : HP} (h : HCalls P G f (hpOf hin) args (fun r l => r = R ∧ l = L)) {s : St} (hw : weakHp s (hin.map (·.1)) hin) (ha : okVs (hin.map (·.1)) args = true) {K : HP → V → HP → Prop}
    (k : K hin R L) : ∃ hin φ, HCalls P G f (hpOf hin) args φ ∧ weakHp s (hin.map (·.1)) hin ∧ okVs (hin.map (·.1)) args = true ∧ ∀ r l, φ r l → K hin r l := ⟨hin, _, h, hw, ha, fun r l ⟨e1, e2⟩ => by subst e1; subst e2; exact k⟩
theorem cloneI_own8 (f : Bool) (l : List Int) (h0 : l ≠ []) (h1 : l.length ≤ 1000) : HCalls Try.prog G0 34 (hpOf []) [.d (dInts f l)] (fun r k => r = .own 8 ∧ k = [(8, .arr true 1 (l.map encI))]) := by
  refine hspec tabOk Try.func34 (by kernel_rfl) true [] [70, 71] rfl ?_
  conv => whnf
  refine hcall_eq (hin := []) (cloneI_own0 f l h0 h1) trivial rfl ⟨⟨rfl, trivial⟩, ?_⟩
  conv => whnf
  refine hcall_eq (hin := [(7, .arr false 1 (l.map encI))]) (clipI_own false (l.map encI)) ⟨rfl, rfl, trivial⟩ rfl ⟨⟨trivial, rfl, trivial⟩, ?_⟩
  conv => whnf
  exact ⟨[(8, .arr true 1 (l.map encI))], ⟨weakHp_cons rfl rfl weakHp_nil, rfl, rfl⟩, rfl, rfl, rfl⟩
theorem cloneI_own (f : Bool) (l : List Int) (h0 : l ≠ []) (h1 : l.length ≤ 1000) (d : Nat) : HCalls Try.prog G0 34 (hpOf []) [.d (dInts f l)] (fun r k => r = .own d ∧ k = [(d, .arr true 1 (l.map encI))]) := by
  refine HCalls.swap (hin := []) (args := [.d (dInts f l)]) (cloneI_own8 f l h0 h1) 8 d ?_
  rintro r k ⟨rfl, rfl⟩
  have : swp 8 d 8 = d := by simp [swp]
  refine ⟨?_, ?_⟩
  · simp only [V.ren, this]
  · simp only [List.map_cons, List.map_nil, renP, this, Obj.ren]
theorem clipE_ok (f : Bool) (rows : List (List D)) : ACalls Try.prog G0 36 [.d (.slc f 5 rows)] (· = .d (.slc true 5 rows)) := by
  refine spec_intro tabOk Try.func36 (by kernel_rfl) rfl ?_
  conv => whnf
  intro _
  conv => whnf
  intro _
  conv => whnf
  refine ⟨by omega, by omega, by omega, ?_⟩
  conv => whnf
  simp

def xyOk (e : Ent) : Prop := 0 ≤ e.x ∧ e.x ≤ 3 ∧ 0 ≤ e.y ∧ e.y ≤ 3
theorem nearI_ok (p q : Ent) (hx : xyOk p) (hy : xyOk q) : ACalls Try.prog G0 35 [vEnt p, vEnt q, vi 1] (· = vb (nearF p q)) := by
  unfold xyOk at hx hy
  refine spec_intro tabOk Try.func35 (by kernel_rfl) rfl ?_
  conv => whnf
  have w1 : IntKind.i64.wrap (p.x - q.x) = p.x - q.x := wrap_id (by omega) (by omega)
  have w2 : IntKind.i64.wrap (p.y - q.y) = p.y - q.y := wrap_id (by omega) (by omega)
  have w3 : IntKind.i64.wrap (0 - 1) = -1 := wrap_id (by omega) (by omega)
  refine call_bool (in_ok _ _ _) (fun h => ?_) (fun h => ?_) <;> conv => whnf
  · rw [w1, w3] at h
    refine call_bool (in_ok _ _ _) (fun h2 => ?_) (fun h2 => ?_) <;> conv => whnf
    · rw [w2, w3] at h2; simp [vb, nearF, h, h2]
    · rw [w2, w3] at h2; simp [vb, nearF, h, h2]
  · rw [w1, w3] at h; simp [vb, nearF, h]
end Go.Proofs.Ytnnmkenloijkcaa
