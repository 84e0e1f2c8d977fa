/- What the reference's moves of a game compute. -/
import Derived.Test.YtnnmkenloijkcaaGameF
set_option linter.unusedVariables false
set_option maxRecDepth 10000
namespace Go.Proofs.Ytnnmkenloijkcaa
open Go Eng

/-- A game whose numbers are small. -/
structure Fit (g : Game) : Prop where
  n : g.ents.length ≤ 16
  nf : g.floor.length = 16
  nl : g.last.length = 4
  ent : ∀ (i : Nat) e, g.ents[i]? = some e → 0 ≤ e.x ∧ e.x ≤ 3 ∧ 0 ≤ e.y ∧ e.y ≤ 3 ∧ 0 ≤ e.gold ∧ e.gold ≤ 1000
  fl : ∀ (i : Nat) n, g.floor[i]? = some n → 0 ≤ n ∧ n ≤ 1000
theorem Fit.at {g : Game} (h : Fit g) {k : Int} (h0 : 0 ≤ k) (h1 : k < g.ents.length) : 0 ≤ (entAt g.ents k).x ∧ (entAt g.ents k).x ≤ 3 ∧ 0 ≤ (entAt g.ents k).y ∧ (entAt g.ents k).y ≤ 3 ∧ 0 ≤ (entAt g.ents k).gold ∧ (entAt g.ents k).gold ≤ 1000 :=
  h.ent _ _ (entAt_get (by omega))
theorem Fit.floor {g : Game} (h : Fit g) {k : Int} (h0 : 0 ≤ k) (h1 : k < 16) : 0 ≤ intAt g.floor k ∧ intAt g.floor k ≤ 1000 :=
  h.fl _ _ (intAt_get (by have := h.nf; omega))
theorem room {n e : Nat} (h : n ≤ 1000000) (he : Nat.ble e 1000 = true) : n * e ≤ 2 ^ 47 := by
  have := Nat.le_of_ble_eq_true he
  have := Nat.mul_le_mul h this
  omega
theorem room' {n : Nat} (h : n ≤ 1000000) : n ≤ 2 ^ 47 := by omega
theorem set_row {α : Type} {f : α → List D} {l : List α} {i : Nat} {x : α} {r : List D} (hr : r = f x) : (l.map f).set i r = (l.set i x).map f := by subst hr; rw [List.map_set]

theorem set_get {α : Type} {f : α → List D} {l : List α} {i : Nat} {x : α} {r : List D} (hr : r = f x) (h : i < l.length) : ((l.map f).set i r)[i]? = some (f x) := by subst hr; simp [h]
def SmE (e : Ent) : Prop := 0 ≤ e.x ∧ e.x ≤ 3 ∧ 0 ≤ e.y ∧ e.y ≤ 3 ∧ 0 ≤ e.gold ∧ e.gold ≤ 1000
theorem Fit.setEnt {g : Game} (h : Fit g) (k : Int) {e : Ent} (he : SmE e) : Fit ⟨setEnt g.ents k e, g.floor, g.last⟩ := by
  refine ⟨by simp [Proofs.Ytnnmkenloijkcaa.setEnt]; exact h.n, h.nf, h.nl, fun i x hx => ?_, h.fl⟩
  simp only [Proofs.Ytnnmkenloijkcaa.setEnt, List.getElem?_set] at hx
  split at hx
  · split at hx
    · injection hx with hx; subst hx; exact he
    · simp at hx
  · exact h.ent i x hx

theorem at_ok (a b c : Bool) (g : Game) (cl : Int) : ACalls Try.prog G0 38 [vGame a b c g, vi cl] (· = vi (atF g.ents cl)) := by
  refine spec_intro tabOk Try.func38 (by kernel_rfl) rfl ?_
  conv => whnf
  let P : Nat → Prop := fun i => ∀ (j : Nat) x, j < i → g.ents[j]? = some x → x.client ≠ cl
  let I : Nat → SL := fun i => ⟨[(1, vi cl), (2, .ref 2 0 0 0), (4, vi 0), (5, vi i)], [(2, .box [.d (dEnts a g.ents), .d (dInts b g.floor), .d (dInts c g.last)])]⟩
  refine loop_up g.ents.length P I (by intro j x h; omega) ?_ ?_
  · refine ⟨?_, ?_, rfl⟩ <;> repeat' (first | exact weakSl_nil | exact weakHp_nil | refine weakSl_cons ?_ rfl ?_ | refine weakHp_cons ?_ rfl ?_)
    all_goals rfl
  intro i hi hP
  conv => whnf
  intro hlen
  have hlen := le_map hlen
  refine ⟨fun hlt => ?_, fun hge => ?_⟩ <;> conv => whnf
  · have hlt := lt_map hlt
    refine (entsAt hlt).elim fun e he => ?_
    refine ⟨by omega, encEnt e, row_map he, ?_⟩
    conv => whnf
    refine ⟨fun h => ?_, fun h => ?_⟩ <;> conv => whnf
    · exact congrArg vi (atF_some he h hP).symm
    · exact up_next hlt (fun j x hj hx => by
        by_cases hji : j = i
        · subst hji; rw [he] at hx; injection hx with hx; subst hx; exact h
        · exact hP j x (by omega) hx) ⟨weakSl_cons rfl rfl (weakSl_cons rfl rfl (weakSl_cons rfl rfl (weakSl_cons (wrap_succ (by omega)) rfl weakSl_nil))), weakHp_cons rfl rfl weakHp_nil, rfl⟩
  have hin := ge_map hge hi
  subst hin
  exact congrArg vi (atF_none fun j x hj => hP j x (List.getElem?_eq_some_iff.1 hj).1 hj).symm

theorem none_ok (r : Req) : ACalls Try.prog G0 79 [vReq r] (· = vb (reqNone r)) := by
  refine spec_intro tabOk Try.func79 (by kernel_rfl) rfl ?_
  conv => whnf
  refine ⟨fun h => ?_, fun h => ?_⟩ <;> conv => whnf
  · simp at h
    simp [vb, reqNone, h]
  · simp at h
    simp [vb, reqNone]
    omega

theorem near_ok (p q : Ent) (hx : 0 ≤ p.x ∧ p.x ≤ 3 ∧ 0 ≤ p.y ∧ p.y ≤ 3) (hy : 0 ≤ q.x ∧ q.x ≤ 3 ∧ 0 ≤ q.y ∧ q.y ≤ 3) : ACalls Try.prog G0 91 [vEnt p, vEnt q] (· = vb (nearF p q)) := by
  refine spec_intro tabOk Try.func91 (by kernel_rfl) rfl ?_
  conv => whnf
  have w1 : IntKind.i64.wrap (p.x - q.x) = p.x - q.x := wrap_id (by omega) (by omega)
  have w2 : IntKind.i64.wrap (p.y - q.y) = p.y - q.y := wrap_id (by omega) (by omega)
  refine call_bool (l1In_ok _ _ _) (fun h => ?_) (fun h => ?_) <;> conv => whnf
  · refine call_bool (l1In_ok _ _ _) (fun h2 => ?_) (fun h2 => ?_) <;> conv => whnf
    · rw [w1] at h; rw [w2] at h2; simp [vb, nearF, h, h2]
    · rw [w1] at h; rw [w2] at h2; simp [vb, nearF, h, h2]
  · rw [w1] at h; simp [vb, nearF, h]

theorem drop_ok (x : GV) (k : Int) (hf : Fit x.g) (h0 : 0 ≤ k) (h1 : k < x.g.ents.length) : ACalls Try.prog G0 94 [x.v, vi k] (· = (dropV x k).v) := by
  refine spec_own tabOk Try.func94 (by kernel_rfl) [22] [] rfl ?_
  conv => whnf
  have he := hf.at h0 h1
  have hn := hf.n
  have hnf := hf.nf
  refine ⟨h0, _, entAt_row h0 h1, ?_⟩
  conv => whnf
  refine ⟨room (by simp; omega) rfl, room' (by simp; omega), ?_⟩
  conv => whnf
  have w0 : IntKind.i64.wrap (IntKind.i64.wrap ((entAt x.g.ents k).y * 4) + (entAt x.g.ents k).x) = at4 (entAt x.g.ents k) := by
    rw [wrap_id (n := (entAt x.g.ents k).y * 4) (by omega) (by omega), wrap_id (by omega) (by omega)]; rfl
  have ha : 0 ≤ at4 (entAt x.g.ents k) ∧ at4 (entAt x.g.ents k) < 16 := by unfold at4; omega
  have hfl := hf.floor ha.1 ha.2
  refine ⟨by rw [w0]; omega, by rw [w0]; simp; omega, ?_⟩
  conv => whnf
  refine ⟨encI (intAt x.g.floor (at4 (entAt x.g.ents k))), by rw [w0]; exact intAt_row ha.1 (by omega), ?_⟩
  conv => whnf
  refine ⟨by rw [w0]; omega, by rw [w0]; simp; omega, ?_⟩
  conv => whnf
  refine ⟨encI (intAt x.g.floor (at4 (entAt x.g.ents k))), by rw [w0]; exact intAt_row ha.1 (by omega), ?_⟩
  conv => whnf
  refine ⟨h0, by simp; omega, ?_⟩
  conv => whnf
  refine ⟨room (by simp; omega) rfl, room' (by simp; omega), ?_⟩
  conv => whnf
  have wk : IntKind.i64.wrap (k + 1) = k + 1 := wrap_id (by omega) (by omega)
  refine ⟨by rw [wk]; omega, by rw [wk]; simp; omega, ?_⟩
  conv => whnf
  refine ⟨by simp, room (by simp; omega) rfl, room' (by simp; omega), ?_⟩
  conv => whnf
  refine vGame_ext ?_ ?_ ?_
  · have : (k + 1).toNat = k.toNat + 1 := by omega
    rw [wk, this]
    simp [dropV]
  · rw [w0, wrap_id (by omega) (by omega)]
    exact set_row rfl
  · rfl

theorem hit_ok (x : GV) (k n : Int) (hf : Fit x.g) (h0 : 0 ≤ k) (h1 : k < x.g.ents.length) (h2 : n < x.g.ents.length) (hlf : 0 ≤ n → 0 ≤ (entAt x.g.ents n).life ∧ (entAt x.g.ents n).life ≤ 3) : ACalls Try.prog G0 90 [x.v, vi k, vi n] (· = .tup [(hitV x k n).1.v, vi (hitV x k n).2]) := by
  refine spec_own tabOk Try.func90 (by kernel_rfl) [33] [] rfl ?_
  conv => whnf
  have he := hf.at h0 h1
  have hn := hf.n
  have far : ∀ {r : V}, (n < 0 ∨ n = k ∨ nearF (entAt x.g.ents k) (entAt x.g.ents n) = false) → r = .tup [x.v, vi 8] → r = .tup [(hitV x k n).1.v, vi (hitV x k n).2] := fun hc hr => by
    rw [hr]; simp only [hitV, if_pos hc]
  refine ⟨fun hl => ?_, fun hl => ?_⟩ <;> conv => whnf
  · exact far (.inl hl) rfl
  refine ⟨fun hk => ?_, fun hk => ?_⟩ <;> conv => whnf
  · exact far (.inr (.inl hk)) rfl
  have hn0 : 0 ≤ n := by omega
  have hen := hf.at hn0 h2
  have hlf := hlf hn0
  refine ⟨h0, _, entAt_row h0 h1, ?_⟩
  conv => whnf
  refine ⟨hn0, _, entAt_row hn0 h2, ?_⟩
  conv => whnf
  refine drawn_bool (near_ok _ _ ⟨he.1, he.2.1, he.2.2.1, he.2.2.2.1⟩ ⟨hen.1, hen.2.1, hen.2.2.1, hen.2.2.2.1⟩) (fun h => ?_) (fun h => ?_) <;> conv => whnf
  · have nf : ¬ (n < 0 ∨ n = k ∨ nearF (entAt x.g.ents k) (entAt x.g.ents n) = false) := by
      rw [h]; simp; exact ⟨hn0, hk⟩
    refine ⟨room (by simp; omega) rfl, room' (by simp; omega), ?_⟩
    conv => whnf
    refine ⟨hn0, by simp; omega, ?_⟩
    conv => whnf
    refine ⟨encEnt (entAt x.g.ents n), entAt_row hn0 h2, ?_⟩
    conv => whnf
    refine ⟨hn0, by simp; omega, ?_⟩
    conv => whnf
    refine ⟨encEnt (entAt x.g.ents n), entAt_row hn0 h2, ?_⟩
    conv => whnf
    refine ⟨hn0, by simp; omega, ?_⟩
    conv => whnf
    have wl : IntKind.i64.wrap ((entAt x.g.ents n).life - 1) = (entAt x.g.ents n).life - 1 := wrap_id (by omega) (by omega)
    have hnn : n.toNat < x.g.ents.length := by omega
    refine ⟨encEnt { entAt x.g.ents n with life := (entAt x.g.ents n).life - 1 }, by rw [wl]; exact set_get rfl hnn, ?_⟩
    conv => whnf
    refine ⟨fun hz => ?_, fun hz => ?_⟩ <;> conv => whnf
    · refine call_eq' (drop_ok ⟨false, x.b, x.c, ⟨hurt x.g.ents n, x.g.floor, x.g.last⟩⟩ n (hf.setEnt n hen) hn0 (by simp [hurt, setEnt]; omega)) (by rw [wl]; exact congrArg (· :: _) (vGame_ext (set_row rfl) rfl rfl)) ?_
      conv => whnf
      simp only [hitV, if_neg nf, if_pos hz]
      rfl
    · simp only [hitV, if_neg nf, if_neg hz]
      rw [wl]
      exact congrArg (fun v => V.tup [v, vi 0]) (vGame_ext (set_row rfl) rfl rfl)
  · exact far (.inr (.inr h)) rfl

theorem join_ok (x : GV) (c : Int) (hn : x.g.ents.length ≤ 16) (h0 : 0 ≤ c) (h1 : c ≤ 1000) : ACalls Try.prog G0 80 [x.v, vi c] (· = (⟨false, x.b, x.c, ⟨joinF x.g.ents c, x.g.floor, x.g.last⟩⟩ : GV).v) := by
  refine spec_intro tabOk Try.func80 (by kernel_rfl) rfl ?_
  conv => whnf
  let P : Nat → Prop := fun i => ∀ (j : Nat) e, j < i → x.g.ents[j]? = some e → e.client < c
  let I : Nat → SL := fun i => ⟨[(1, vi c), (2, .ref 2 0 0 0), (4, .ref 4 0 0 0), (5, vi i)], [(2, .box [.d (dEnts x.a x.g.ents), .d (dInts x.b x.g.floor), .d (dInts x.c x.g.last)]), (4, .box [.d (.slc true 5 []), .d (.slc true 1 []), .d (.slc true 1 [])])]⟩
  refine loop_up x.g.ents.length P I (by intro j e h; omega) ?_ ?_
  · refine ⟨?_, ?_, rfl⟩ <;> repeat' (first | exact weakSl_nil | exact weakHp_nil | refine weakSl_cons ?_ rfl ?_ | refine weakHp_cons ?_ rfl ?_)
    all_goals rfl
  intro i hi hP
  conv => whnf
  intro hlen
  have wc : IntKind.i64.wrap (c - 1) = c - 1 := wrap_id (by omega) (by omega)
  have fin : (∀ e, x.g.ents[i]? = some e → ¬ e.client < c) → under x.g.ents c = i := fun he => under_spec hi hP he
  have out : ∀ E : List (List D), under x.g.ents c = i → E = (x.g.ents.map encEnt).take i ++ [[.int .i64 c, .int .i64 (IntKind.i64.wrap (c - 1)), .int .i64 (IntKind.i64.wrap (c - 1)), .int .i64 3, .int .i64 0]] ++ (x.g.ents.map encEnt).drop i →
      V.agg [.d (.slc false 5 E), .d (.slc x.b 1 (x.g.floor.map encI)), .d (.slc x.c 1 (x.g.last.map encI))] = (⟨false, x.b, x.c, ⟨joinF x.g.ents c, x.g.floor, x.g.last⟩⟩ : GV).v := fun E hu hE => by
    refine vGame_ext ?_ rfl rfl
    rw [hE, wc]
    simp only [joinF, hu, List.map_append, List.map_take, List.map_drop]
    rfl
  refine ⟨fun hlt => ?_, fun hge => ?_⟩ <;> conv => whnf
  · have hlt := lt_map hlt
    refine (entsAt hlt).elim fun e he => ?_
    refine ⟨by omega, encEnt e, row_map he, ?_⟩
    conv => whnf
    refine ⟨fun h => ?_, fun h => ?_⟩ <;> conv => whnf
    · exact up_next hlt (fun j y hj hy => by
        by_cases hji : j = i
        · subst hji; rw [he] at hy; injection hy with hy; subst hy; exact h
        · exact hP j y (by omega) hy) ⟨weakSl_cons rfl rfl (weakSl_cons rfl rfl (weakSl_cons rfl rfl (weakSl_cons (wrap_succ (by omega)) rfl weakSl_nil))), weakHp_cons rfl rfl (weakHp_cons rfl rfl weakHp_nil), rfl⟩
    · have hu := fin fun y hy => by rw [he] at hy; injection hy with hy; subst hy; exact h
      refine ⟨by omega, by simp; omega, ?_⟩
      conv => whnf
      refine ⟨room (by simp; omega) rfl, room' (by simp; omega), ?_⟩
      conv => whnf
      refine ⟨by simp, room (by simp; omega) rfl, room' (by simp; omega), ?_⟩
      conv => whnf
      refine ⟨by omega, by simp; omega, ?_⟩
      conv => whnf
      refine ⟨by simp, room (by simp; omega) rfl, room' (by simp; omega), ?_⟩
      conv => whnf
      exact out _ hu rfl
  · have hin := ge_map hge hi
    have hu := fin fun y hy => absurd (List.getElem?_eq_some_iff.1 hy).1 (by omega)
    refine ⟨by omega, by simp; omega, ?_⟩
    conv => whnf
    refine ⟨room (by simp; omega) rfl, room' (by simp; omega), ?_⟩
    conv => whnf
    refine ⟨by simp, room (by simp; omega) rfl, room' (by simp; omega), ?_⟩
    conv => whnf
    refine ⟨by omega, by simp; omega, ?_⟩
    conv => whnf
    refine ⟨by simp, room (by simp; omega) rfl, room' (by simp; omega), ?_⟩
    conv => whnf
    exact out _ hu rfl
end Go.Proofs.Ytnnmkenloijkcaa
