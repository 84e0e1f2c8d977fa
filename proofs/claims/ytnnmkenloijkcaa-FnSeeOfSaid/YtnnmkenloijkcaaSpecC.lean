/- What the reference's act of a figure computes. -/
import Derived.Test.YtnnmkenloijkcaaSpecB
set_option linter.unusedVariables false
set_option maxRecDepth 10000
namespace Go.Proofs.Ytnnmkenloijkcaa
open Go Eng

structure ReqFit (r : Req) : Prop where
  x : -1000 ≤ r.x ∧ r.x ≤ 1000
  y : -1000 ≤ r.y ∧ r.y ≤ 1000
def LifeOk (g : Game) : Prop := ∀ (i : Nat) e, g.ents[i]? = some e → 0 ≤ e.life ∧ e.life ≤ 3
theorem LifeOk.at {g : Game} (h : LifeOk g) {k : Int} (h0 : 0 ≤ k) (h1 : k < g.ents.length) : 0 ≤ (entAt g.ents k).life ∧ (entAt g.ents k).life ≤ 3 := h _ _ (entAt_get (by omega))

theorem set_at {l : List Ent} {n k : Int} {e : Ent} {r : List D} (hr : r = encEnt e) (hk : k.toNat < l.length) : ((l.map encEnt).set n.toNat r)[k.toNat]? = some (encEnt (entAt (setEnt l n e) k)) := by
  subst hr
  rw [← List.map_set]
  exact row_map (entAt_get (by simp [setEnt]; exact hk))
theorem set_set {l : List Ent} {i j : Nat} {e f : Ent} {r q : List D} (hr : r = encEnt e) (hq : q = encEnt f) : ((l.map encEnt).set i r).set j q = ((l.set i e).set j f).map encEnt := by
  subst hr; subst hq; simp only [List.map_set]
theorem act_ok (x : GV) (k : Int) (r : Req) (hf : Fit x.g) (hl : LifeOk x.g) (hr : ReqFit r) (h0 : 0 ≤ k) (h1 : k < x.g.ents.length) : ACalls Try.prog G0 81 [x.v, vi k, vReq r] (· = .tup [(actV x k r).1.v, vi (actV x k r).2]) := by
  refine spec_own tabOk Try.func81 (by kernel_rfl) [55, 120, 150] [] rfl ?_
  conv => whnf
  have he := hf.at h0 h1
  have hn := hf.n
  have hnf := hf.nf
  have hrx := hr.x
  have hry := hr.y
  have hkk : k.toNat < x.g.ents.length := by omega
  refine ⟨h0, _, entAt_row h0 h1, ?_⟩
  conv => whnf
  refine ⟨fun h2 => ?_, fun h2 => ?_⟩ <;> conv => whnf
  · have wx : IntKind.i64.wrap ((entAt x.g.ents k).x + r.x) = (entAt x.g.ents k).x + r.x := wrap_id (by omega) (by omega)
    have wy : IntKind.i64.wrap ((entAt x.g.ents k).y + r.y) = (entAt x.g.ents k).y + r.y := wrap_id (by omega) (by omega)
    have edge : ∀ {v : V}, (inB ((entAt x.g.ents k).x + r.x) 0 3 = false ∨ inB ((entAt x.g.ents k).y + r.y) 0 3 = false) → v = .tup [x.v, vi 6] → v = .tup [(actV x k r).1.v, vi (actV x k r).2] := fun hc hv => by
      rw [hv]; simp only [actV, if_pos h2, if_pos hc]
    refine call_bool (l1In_ok _ _ _) (fun h => ?_) (fun h => ?_) <;> conv => whnf
    · rw [wx] at h
      refine call_bool (l1In_ok _ _ _) (fun h3 => ?_) (fun h3 => ?_) <;> conv => whnf
      · rw [wy] at h3
        refine ⟨room (by simp; omega) rfl, room' (by simp; omega), ?_⟩
        conv => whnf
        refine ⟨h0, by simp; omega, ?_⟩
        conv => whnf
        refine ⟨encEnt (entAt x.g.ents k), entAt_row h0 h1, ?_⟩
        conv => whnf
        simp only [actV, if_pos h2, h, h3, Bool.true_eq_false, or_self, if_false]
        rw [wx, wy]
        exact congrArg (fun v => V.tup [v, vi 0]) (vGame_ext (set_row rfl) rfl rfl)
      · rw [wy] at h3; exact edge (.inr h3) rfl
    · rw [wx] at h; exact edge (.inl h) rfl
  refine ⟨fun h3 => ?_, fun h3 => ?_⟩ <;> conv => whnf
  · have w0 : IntKind.i64.wrap (IntKind.i64.wrap ((entAt x.g.ents k).y * 4) + (entAt x.g.ents k).x) = at4 (entAt x.g.ents k) := by
      rw [wrap_id (n := (entAt x.g.ents k).y * 4) (by omega) (by omega), wrap_id (by omega) (by omega)]; rfl
    have ha : 0 ≤ at4 (entAt x.g.ents k) ∧ at4 (entAt x.g.ents k) < 16 := by unfold at4; omega
    have hfl := hf.floor ha.1 ha.2
    refine ⟨by rw [w0]; omega, encI (intAt x.g.floor (at4 (entAt x.g.ents k))), by rw [w0]; exact intAt_row ha.1 (by omega), ?_⟩
    conv => whnf
    refine ⟨fun hz => ?_, fun hz => ?_⟩ <;> conv => whnf
    · simp only [actV, if_neg h2, if_pos h3, if_pos hz]; rfl
    refine ⟨room (by simp; omega) rfl, room' (by simp; omega), ?_⟩
    conv => whnf
    refine ⟨by rw [w0]; omega, by rw [w0]; simp; omega, ?_⟩
    conv => whnf
    refine ⟨encI (intAt x.g.floor (at4 (entAt x.g.ents k))), by rw [w0]; exact intAt_row ha.1 (by omega), ?_⟩
    conv => whnf
    refine ⟨by rw [w0]; omega, by rw [w0]; simp; omega, ?_⟩
    conv => whnf
    refine ⟨encI (intAt x.g.floor (at4 (entAt x.g.ents k))), by rw [w0]; exact intAt_row ha.1 (by omega), ?_⟩
    conv => whnf
    refine ⟨room (by simp; omega) rfl, room' (by simp; omega), ?_⟩
    conv => whnf
    refine ⟨h0, by simp; omega, ?_⟩
    conv => whnf
    refine ⟨encEnt (entAt x.g.ents k), entAt_row h0 h1, ?_⟩
    conv => whnf
    simp only [actV, if_neg h2, if_pos h3, if_neg hz]
    rw [w0, wrap_id (n := (entAt x.g.ents k).gold + 1) (by omega) (by omega), wrap_id (n := intAt x.g.floor (at4 (entAt x.g.ents k)) - 1) (by omega) (by omega)]
    exact congrArg (fun v => V.tup [v, vi 0]) (vGame_ext (set_row rfl) (set_row rfl) rfl)
  refine ⟨fun h4 => ?_, fun h4 => ?_⟩ <;> conv => whnf
  · refine drawn_eq (at_ok _ _ _ _ _) ?_
    conv => whnf
    have hat := atF_spec x.g.ents r.x
    refine drawn_eq (hit_ok x k (atF x.g.ents r.x) hf h0 h1 ?_ ?_) ?_
    · rcases hat with ⟨h, _⟩ | ⟨i, h, hi, _⟩ <;> omega
    · intro hn0
      rcases hat with ⟨h, _⟩ | ⟨i, h, hi, _⟩
      · omega
      · exact hl.at hn0 (by omega)
    conv => whnf
    simp only [actV, if_neg h2, if_neg h3, if_pos h4]
    rfl
  refine call_eq (at_ok _ _ _ _ _) ?_
  conv => whnf
  have hat : 0 ≤ atF x.g.ents r.x → atF x.g.ents r.x < x.g.ents.length := fun h => by
    rcases atF_spec x.g.ents r.x with ⟨h, _⟩ | ⟨i, h, hi, _⟩ <;> omega
  have hact : actV x k r = (if atF x.g.ents r.x < 0 ∨ atF x.g.ents r.x = k ∨ nearF (entAt x.g.ents k) (entAt x.g.ents (atF x.g.ents r.x)) = false then (x, 8)
    else if (entAt x.g.ents k).gold < r.y then (x, 7)
    else (⟨false, x.b, x.c, ⟨setEnt (setEnt x.g.ents (atF x.g.ents r.x) { entAt x.g.ents (atF x.g.ents r.x) with gold := (entAt x.g.ents (atF x.g.ents r.x)).gold + r.y }) k { entAt x.g.ents k with gold := (entAt x.g.ents k).gold - r.y }, x.g.floor, x.g.last⟩⟩, 0)) := by
    simp only [actV, if_neg h2, if_neg h3, if_neg h4]
  have far : ∀ {v : V}, (atF x.g.ents r.x < 0 ∨ atF x.g.ents r.x = k ∨ nearF (entAt x.g.ents k) (entAt x.g.ents (atF x.g.ents r.x)) = false) → v = .tup [x.v, vi 8] → v = .tup [(actV x k r).1.v, vi (actV x k r).2] := fun hc hv => by
    rw [hv, hact]; simp only [if_pos hc]
  refine ⟨fun hl0 => ?_, fun hl0 => ?_⟩ <;> conv => whnf
  · exact far (.inl hl0) rfl
  refine ⟨fun hk => ?_, fun hk => ?_⟩ <;> conv => whnf
  · exact far (.inr (.inl hk)) rfl
  have hn0 : 0 ≤ atF x.g.ents r.x := by omega
  have h1n := hat hn0
  have hen := hf.at hn0 h1n
  have hnn : (atF x.g.ents r.x).toNat < x.g.ents.length := by omega
  refine ⟨hn0, _, entAt_row hn0 h1n, ?_⟩
  conv => whnf
  refine drawn_bool (near_ok (entAt x.g.ents k) _ ⟨he.1, he.2.1, he.2.2.1, he.2.2.2.1⟩ ⟨hen.1, hen.2.1, hen.2.2.1, hen.2.2.2.1⟩) (fun h => ?_) (fun h => ?_) <;> conv => whnf
  · have nf : ¬ (atF x.g.ents r.x < 0 ∨ atF x.g.ents r.x = k ∨ nearF (entAt x.g.ents k) (entAt x.g.ents (atF x.g.ents r.x)) = false) := by
      rw [h]; simp; exact ⟨hn0, hk⟩
    rw [if_neg nf] at hact
    refine ⟨fun hp => ?_, fun hp => ?_⟩ <;> conv => whnf
    · rw [hact, if_pos hp]; rfl
    rw [if_neg hp] at hact
    refine ⟨room (by simp; omega) rfl, room' (by simp; omega), ?_⟩
    conv => whnf
    refine ⟨hn0, by simp; omega, ?_⟩
    conv => whnf
    refine ⟨encEnt (entAt x.g.ents (atF x.g.ents r.x)), entAt_row hn0 h1n, ?_⟩
    conv => whnf
    refine ⟨hn0, by simp; omega, ?_⟩
    conv => whnf
    refine ⟨encEnt (entAt x.g.ents (atF x.g.ents r.x)), entAt_row hn0 h1n, ?_⟩
    conv => whnf
    have wg : IntKind.i64.wrap ((entAt x.g.ents (atF x.g.ents r.x)).gold + r.y) = (entAt x.g.ents (atF x.g.ents r.x)).gold + r.y := wrap_id (by omega) (by omega)
    have wh : IntKind.i64.wrap ((entAt x.g.ents k).gold - r.y) = (entAt x.g.ents k).gold - r.y := wrap_id (by omega) (by omega)
    refine ⟨room (by simp; omega) rfl, room' (by simp; omega), ?_⟩
    conv => whnf
    refine ⟨h0, by simp; omega, ?_⟩
    conv => whnf
    refine ⟨encEnt (entAt (setEnt x.g.ents (atF x.g.ents r.x) { entAt x.g.ents (atF x.g.ents r.x) with gold := (entAt x.g.ents (atF x.g.ents r.x)).gold + r.y }) k), by rw [wg]; exact set_at rfl hkk, ?_⟩
    conv => whnf
    rw [hact, wg, wh]
    exact congrArg (fun v => V.tup [v, vi 0]) (vGame_ext (set_set rfl rfl) rfl rfl)
  · exact far (.inr (.inr h)) rfl

/-- An ask that may be done to a game. -/
structure ReqIn (r : Req) : Prop extends ReqFit r where
  cl : reqNone r = true ∨ 1 ≤ r.client ∧ r.client ≤ 4

theorem do_ok (x : GV) (r : Req) (hf : Fit x.g) (hl : LifeOk x.g) (hr : ReqIn r) : ACalls Try.prog G0 54 [x.v, vReq r] (· = .tup [(doV x r).1.v, vi (doV x r).2]) := by
  refine spec_own tabOk Try.func54 (by kernel_rfl) [24] [] rfl ?_
  conv => whnf
  have hn := hf.n
  have hnl := hf.nl
  refine call_bool (none_ok r) (fun hno => ?_) (fun hno => ?_) <;> conv => whnf
  · simp only [doV, if_pos hno]; rfl
  have hno' : ¬ reqNone r = true := by rw [hno]; simp
  have hc : 1 ≤ r.client ∧ r.client ≤ 4 := hr.cl.resolve_left hno'
  have wc : IntKind.i64.wrap (r.client - 1) = r.client - 1 := wrap_id (by omega) (by omega)
  refine ⟨by rw [wc]; omega, encI (intAt x.g.last (r.client - 1)), by rw [wc]; exact intAt_row (by omega) (by omega), ?_⟩
  conv => whnf
  refine ⟨fun ho => ?_, fun ho => ?_⟩ <;> conv => whnf
  · simp only [doV, if_neg hno', if_pos ho]; rfl
  let y : GV := ⟨x.a, x.b, false, ⟨x.g.ents, x.g.floor, x.g.last.set (r.client - 1).toNat r.num⟩⟩
  have hd1 : r.op = 1 → 0 ≤ atF x.g.ents r.client → doV x r = (y, 4) := fun h1 h2 => by
    simp only [doV, if_neg hno', if_neg ho, if_pos h1, if_pos h2, y]
  have hd2 : r.op = 1 → ¬ 0 ≤ atF x.g.ents r.client → doV x r = (⟨false, y.b, y.c, ⟨joinF y.g.ents r.client, y.g.floor, y.g.last⟩⟩, 0) := fun h1 h2 => by
    simp only [doV, if_neg hno', if_neg ho, if_pos h1, if_neg h2, y]
  have hd3 : ¬ r.op = 1 → atF x.g.ents r.client < 0 → doV x r = (y, 5) := fun h1 h2 => by
    simp only [doV, if_neg hno', if_neg ho, if_neg h1, if_pos h2, y]
  have hd4 : ¬ r.op = 1 → ¬ atF x.g.ents r.client < 0 → doV x r = actV y (atF x.g.ents r.client) r := fun h1 h2 => by
    simp only [doV, if_neg hno', if_neg ho, if_neg h1, if_neg h2, y]
  refine ⟨room (by simp; omega) rfl, room' (by simp; omega), ?_⟩
  conv => whnf
  refine ⟨by rw [wc]; omega, by rw [wc]; simp; omega, ?_⟩
  conv => whnf
  refine ⟨encI (intAt x.g.last (r.client - 1)), by rw [wc]; exact intAt_row (by omega) (by omega), ?_⟩
  conv => whnf
  have hy : ∀ {v : V}, v = .agg [.d (dEnts x.a x.g.ents), .d (dInts x.b x.g.floor), .d (.slc false 1 ((x.g.last.map encI).set (IntKind.i64.wrap (r.client - 1)).toNat (encI r.num)))] → v = y.v := fun hv => by
    rw [hv, wc]; exact vGame_ext rfl rfl (set_row rfl)
  refine call_eq' (at_ok x.a x.b false y.g r.client) (by exact congrArg (· :: _) (hy rfl)) ?_
  conv => whnf
  refine ⟨fun h1 => ?_, fun h1 => ?_⟩ <;> conv => whnf
  · refine ⟨fun h2 => ?_, fun h2 => ?_⟩ <;> conv => whnf
    · rw [hd1 h1 h2]
      exact congrArg (fun v => V.tup [v, vi 4]) (hy rfl)
    refine call_eq' (join_ok y r.client hn (by omega) (by omega)) (congrArg (· :: _) (hy rfl)) ?_
    conv => whnf
    rw [hd2 h1 h2]
    rfl
  refine ⟨fun h2 => ?_, fun h2 => ?_⟩ <;> conv => whnf
  · rw [hd3 h1 h2]
    exact congrArg (fun v => V.tup [v, vi 5]) (hy rfl)
  have hat : atF x.g.ents r.client < x.g.ents.length := by
    rcases atF_spec x.g.ents r.client with ⟨h, _⟩ | ⟨i, h, hi, _⟩ <;> omega
  have hfy : Fit y.g := ⟨hf.n, hf.nf, by simp [y, hnl], hf.ent, hf.fl⟩
  refine call_eq' (act_ok y (atF x.g.ents r.client) r hfy hl hr.toReqFit (by have : ¬ atF x.g.ents r.client < 0 := h2
                                                                             omega) hat) (congrArg (· :: _) (hy rfl)) ?_
  conv => whnf
  rw [hd4 h1 h2]
  rfl
end Go.Proofs.Ytnnmkenloijkcaa
