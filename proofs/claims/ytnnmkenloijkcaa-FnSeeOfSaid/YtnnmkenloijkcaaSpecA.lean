/- What the reference's checks of a game compute. -/
import Derived.Test.YtnnmkenloijkcaaMod
set_option linter.unusedVariables false
set_option maxRecDepth 10000
namespace Go.Proofs.Ytnnmkenloijkcaa
open Go Eng

theorem l1In_ok (n lo hi : Int) : ACalls Try.prog G0 53 [vi n, vi lo, vi hi] (· = vb (inB n lo hi)) := by
  refine spec_intro tabOk Try.func53 (by kernel_rfl) rfl ?_
  conv => whnf
  refine ⟨fun h1 => ?_, fun h1 => ?_⟩ <;> conv => whnf
  · refine ⟨fun h2 => ?_, fun h2 => ?_⟩ <;> conv => whnf
    · simp [vb, inB, *]
    · simp [vb, inB, *]
  · simp [vb, inB, *]

theorem l2EntOk_ok (e : Ent) : ACalls Try.prog G0 72 [vEnt e] (· = vb (entOk e)) := by
  refine spec_intro tabOk Try.func72 (by kernel_rfl) rfl ?_
  conv => whnf
  repeat' (refine call_bool (l1In_ok _ _ _) (fun h => ?_) (fun h => ?_) <;> conv => whnf)
  all_goals simp_all [vb, entOk]

theorem l2Ok_ok (a b c : Bool) (g : Game) : ACalls Try.prog G0 37 [vGame a b c g] (· = vb (okG g)) := by
  refine spec_intro tabOk Try.func37 (by kernel_rfl) rfl ?_
  conv => whnf
  let P1 : Nat → Prop := fun i => (∀ (j : Nat) e, j < i → g.ents[j]? = some e → entOk e = true) ∧ (∀ (j : Nat) p e, j + 1 < i → g.ents[j]? = some p → g.ents[j + 1]? = some e → p.client < e.client)
  let I1 : Nat → SL := fun i => ⟨[(1, .ref 1 0 0 0), (2, vb false), (3, vi ((g.ents.map Ent.gold).take i).sum), (4, vi i)], [(1, .box [.d (dEnts a g.ents), .d (dInts b g.floor), .d (dInts c g.last)])]⟩
  refine loop_up g.ents.length P1 I1 ⟨by omega, by omega⟩ ?_ ?_
  · refine ⟨?_, ?_, rfl⟩ <;> repeat' (first | exact weakSl_nil | exact weakHp_nil | refine weakSl_cons ?_ rfl ?_ | refine weakHp_cons ?_ rfl ?_)
    all_goals rfl
  rintro i hi ⟨hP1, hP2⟩
  conv => whnf
  intro hlen
  have hlen := le_map hlen
  have hgi : ∀ e, entOk e = true → 0 ≤ e.gold ∧ e.gold ≤ 20 := fun e he => by
    simp only [entOk, Bool.and_eq_true, inB_t] at he; exact he.2
  have hr : 0 ≤ ((g.ents.map Ent.gold).take i).sum ∧ ((g.ents.map Ent.gold).take i).sum ≤ 20 * ((g.ents.map Ent.gold).take i).length := sum_range (by omega) fun j n hj => by
    rw [List.getElem?_take] at hj
    split at hj
    · rw [List.getElem?_map] at hj
      cases hx : g.ents[j]? with
      | none => simp [hx] at hj
      | some x =>
        simp [hx] at hj
        subst hj
        exact hgi x (hP1 j x (by assumption) hx)
    · simp at hj
  have hl : ((g.ents.map Ent.gold).take i).length = i := by simp; omega
  rw [hl] at hr
  conv => whnf
  refine ⟨fun hlt => ?_, fun hge => ?_⟩ <;> conv => whnf
  · have hlt := lt_map hlt
    refine (entsAt hlt).elim fun e he => ?_
    refine ⟨by omega, encEnt e, row_map he, ?_⟩
    conv => whnf
    refine drawn_bool (l2EntOk_ok e) (fun h => ?_) (fun h => ?_) <;> conv => whnf
    · have next : (0 < i → ∀ p, g.ents[i - 1]? = some p → p.client < e.client) → (∀ (j : Nat) e, j < i + 1 → g.ents[j]? = some e → entOk e = true) ∧ (∀ (j : Nat) p e, j + 1 < i + 1 → g.ents[j]? = some p → g.ents[j + 1]? = some e → p.client < e.client) := fun hord => by
        refine ⟨fun j x hj hx => ?_, fun j p x hj hp hx => ?_⟩
        · by_cases hji : j = i
          · subst hji; rw [he] at hx; injection hx with hx; subst hx; exact h
          · exact hP1 j x (by omega) hx
        · by_cases hji : j + 1 = i
          · subst hji
            rw [he] at hx; injection hx with hx; subst hx
            exact hord (by omega) p hp
          · exact hP2 j p x (by omega) hp hx
      have hs : vi (IntKind.i64.wrap (((g.ents.map Ent.gold).take i).sum + e.gold)) = vi ((g.ents.map Ent.gold).take (i + 1)).sum := by
        have hg := hgi e h
        rw [wrap_id (by omega) (by omega), sum_succ (n := e.gold) (by simp [he])]
      refine ⟨fun h0 => ?_, fun h0 => ?_⟩ <;> conv => whnf
      · have h0 : 0 < i := by omega
        have hi1 : i - 1 < g.ents.length := by omega
        refine (entsAt hi1).elim fun p hp => ?_
        have hw : IntKind.i64.wrap ((i : Int) - 1) = ((i - 1 : Nat) : Int) := by rw [wrap_id (by omega) (by omega)]; omega
        refine ⟨by omega, encEnt e, row_map he, ?_⟩
        conv => whnf
        refine ⟨by rw [hw]; omega, encEnt p, by rw [hw]; exact row_map hp, ?_⟩
        conv => whnf
        refine ⟨fun ho => ?_, fun ho => ?_⟩ <;> conv => whnf
        · exact congrArg vb (okG_f fun hok => by
            have := hok.ord (i - 1) p e hp (by rw [Nat.sub_add_cancel h0]; exact he)
            omega).symm
        · refine ⟨by omega, encEnt e, row_map he, ?_⟩
          conv => whnf
          refine up_next hlt (next fun _ p' hp' => by rw [hp] at hp'; injection hp' with hp'; subst hp'; omega) ⟨weakSl_cons rfl rfl (weakSl_cons rfl rfl (weakSl_cons hs rfl (weakSl_cons (wrap_succ (by omega)) rfl weakSl_nil))), weakHp_cons rfl rfl weakHp_nil, rfl⟩
      · refine ⟨by omega, encEnt e, row_map he, ?_⟩
        conv => whnf
        exact up_next hlt (next fun hpos => absurd (Int.ofNat_lt.2 hpos) h0) ⟨weakSl_cons rfl rfl (weakSl_cons rfl rfl (weakSl_cons hs rfl (weakSl_cons (wrap_succ (by omega)) rfl weakSl_nil))), weakHp_cons rfl rfl weakHp_nil, rfl⟩
    · exact congrArg vb (okG_f fun hok => by simp [hok.ent i e he] at h).symm
  have hin := ge_map hge hi
  subst hin
  have hall : (g.ents.map Ent.gold).take g.ents.length = g.ents.map Ent.gold := List.take_of_length_le (by simp)
  rw [hall] at hr
  let P2 : Nat → Prop := fun i => ∀ (j : Nat) n, j < i → g.floor[j]? = some n → inB n 0 20 = true
  let I2 : Nat → SL := fun i => ⟨[(1, .ref 1 0 0 0), (2, vb false), (3, vi ((g.ents.map Ent.gold).sum + (g.floor.take i).sum)), (5, vi i)], [(1, .box [.d (dEnts a g.ents), .d (dInts b g.floor), .d (dInts c g.last)])]⟩
  refine loop_up g.floor.length P2 I2 (by omega) ?_ ?_
  · refine ⟨?_, ?_, rfl⟩ <;> repeat' (first | exact weakSl_nil | exact weakHp_nil | refine weakSl_cons ?_ rfl ?_ | refine weakHp_cons ?_ rfl ?_)
    · rfl
    · rfl
    · exact congrArg vi (by rw [hall]; simp)
    · rfl
    · rfl
  intro i hi hP
  conv => whnf
  intro hlen2
  have hlen2 := le_map hlen2
  have hr2 : 0 ≤ (g.floor.take i).sum ∧ (g.floor.take i).sum ≤ 20 * (g.floor.take i).length := sum_range (by omega) fun j n hj => by
    rw [List.getElem?_take] at hj
    split at hj
    · exact inB_t.1 (hP j n (by assumption) hj)
    · simp at hj
  have hl2 : (g.floor.take i).length = i := by simp; omega
  rw [hl2] at hr2
  conv => whnf
  refine ⟨fun hlt => ?_, fun hge => ?_⟩ <;> conv => whnf
  · have hlt := lt_map hlt
    refine (entsAt hlt).elim fun e he => ?_
    refine ⟨by omega, encI e, row_map he, ?_⟩
    conv => whnf
    refine call_bool (l1In_ok _ _ _) (fun h => ?_) (fun h => ?_) <;> conv => whnf
    · refine ⟨by omega, encI e, row_map he, ?_⟩
      conv => whnf
      have hs : vi (IntKind.i64.wrap ((g.ents.map Ent.gold).sum + (g.floor.take i).sum + e)) = vi ((g.ents.map Ent.gold).sum + (g.floor.take (i + 1)).sum) := by
        have hg := inB_t.1 h
        rw [wrap_id (by omega) (by omega), sum_succ he, Int.add_assoc]
      exact up_next hlt (fun j x hj hx => by
        by_cases hji : j = i
        · subst hji; rw [he] at hx; injection hx with hx; subst hx; exact h
        · exact hP j x (by omega) hx) ⟨weakSl_cons rfl rfl (weakSl_cons rfl rfl (weakSl_cons hs rfl (weakSl_cons (wrap_succ (by omega)) rfl weakSl_nil))), weakHp_cons rfl rfl weakHp_nil, rfl⟩
    · exact congrArg vb (okG_f fun hok => by simp [hok.floor i e he] at h).symm
  have hin := ge_map hge hi
  subst hin
  let P3 : Nat → Prop := fun i => ∀ (j : Nat) n, j < i → g.last[j]? = some n → inB n 0 30 = true
  let I3 : Nat → SL := fun i => ⟨[(1, .ref 1 0 0 0), (2, vb false), (3, vi ((g.ents.map Ent.gold).sum + g.floor.sum)), (6, vi i)], [(1, .box [.d (dEnts a g.ents), .d (dInts b g.floor), .d (dInts c g.last)])]⟩
  refine loop_up g.last.length P3 I3 (by omega) ?_ ?_
  · refine ⟨?_, ?_, rfl⟩ <;> repeat' (first | exact weakSl_nil | exact weakHp_nil | refine weakSl_cons ?_ rfl ?_ | refine weakHp_cons ?_ rfl ?_)
    · rfl
    · rfl
    · exact congrArg vi (by rw [List.take_length])
    · rfl
    · rfl
  intro i hi hQ
  conv => whnf
  intro hlen3
  have hlen3 := le_map hlen3
  conv => whnf
  refine ⟨fun hlt => ?_, fun hge => ?_⟩ <;> conv => whnf
  · have hlt := lt_map hlt
    refine (entsAt hlt).elim fun e he => ?_
    refine ⟨by omega, encI e, row_map he, ?_⟩
    conv => whnf
    refine call_bool (l1In_ok _ _ _) (fun h => ?_) (fun h => ?_) <;> conv => whnf
    · exact up_next hlt (fun j x hj hx => by
        by_cases hji : j = i
        · subst hji; rw [he] at hx; injection hx with hx; subst hx; exact h
        · exact hQ j x (by omega) hx) ⟨weakSl_cons rfl rfl (weakSl_cons rfl rfl (weakSl_cons rfl rfl (weakSl_cons (wrap_succ (by omega)) rfl weakSl_nil))), weakHp_cons rfl rfl weakHp_nil, rfl⟩
    · exact congrArg vb (okG_f fun hok => by simp [hok.last i e he] at h).symm
  have hin := ge_map hge hi
  subst hin
  intro _
  conv => whnf
  refine ⟨fun h1 => ?_, fun h1 => ?_⟩ <;> conv => whnf
  · intro _
    conv => whnf
    refine ⟨fun h2 => ?_, fun h2 => ?_⟩ <;> conv => whnf
    · refine ⟨fun h3 => ?_, fun h3 => ?_⟩ <;> conv => whnf
      · exact congrArg vb (okG_t ⟨fun i e he => hP1 i e (List.getElem?_eq_some_iff.1 he).1 he, fun i p e hp he => hP2 i p e (List.getElem?_eq_some_iff.1 he).1 hp he,
          fun i n hn => hP i n (List.getElem?_eq_some_iff.1 hn).1 hn, fun i n hn => hQ i n (List.getElem?_eq_some_iff.1 hn).1 hn, by simp at h1; omega, by simp at h2; omega, h3⟩).symm
      · exact congrArg vb (okG_f fun hok => h3 hok.sum).symm
    · exact congrArg vb (okG_f fun hok => h2 (by simp [hok.nlast])).symm
  · exact congrArg vb (okG_f fun hok => h1 (by simp [hok.nfloor])).symm
end Go.Proofs.Ytnnmkenloijkcaa
