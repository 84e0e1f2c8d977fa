/- What the program's check of a game computes. -/
import Derived.Test.YtnnmkenloijkcaaGameL
set_option linter.unusedVariables false
set_option maxRecDepth 10000
namespace Go.Proofs.Ytnnmkenloijkcaa
open Go Eng

theorem in_ok (n lo hi : Int) : ACalls Try.prog G0 40 [vi n, vi lo, vi hi] (· = vb (inB n lo hi)) := by
  refine spec_intro tabOk Try.func40 (by kernel_rfl) rfl ?_
  conv => whnf
  refine ⟨fun h1 => ?_, fun h1 => ?_⟩ <;> conv => whnf
  · refine ⟨fun h2 => ?_, fun h2 => ?_⟩ <;> conv => whnf
    · simp [vb, inB, *]
    · simp [vb, inB, *]
  · simp [vb, inB, *]
def boardB (x y : Int) : Bool := inB x 0 3 && inB y 0 3
theorem board_ok (x y : Int) : ACalls Try.prog G0 41 [vi x, vi y] (· = vb (boardB x y)) := by
  refine spec_intro tabOk Try.func41 (by kernel_rfl) rfl ?_
  conv => whnf
  refine call_bool (in_ok _ _ _) (fun h => ?_) (fun h => ?_) <;> conv => whnf
  · refine call_bool (in_ok _ _ _) (fun h2 => ?_) (fun h2 => ?_) <;> conv => whnf
    · simp [vb, boardB, *]
    · simp [vb, boardB, *]
  · simp [vb, boardB, *]
theorem last1_ok (n : Int) : ACalls Try.prog G0 43 [vi n] (· = vb (!inB n 0 30)) := by
  refine spec_intro tabOk Try.func43 (by kernel_rfl) rfl ?_
  conv => whnf
  refine call_bool (in_ok _ _ _) (fun h => ?_) (fun h => ?_) <;> conv => whnf
  · simp [vb, *]
  · simp [vb, *]
/-- The first number that is not one of an ask. -/
theorem index_ok (f : Bool) (l : List Int) : ACalls Try.prog G0 73 [.d (dInts f l), .d (.fn 43 [])] (fun r => ∃ k, r = vi k ∧ (0 ≤ k ↔ ∃ n ∈ l, inB n 0 30 = false)) := by
  refine spec_intro tabOk Try.func73 (by kernel_rfl) rfl ?_
  conv => whnf
  intro hlen
  have hlen := le_map hlen
  let P : Nat → Prop := fun i => ∀ (j : Nat) n, j < i → l[j]? = some n → inB n 0 30 = true
  let I : Nat → SL := fun i => ⟨[(0, .d (dInts f l)), (1, .d (.fn 43 [])), (7, vi (l.map encI).length), (8, vi i)], []⟩
  refine loop_up l.length P I (by intro j n h; omega) ?_ ?_
  · refine ⟨?_, ?_, rfl⟩ <;> repeat' (first | exact weakSl_nil | exact weakHp_nil | refine weakSl_cons ?_ rfl ?_ | refine weakHp_cons ?_ rfl ?_)
    all_goals rfl
  intro i hi hP
  conv => whnf
  refine ⟨fun hlt => ?_, fun hge => ?_⟩ <;> conv => whnf
  · have hlt := lt_map hlt
    refine (entsAt hlt).elim fun n hn => ?_
    refine ⟨by omega, encI n, row_map hn, ?_⟩
    conv => whnf
    refine call_bool (last1_ok n) (fun h => ?_) (fun h => ?_) <;> conv => whnf
    · exact ⟨(i : Nat), rfl, ⟨fun _ => ⟨n, List.mem_of_getElem? hn, by simpa using h⟩, fun _ => by omega⟩⟩
    · exact up_next hlt (fun j x hj hx => by
        by_cases hji : j = i
        · subst hji; rw [hn] at hx; injection hx with hx; subst hx; simpa using h
        · exact hP j x (by omega) hx) ⟨weakSl_cons rfl rfl (weakSl_cons rfl rfl (weakSl_cons rfl rfl (weakSl_cons (wrap_succ (by omega)) rfl weakSl_nil))), weakHp_nil, rfl⟩
  have hin := ge_map hge hi
  subst hin
  refine ⟨-1, rfl, ⟨fun h => by omega, fun ⟨n, hn, h⟩ => ?_⟩⟩
  obtain ⟨j, hj⟩ := List.mem_iff_getElem?.1 hn
  rw [hP j n (List.getElem?_eq_some_iff.1 hj).1 hj] at h
  simp at h
def badB (l : List Int) : Bool := l.any fun n => !inB n 0 30
theorem badB_t {l : List Int} : badB l = true ↔ ∃ n ∈ l, inB n 0 30 = false := by simp [badB]
theorem contains_ok (f : Bool) (l : List Int) : ACalls Try.prog G0 42 [.d (dInts f l), .d (.fn 43 [])] (· = vb (badB l)) := by
  refine spec_intro tabOk Try.func42 (by kernel_rfl) rfl ?_
  conv => whnf
  refine ⟨_, index_ok f l, fun r ⟨k, hr, hk⟩ => ?_⟩
  subst hr
  conv => whnf
  refine ⟨fun h => ?_, fun h => ?_⟩ <;> conv => whnf
  · exact congrArg vb (badB_t.2 (hk.1 h)).symm
  · refine congrArg vb ?_
    cases hb : badB l with
    | false => rfl
    | true => exact absurd (hk.2 (badB_t.1 hb)) h

def lastC (l : List Ent) : Nat → Int
  | 0 => 0
  | i + 1 => (entAt l i).client
theorem entOk_split {e : Ent} {n : Int} (hn : 0 ≤ n) : (inB e.client (n + 1) 4 = true ∧ boardB e.x e.y = true ∧ inB e.life 0 3 = true ∧ inB e.gold 0 20 = true) ↔ (entOk e = true ∧ n < e.client) := by
  simp only [entOk, boardB, Bool.and_eq_true, inB_t]
  omega
theorem gameOk_ok (a b c : Bool) (g : Game) : ACalls Try.prog G0 15 [vGame a b c g] (· = vb (okG g)) := by
  refine spec_intro tabOk Try.func15 (by kernel_rfl) rfl ?_
  conv => whnf
  intro hlen
  have hlen := le_map hlen
  let P1 : Nat → Prop := fun i => (∀ (j : Nat) e, j < i → g.ents[j]? = some e → entOk e = true) ∧ (∀ (j : Nat) p e, j + 1 < i → g.ents[j]? = some p → g.ents[j + 1]? = some e → p.client < e.client)
  let I1 : Nat → SL := fun i => ⟨[(1, .ref 1 0 0 0), (3, vi (lastC g.ents i)), (4, vi ((g.ents.map Ent.gold).take i).sum), (10, .d (dEnts a g.ents)), (11, vi (g.ents.map encEnt).length), (12, vi i)], [(1, .box [.d (dEnts a g.ents), .d (dInts b g.floor), .d (dInts c g.last)])]⟩
  refine loop_up g.ents.length P1 I1 ⟨by omega, by omega⟩ ?_ ?_
  · refine ⟨?_, ?_, rfl⟩ <;> repeat' (first | exact weakSl_nil | exact weakHp_nil | refine weakSl_cons ?_ rfl ?_ | refine weakHp_cons ?_ rfl ?_)
    all_goals rfl
  rintro i hi ⟨hP1, hP2⟩
  have hgi : ∀ e, entOk e = true → 0 ≤ e.gold ∧ e.gold ≤ 20 := fun e he => by
    simp only [entOk, Bool.and_eq_true, inB_t] at he; exact he.2
  have hr : 0 ≤ ((g.ents.map Ent.gold).take i).sum ∧ ((g.ents.map Ent.gold).take i).sum ≤ 20 * ((g.ents.map Ent.gold).take i).length := sum_range (by omega) fun j n hj => by
    rw [List.getElem?_take] at hj
    split at hj
    · rw [List.getElem?_map] at hj
      cases hx : g.ents[j]? with
      | none => simp [hx] at hj
      | some x =>
        simp [hx] at hj
        subst hj
        exact hgi x (hP1 j x (by assumption) hx)
    · simp at hj
  have hl : ((g.ents.map Ent.gold).take i).length = i := by simp; omega
  rw [hl] at hr
  have hlc : 0 ≤ lastC g.ents i ∧ lastC g.ents i ≤ 4 := by
    cases i with
    | zero => simp [lastC]
    | succ k =>
      have hk : k < g.ents.length := by omega
      have := hP1 k (entAt g.ents k) (by omega) (by simp [entAt, hk])
      simp only [entOk, Bool.and_eq_true, inB_t] at this
      simp only [lastC]; omega
  have wl : IntKind.i64.wrap (lastC g.ents i + 1) = lastC g.ents i + 1 := wrap_id (by omega) (by omega)
  conv => whnf
  refine ⟨fun hlt => ?_, fun hge => ?_⟩ <;> conv => whnf
  · have hlt := lt_map hlt
    refine (entsAt hlt).elim fun e he => ?_
    have hprev : ∀ (j : Nat) p, j + 1 = i → g.ents[j]? = some p → p.client = lastC g.ents i := fun j p hj hp => by
      subst hj; simp [lastC, entAt, hp]
    have bad : ¬ (inB e.client (lastC g.ents i + 1) 4 = true ∧ boardB e.x e.y = true ∧ inB e.life 0 3 = true ∧ inB e.gold 0 20 = true) → okG g = false := fun hb => okG_f fun hok => hb ((entOk_split hlc.1).2 ⟨hok.ent i e he, by
      cases i with
      | zero => have := hok.ent 0 e he; simp only [entOk, Bool.and_eq_true, inB_t] at this; simp only [lastC]; omega
      | succ k =>
        have hk : k < g.ents.length := by omega
        have := hok.ord k (entAt g.ents k) e (by simp [entAt, hk]) he
        simpa [lastC] using this⟩)
    refine ⟨by omega, encEnt e, row_map he, ?_⟩
    conv => whnf
    refine call_bool (in_ok _ _ _) (fun h1 => ?_) (fun h1 => ?_) <;> conv => whnf
    · rw [wl] at h1
      refine call_bool (board_ok _ _) (fun h2 => ?_) (fun h2 => ?_) <;> conv => whnf
      · refine call_bool (in_ok _ _ _) (fun h3 => ?_) (fun h3 => ?_) <;> conv => whnf
        · refine call_bool (in_ok _ _ _) (fun h4 => ?_) (fun h4 => ?_) <;> conv => whnf
          · have hok := (entOk_split hlc.1).1 ⟨h1, h2, h3, h4⟩
            have hs : vi (IntKind.i64.wrap (((g.ents.map Ent.gold).take i).sum + e.gold)) = vi ((g.ents.map Ent.gold).take (i + 1)).sum := by
              have hg := hgi e hok.1
              rw [wrap_id (by omega) (by omega), sum_succ (n := e.gold) (by simp [he])]
            have hcl : vi e.client = vi (lastC g.ents (i + 1)) := by simp [lastC, entAt, he]
            refine up_next hlt ⟨fun j x hj hx => ?_, fun j p x hj hp hx => ?_⟩ ⟨weakSl_cons rfl rfl (weakSl_cons hcl rfl (weakSl_cons hs rfl (weakSl_cons rfl rfl (weakSl_cons rfl rfl (weakSl_cons (wrap_succ (by omega)) rfl weakSl_nil))))), weakHp_cons rfl rfl weakHp_nil, rfl⟩
            · by_cases hji : j = i
              · subst hji; rw [he] at hx; injection hx with hx; subst hx; exact hok.1
              · exact hP1 j x (by omega) hx
            · by_cases hji : j + 1 = i
              · have := hprev j p hji hp
                subst hji
                rw [he] at hx; injection hx with hx; subst hx
                rw [this]; exact hok.2
              · exact hP2 j p x (by omega) hp hx
          · exact congrArg vb (bad fun hb => by rw [hb.2.2.2] at h4; simp at h4).symm
        · exact congrArg vb (bad fun hb => by rw [hb.2.2.1] at h3; simp at h3).symm
      · exact congrArg vb (bad fun hb => by rw [hb.2.1] at h2; simp at h2).symm
    · rw [wl] at h1; exact congrArg vb (bad fun hb => by rw [hb.1] at h1; simp at h1).symm
  have hin := ge_map hge hi
  subst hin
  have hall : (g.ents.map Ent.gold).take g.ents.length = g.ents.map Ent.gold := List.take_of_length_le (by simp)
  rw [hall] at hr
  intro hlen2
  have hlen2 := le_map hlen2
  let P2 : Nat → Prop := fun i => ∀ (j : Nat) n, j < i → g.floor[j]? = some n → inB n 0 20 = true
  let I2 : Nat → SL := fun i => ⟨[(1, .ref 1 0 0 0), (4, vi ((g.ents.map Ent.gold).sum + (g.floor.take i).sum)), (50, .d (dInts b g.floor)), (51, vi (g.floor.map encI).length), (52, vi i)], [(1, .box [.d (dEnts a g.ents), .d (dInts b g.floor), .d (dInts c g.last)])]⟩
  refine loop_up g.floor.length P2 I2 (by omega) ?_ ?_
  · refine ⟨?_, ?_, rfl⟩ <;> repeat' (first | exact weakSl_nil | exact weakHp_nil | refine weakSl_cons ?_ rfl ?_ | refine weakHp_cons ?_ rfl ?_)
    · rfl
    · exact congrArg vi (by rw [hall]; simp)
    · rfl
    · rfl
    · rfl
    · rfl
  intro i hi hP
  have hr2 : 0 ≤ (g.floor.take i).sum ∧ (g.floor.take i).sum ≤ 20 * (g.floor.take i).length := sum_range (by omega) fun j n hj => by
    rw [List.getElem?_take] at hj
    split at hj
    · exact inB_t.1 (hP j n (by assumption) hj)
    · simp at hj
  have hl2 : (g.floor.take i).length = i := by simp; omega
  rw [hl2] at hr2
  conv => whnf
  refine ⟨fun hlt => ?_, fun hge => ?_⟩ <;> conv => whnf
  · have hlt := lt_map hlt
    refine (entsAt hlt).elim fun e he => ?_
    refine ⟨by omega, encI e, row_map he, ?_⟩
    conv => whnf
    refine call_bool (in_ok _ _ _) (fun h => ?_) (fun h => ?_) <;> conv => whnf
    · have hs : vi (IntKind.i64.wrap ((g.ents.map Ent.gold).sum + (g.floor.take i).sum + e)) = vi ((g.ents.map Ent.gold).sum + (g.floor.take (i + 1)).sum) := by
        have hg := inB_t.1 h
        rw [wrap_id (by omega) (by omega), sum_succ he, Int.add_assoc]
      exact up_next hlt (fun j x hj hx => by
        by_cases hji : j = i
        · subst hji; rw [he] at hx; injection hx with hx; subst hx; exact h
        · exact hP j x (by omega) hx) ⟨weakSl_cons rfl rfl (weakSl_cons hs rfl (weakSl_cons rfl rfl (weakSl_cons rfl rfl (weakSl_cons (wrap_succ (by omega)) rfl weakSl_nil)))), weakHp_cons rfl rfl weakHp_nil, rfl⟩
    · exact congrArg vb (okG_f fun hok => by simp [hok.floor i e he] at h).symm
  have hin := ge_map hge hi
  subst hin
  intro _
  conv => whnf
  refine ⟨fun h1 => ?_, fun h1 => ?_⟩ <;> conv => whnf
  · intro _
    conv => whnf
    refine ⟨fun h2 => ?_, fun h2 => ?_⟩ <;> conv => whnf
    · refine ⟨fun h3 => ?_, fun h3 => ?_⟩ <;> conv => whnf
      · refine call_bool (contains_ok c g.last) (fun h4 => ?_) (fun h4 => ?_) <;> conv => whnf
        · obtain ⟨n, hn, hb⟩ := badB_t.1 h4
          obtain ⟨j, hj⟩ := List.mem_iff_getElem?.1 hn
          exact congrArg vb (okG_f fun hok => by simp [hok.last j n hj] at hb).symm
        · rw [List.take_length] at h3
          exact congrArg vb (okG_t ⟨fun i e he => hP1 i e (List.getElem?_eq_some_iff.1 he).1 he, fun i p e hp he => hP2 i p e (List.getElem?_eq_some_iff.1 he).1 hp he,
            fun i n hn => hP i n (List.getElem?_eq_some_iff.1 hn).1 hn, fun i n hn => by
              cases hb : inB n 0 30 with
              | true => rfl
              | false => rw [badB_t.2 ⟨n, List.mem_of_getElem? hn, hb⟩] at h4; simp at h4, by simp at h1; omega, by simp at h2; omega, h3⟩).symm
      · rw [List.take_length] at h3; exact congrArg vb (okG_f fun hok => h3 hok.sum).symm
    · exact congrArg vb (okG_f fun hok => h2 (by simp [hok.nlast])).symm
  · exact congrArg vb (okG_f fun hok => h1 (by simp [hok.nfloor])).symm
end Go.Proofs.Ytnnmkenloijkcaa
