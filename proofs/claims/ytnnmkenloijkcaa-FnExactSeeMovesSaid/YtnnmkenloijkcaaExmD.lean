/- Parts of the proof, in order: the engine, the contracts of the functions, the laws. -/
import Derived.Test.YtnnmkenloijkcaaExmC
/- What the reference says of asks and of gold; what is drawn for the law of gold. -/
set_option linter.unusedVariables false
set_option linter.unusedSimpArgs false
set_option maxRecDepth 10000
namespace Go.Proofs.Ytnnmkenloijkcaa
open Go Eng

def okR (r : Req) : Bool := inB r.client 1 4 && (inB r.num 1 30 &&
  (if r.op = 1 ∨ r.op = 3 then decide (r.x = 0) && decide (r.y = 0)
   else if r.op = 2 then inB r.x (-1) 1 && inB r.y (-1) 1
   else if r.op = 4 then inB r.x 1 4 && decide (r.y = 0)
   else if r.op = 5 then inB r.x 1 4 && inB r.y 1 9
   else false))
theorem l1Ok_ok (r : Req) : ACalls Try.prog G0 46 [vReq r] (· = vb (okR r)) := by
  refine spec_intro tabOk Try.func46 (by kernel_rfl) rfl ?_
  conv => whnf
  refine call_bool (l1In_ok _ _ _) (fun h1 => ?_) (fun h1 => ?_) <;> conv => whnf
  · refine call_bool (l1In_ok _ _ _) (fun h2 => ?_) (fun h2 => ?_) <;> conv => whnf
    · have base : ∀ b : Bool, (if r.op = 1 ∨ r.op = 3 then decide (r.x = 0) && decide (r.y = 0)
          else if r.op = 2 then inB r.x (-1) 1 && inB r.y (-1) 1
          else if r.op = 4 then inB r.x 1 4 && decide (r.y = 0)
          else if r.op = 5 then inB r.x 1 4 && inB r.y 1 9
          else false) = b → okR r = b := fun b hb => by unfold okR; rw [h1, h2, hb]; rfl
      have t13 : (r.op = 1 ∨ r.op = 3) → ∀ {v : V} {b : Bool}, v = vb b → (decide (r.x = 0) && decide (r.y = 0)) = b → v = vb (okR r) := fun ho v b hv hb => by rw [hv, base b (by rw [if_pos ho]; exact hb)]
      refine ⟨fun o1 => ?_, fun o1 => ?_⟩ <;> conv => whnf
      · refine ⟨fun hx => ?_, fun hx => ?_⟩ <;> conv => whnf
        · refine ⟨fun hy => ?_, fun hy => ?_⟩ <;> conv => whnf
          · exact t13 (.inl o1) rfl (by simp [hx, hy])
          · exact t13 (.inl o1) rfl (by simp [hx, hy])
        · exact t13 (.inl o1) rfl (by simp [hx])
      refine ⟨fun o3 => ?_, fun o3 => ?_⟩ <;> conv => whnf
      · refine ⟨fun hx => ?_, fun hx => ?_⟩ <;> conv => whnf
        · refine ⟨fun hy => ?_, fun hy => ?_⟩ <;> conv => whnf
          · exact t13 (.inr o3) rfl (by simp [hx, hy])
          · exact t13 (.inr o3) rfl (by simp [hx, hy])
        · exact t13 (.inr o3) rfl (by simp [hx])
      have n13 : ¬ (r.op = 1 ∨ r.op = 3) := by omega
      refine ⟨fun o2 => ?_, fun o2 => ?_⟩ <;> conv => whnf
      · refine call_bool (l1In_ok _ _ _) (fun hx => ?_) (fun hx => ?_) <;> conv => whnf
        · refine call_bool (l1In_ok _ _ _) (fun hy => ?_) (fun hy => ?_) <;> conv => whnf
          · exact congrArg vb (base true (by rw [if_neg n13, if_pos o2, hx, hy]; rfl)).symm
          · exact congrArg vb (base false (by rw [if_neg n13, if_pos o2, hx, hy]; rfl)).symm
        · exact congrArg vb (base false (by rw [if_neg n13, if_pos o2, hx]; rfl)).symm
      refine ⟨fun o4 => ?_, fun o4 => ?_⟩ <;> conv => whnf
      · refine call_bool (l1In_ok _ _ _) (fun hx => ?_) (fun hx => ?_) <;> conv => whnf
        · refine ⟨fun hy => ?_, fun hy => ?_⟩ <;> conv => whnf
          · exact congrArg vb (base true (by rw [if_neg n13, if_neg o2, if_pos o4, hx]; simp [hy])).symm
          · exact congrArg vb (base false (by rw [if_neg n13, if_neg o2, if_pos o4, hx]; simp [hy])).symm
        · exact congrArg vb (base false (by rw [if_neg n13, if_neg o2, if_pos o4, hx]; rfl)).symm
      refine ⟨fun o5 => ?_, fun o5 => ?_⟩ <;> conv => whnf
      · refine call_bool (l1In_ok _ _ _) (fun hx => ?_) (fun hx => ?_) <;> conv => whnf
        · refine call_bool (l1In_ok _ _ _) (fun hy => ?_) (fun hy => ?_) <;> conv => whnf
          · exact congrArg vb (base true (by rw [if_neg n13, if_neg o2, if_neg o4, if_pos o5, hx, hy]; rfl)).symm
          · exact congrArg vb (base false (by rw [if_neg n13, if_neg o2, if_neg o4, if_pos o5, hx, hy]; rfl)).symm
        · exact congrArg vb (base false (by rw [if_neg n13, if_neg o2, if_neg o4, if_pos o5, hx]; rfl)).symm
      exact congrArg vb (base false (by rw [if_neg n13, if_neg o2, if_neg o4, if_neg o5])).symm
    · exact congrArg vb (show okR r = false by unfold okR; rw [h1, h2]; rfl).symm
  · exact congrArg vb (show okR r = false by unfold okR; rw [h1]; rfl).symm

noncomputable def goldV (g : Game) : V := if okG g = true then .tup [vi (g.ents.map Ent.gold).sum, vi g.floor.sum] else .tup [vi (-1), vi (-1)]
theorem goldS_ok (a b c : Bool) (g : Game) : ACalls Try.prog G0 14 [vGame a b c g] (· = goldV g) := by
  refine spec_intro tabOk Try.func14 (by kernel_rfl) rfl ?_
  conv => whnf
  refine call_bool (l2Ok_ok a b c g) (fun hok => ?_) (fun hok => ?_) <;> conv => whnf
  · have hg := ok_good (of_okG hok)
    have hle := good_len hg
    have hnf := hg.nfloor
    have hr : ∀ i, i ≤ g.ents.length → 0 ≤ ((g.ents.map Ent.gold).take i).sum ∧ ((g.ents.map Ent.gold).take i).sum ≤ 20 * ((g.ents.map Ent.gold).take i).length := fun i hi => sum_range (by omega) fun j n hj => by
      have hm := List.mem_of_mem_take (List.mem_of_getElem? hj)
      obtain ⟨e, he, rfl⟩ := List.mem_map.1 hm
      have := hg.ent e he
      have := good_gold hg e he
      omega
    have hr2 : ∀ i, i ≤ g.floor.length → 0 ≤ (g.floor.take i).sum ∧ (g.floor.take i).sum ≤ 20 * (g.floor.take i).length := fun i hi => sum_range (by omega) fun j n hj => by
      have hm := List.mem_of_mem_take (List.mem_of_getElem? hj)
      have := hg.floor n hm
      have := good_floor hg n hm
      omega
    let P1 : Nat → Prop := fun i => True
    let I1 : Nat → SL := fun i => ⟨[(1, .ref 1 0 0 0), (4, vi ((g.ents.map Ent.gold).take i).sum), (5, vi 0), (6, vi i)], [(1, .box [.d (dEnts a g.ents), .d (dInts b g.floor), .d (dInts c g.last)])]⟩
    refine loop_up g.ents.length P1 I1 trivial ?_ ?_
    · refine ⟨?_, ?_, rfl⟩ <;> repeat' (first | exact weakSl_nil | exact weakHp_nil | refine weakSl_cons ?_ rfl ?_ | refine weakHp_cons ?_ rfl ?_)
      all_goals rfl
    intro i hi _
    have hri := hr i hi
    have hli : ((g.ents.map Ent.gold).take i).length = i := by simp; omega
    conv => whnf
    intro hlen
    refine ⟨fun hlt => ?_, fun hge => ?_⟩ <;> conv => whnf
    · have hlt := lt_map hlt
      refine (entsAt hlt).elim fun e he => ?_
      refine ⟨by omega, encEnt e, row_map he, ?_⟩
      conv => whnf
      have hm := List.mem_of_getElem? he
      have h1 := hg.ent e hm
      have h2 := good_gold hg e hm
      have hs : vi (IntKind.i64.wrap (((g.ents.map Ent.gold).take i).sum + e.gold)) = vi ((g.ents.map Ent.gold).take (i + 1)).sum := by
        rw [wrap_id (by omega) (by omega), sum_succ (n := e.gold) (by simp [he])]
      exact up_next hlt trivial ⟨weakSl_cons rfl rfl (weakSl_cons hs rfl (weakSl_cons rfl rfl (weakSl_cons (wrap_succ (by omega)) rfl weakSl_nil))), weakHp_cons rfl rfl weakHp_nil, rfl⟩
    have hin := ge_map hge hi
    let P2 : Nat → Prop := fun i => True
    let I2 : Nat → SL := fun k => ⟨[(1, .ref 1 0 0 0), (4, vi (g.ents.map Ent.gold).sum), (5, vi (g.floor.take k).sum), (7, vi k)], [(1, .box [.d (dEnts a g.ents), .d (dInts b g.floor), .d (dInts c g.last)])]⟩
    have hall : (g.ents.map Ent.gold).take i = g.ents.map Ent.gold := List.take_of_length_le (by simp; omega)
    refine loop_up g.floor.length P2 I2 trivial ?_ ?_
    · refine ⟨?_, ?_, rfl⟩ <;> repeat' (first | exact weakSl_nil | exact weakHp_nil | refine weakSl_cons ?_ rfl ?_ | refine weakHp_cons ?_ rfl ?_)
      · rfl
      · exact congrArg (fun z : List Int => vi z.sum) hall
      · rfl
      · rfl
      · rfl
    intro k hk _
    have hrk := hr2 k hk
    have hlk : (g.floor.take k).length = k := by simp; omega
    conv => whnf
    intro _
    refine ⟨fun hlt => ?_, fun hge => ?_⟩ <;> conv => whnf
    · have hlt := lt_map hlt
      refine (entsAt hlt).elim fun n hn => ?_
      refine ⟨by omega, encI n, row_map hn, ?_⟩
      conv => whnf
      have hm := List.mem_of_getElem? hn
      have h1 := hg.floor n hm
      have h2 := good_floor hg n hm
      have hs : vi (IntKind.i64.wrap ((g.floor.take k).sum + n)) = vi (g.floor.take (k + 1)).sum := by
        rw [wrap_id (by omega) (by omega), sum_succ hn]
      exact up_next hlt trivial ⟨weakSl_cons rfl rfl (weakSl_cons rfl rfl (weakSl_cons hs rfl (weakSl_cons (wrap_succ (by omega)) rfl weakSl_nil))), weakHp_cons rfl rfl weakHp_nil, rfl⟩
    have hkn := ge_map hge hk
    refine (?_ : V.tup [vi (g.ents.map Ent.gold).sum, vi (g.floor.take k).sum] = _)
    rw [goldV, if_pos hok, hkn, List.take_length]
  · refine (?_ : V.tup [vi (-1), vi (-1)] = _)
    rw [goldV, if_neg (by rw [hok]; simp)]

theorem anyReq_ok (full : Bool) (bs : List Int) (hb : Bytes bs) (p : Int) (h0 : 0 ≤ p) (h1 : p ≤ 1099511620000) : HCalls Try.prog G0 44 (hpOf (Rd 1000 full bs p)) [.ref 1000 0 0 0]
    (fun r l => ∃ q p', r = vReq q ∧ l = Rd 1000 full bs p' ∧ (p ≤ p' ∧ p' ≤ p + 20)) := by
  refine hspec tabOk Try.func44 (by kernel_rfl) false [] [32, 45, 74] rfl ?_
  conv => whnf
  refine req_use hb h0 (by omega) rfl (fun q p1 hp1 hq => ⟨⟨trivial, trivial⟩, ?_⟩)
  conv => whnf
  refine hcall_box (pick_ok full bs hb _ _ (by omega) (by omega) 1000) rfl rfl rfl ⟨⟨trivial, trivial⟩, ?_⟩
  conv => whnf
  have fin : ∀ (s : St) (q : Req) (v : V) (p' : Int), (p ≤ p' ∧ p' ≤ p + 20) → v = vReq q → s.hp 1000 = .box (rdC full bs p') →
      ∃ l, HRest s [1000] l ∧ ∃ q p', v = vReq q ∧ l = Rd 1000 full bs p' ∧ (p ≤ p' ∧ p' ≤ p + 20) := fun s q v p' hp hv hs =>
    ⟨Rd 1000 full bs p', ⟨weakHp_cons hs rfl weakHp_nil, rfl, rfl⟩, q, p', hv, rfl, hp⟩
  refine ⟨fun hc => ?_, fun hc => ?_⟩ <;> conv => whnf
  · refine fin _ Req0 _ (p1 + 1) (by omega) ?_ ?_ <;> rfl
  refine ⟨fun hc => ?_, fun hc => ?_⟩ <;> conv => whnf
  · refine hcall_box (one_ok full true bs hb (p1 + 1) (by omega) (by omega) [0, 5, 4] (by simp) 1000) rfl rfl rfl ⟨⟨trivial, trivial⟩, ?_⟩
    conv => whnf
    refine fin _ ⟨oneF bs (p1 + 1) [0, 5, 4], q.num, q.op, q.x, q.y⟩ _ (p1 + 1 + 1) (by omega) ?_ ?_ <;> rfl
  refine ⟨fun hc => ?_, fun hc => ?_⟩ <;> conv => whnf
  · refine hcall_box (one_ok full true bs hb (p1 + 1) (by omega) (by omega) [0, 31, 30] (by simp) 1000) rfl rfl rfl ⟨⟨trivial, trivial⟩, ?_⟩
    conv => whnf
    refine fin _ ⟨q.client, oneF bs (p1 + 1) [0, 31, 30], q.op, q.x, q.y⟩ _ (p1 + 1 + 1) (by omega) ?_ ?_ <;> rfl
  refine ⟨fun hc => ?_, fun hc => ?_⟩ <;> conv => whnf
  · refine hcall_box (one_ok full true bs hb (p1 + 1) (by omega) (by omega) [0, 6] (by simp) 1000) rfl rfl rfl ⟨⟨trivial, trivial⟩, ?_⟩
    conv => whnf
    refine fin _ ⟨q.client, q.num, oneF bs (p1 + 1) [0, 6], q.x, q.y⟩ _ (p1 + 1 + 1) (by omega) ?_ ?_ <;> rfl
  refine ⟨fun hc => ?_, fun hc => ?_⟩ <;> conv => whnf
  · refine hcall_box (one_ok full true bs hb (p1 + 1) (by omega) (by omega) [-2, 2, 5] (by simp) 1000) rfl rfl rfl ⟨⟨trivial, trivial⟩, ?_⟩
    conv => whnf
    refine fin _ ⟨q.client, q.num, q.op, oneF bs (p1 + 1) [-2, 2, 5], q.y⟩ _ (p1 + 1 + 1) (by omega) ?_ ?_ <;> rfl
  · refine fin _ q _ (p1 + 1) (by omega) ?_ ?_ <;> rfl
theorem anyReq_use {full : Bool} {bs : List Int} (hb : Bytes bs) {p : Int} (h0 : 0 ≤ p) (h1 : p ≤ 1099511620000) {s : St} (hs : s.hp 1000 = .box (rdC full bs p)) {K : HP → V → HP → Prop}
    (k : ∀ q p', (p ≤ p' ∧ p' ≤ p + 20) → K (Rd 1000 full bs p) (vReq q) (Rd 1000 full bs p')) :
    ∃ hin φ, HCalls Try.prog G0 44 (hpOf hin) [.ref 1000 0 0 0] φ ∧ weakHp s (hin.map (·.1)) hin ∧ okVs (hin.map (·.1)) [.ref 1000 0 0 0] = true ∧ ∀ r l, φ r l → K hin r l :=
  ⟨_, _, anyReq_ok full bs hb p h0 h1, ⟨hs, rfl, trivial⟩, rfl, fun r l ⟨q, p', e1, e2, h3⟩ => by subst e1; subst e2; exact k q p' h3⟩

theorem drawGold_ok (full : Bool) (bs : List Int) (hb : Bytes bs) : ACalls Try.prog G0 12 [.d (.slc full 1 (bs.map encB))] (fun r => ∃ a b c g, r = vGame a b c g) := by
  refine spec_own tabOk Try.func12 (by kernel_rfl) [] [30, 31] rfl ?_
  conv => whnf
  refine open_use hb fun f' bs' hb' => ⟨⟨rfl, trivial⟩, ?_⟩
  conv => whnf
  refine any_use hb' (by omega) (by omega) rfl fun a b c g p' hp => ⟨⟨trivial, trivial⟩, ?_⟩
  conv => whnf
  exact ⟨a, b, c, g, rfl⟩

theorem okR_client {r : Req} (h : okR r = true) : 1 ≤ r.client ∧ r.client ≤ 4 := by
  unfold okR at h
  simp only [Bool.and_eq_true, inB_t] at h
  exact h.1
theorem drawDo_ok (full : Bool) (bs : List Int) (hb : Bytes bs) : ACalls Try.prog G0 16 [.d (.slc full 1 (bs.map encB))] (fun r => ∃ a b c g q, r = .tup [vGame a b c g, vReq q]) := by
  refine spec_own tabOk Try.func16 (by kernel_rfl) [] [30, 31, 44, 45] rfl ?_
  conv => whnf
  refine open_use hb fun f' bs' hb' => ⟨⟨rfl, trivial⟩, ?_⟩
  conv => whnf
  refine any_use hb' (by omega) (by omega) rfl fun a b c g p' hp => ⟨⟨trivial, trivial⟩, ?_⟩
  conv => whnf
  refine anyReq_use hb' (by omega) (by omega) rfl fun q p2 hp2 => ⟨⟨trivial, trivial⟩, ?_⟩
  conv => whnf
  refine hcall_box (pick_ok f' bs' hb' _ _ (by omega) (by omega) 1000) rfl rfl rfl ⟨⟨trivial, trivial⟩, ?_⟩
  conv => whnf
  refine ⟨fun hc => ?_, fun hc => ?_⟩ <;> conv => whnf
  · refine call_bool (l1Ok_ok q) (fun hq => ?_) (fun hq => ?_) <;> conv => whnf
    · have hcl := okR_client hq
      have wc : IntKind.i64.wrap (q.client - 1) = q.client - 1 := wrap_id (by omega) (by omega)
      intro hlen
      refine ⟨fun h4 => ?_, fun h4 => ?_⟩ <;> conv => whnf
      · have h4 : g.last.length = 4 := by simp at h4; omega
        refine ⟨by rw [wc]; omega, encI (intAt g.last (q.client - 1)), by rw [wc]; exact intAt_row (l := g.last) (by omega) (by omega), ?_⟩
        conv => whnf
        refine ⟨fun h30 => ?_, fun h30 => ?_⟩ <;> conv => whnf
        · refine ⟨by rw [wc]; omega, encI (intAt g.last (q.client - 1)), by rw [wc]; exact intAt_row (l := g.last) (by omega) (by omega), ?_⟩
          conv => whnf
          exact ⟨a, b, c, g, ⟨q.client, IntKind.i64.wrap (intAt g.last (q.client - 1) + 1), q.op, q.x, q.y⟩, rfl⟩
        · exact ⟨a, b, c, g, q, rfl⟩
      · exact ⟨a, b, c, g, q, rfl⟩
    · exact ⟨a, b, c, g, q, rfl⟩
  · exact ⟨a, b, c, g, q, rfl⟩
end Go.Proofs.Ytnnmkenloijkcaa
/- What the program's check of a game computes. -/
set_option linter.unusedVariables false
set_option maxRecDepth 10000
namespace Go.Proofs.Ytnnmkenloijkcaa
open Go Eng

theorem in_ok (n lo hi : Int) : ACalls Try.prog G0 40 [vi n, vi lo, vi hi] (· = vb (inB n lo hi)) := by
  refine spec_intro tabOk Try.func40 (by kernel_rfl) rfl ?_
  conv => whnf
  refine ⟨fun h1 => ?_, fun h1 => ?_⟩ <;> conv => whnf
  · refine ⟨fun h2 => ?_, fun h2 => ?_⟩ <;> conv => whnf
    · simp [vb, inB, *]
    · simp [vb, inB, *]
  · simp [vb, inB, *]
def boardB (x y : Int) : Bool := inB x 0 3 && inB y 0 3
theorem board_ok (x y : Int) : ACalls Try.prog G0 41 [vi x, vi y] (· = vb (boardB x y)) := by
  refine spec_intro tabOk Try.func41 (by kernel_rfl) rfl ?_
  conv => whnf
  refine call_bool (in_ok _ _ _) (fun h => ?_) (fun h => ?_) <;> conv => whnf
  · refine call_bool (in_ok _ _ _) (fun h2 => ?_) (fun h2 => ?_) <;> conv => whnf
    · simp [vb, boardB, *]
    · simp [vb, boardB, *]
  · simp [vb, boardB, *]
theorem last1_ok (n : Int) : ACalls Try.prog G0 43 [vi n] (· = vb (!inB n 0 30)) := by
  refine spec_intro tabOk Try.func43 (by kernel_rfl) rfl ?_
  conv => whnf
  refine call_bool (in_ok _ _ _) (fun h => ?_) (fun h => ?_) <;> conv => whnf
  · simp [vb, *]
  · simp [vb, *]
/-- The first number that is not one of an ask. -/
theorem index_ok (f : Bool) (l : List Int) : ACalls Try.prog G0 73 [.d (dInts f l), .d (.fn 43 [])] (fun r => ∃ k, r = vi k ∧ (0 ≤ k ↔ ∃ n ∈ l, inB n 0 30 = false)) := by
  refine spec_intro tabOk Try.func73 (by kernel_rfl) rfl ?_
  conv => whnf
  intro hlen
  have hlen := le_map hlen
  let P : Nat → Prop := fun i => ∀ (j : Nat) n, j < i → l[j]? = some n → inB n 0 30 = true
  let I : Nat → SL := fun i => ⟨[(0, .d (dInts f l)), (1, .d (.fn 43 [])), (7, vi (l.map encI).length), (8, vi i)], []⟩
  refine loop_up l.length P I (by intro j n h; omega) ?_ ?_
  · refine ⟨?_, ?_, rfl⟩ <;> repeat' (first | exact weakSl_nil | exact weakHp_nil | refine weakSl_cons ?_ rfl ?_ | refine weakHp_cons ?_ rfl ?_)
    all_goals rfl
  intro i hi hP
  conv => whnf
  refine ⟨fun hlt => ?_, fun hge => ?_⟩ <;> conv => whnf
  · have hlt := lt_map hlt
    refine (entsAt hlt).elim fun n hn => ?_
    refine ⟨by omega, encI n, row_map hn, ?_⟩
    conv => whnf
    refine call_bool (last1_ok n) (fun h => ?_) (fun h => ?_) <;> conv => whnf
    · exact ⟨(i : Nat), rfl, ⟨fun _ => ⟨n, List.mem_of_getElem? hn, by simpa using h⟩, fun _ => by omega⟩⟩
    · exact up_next hlt (fun j x hj hx => by
        by_cases hji : j = i
        · subst hji; rw [hn] at hx; injection hx with hx; subst hx; simpa using h
        · exact hP j x (by omega) hx) ⟨weakSl_cons rfl rfl (weakSl_cons rfl rfl (weakSl_cons rfl rfl (weakSl_cons (wrap_succ (by omega)) rfl weakSl_nil))), weakHp_nil, rfl⟩
  have hin := ge_map hge hi
  subst hin
  refine ⟨-1, rfl, ⟨fun h => by omega, fun ⟨n, hn, h⟩ => ?_⟩⟩
  obtain ⟨j, hj⟩ := List.mem_iff_getElem?.1 hn
  rw [hP j n (List.getElem?_eq_some_iff.1 hj).1 hj] at h
  simp at h
def badB (l : List Int) : Bool := l.any fun n => !inB n 0 30
theorem badB_t {l : List Int} : badB l = true ↔ ∃ n ∈ l, inB n 0 30 = false := by simp [badB]
theorem contains_ok (f : Bool) (l : List Int) : ACalls Try.prog G0 42 [.d (dInts f l), .d (.fn 43 [])] (· = vb (badB l)) := by
  refine spec_intro tabOk Try.func42 (by kernel_rfl) rfl ?_
  conv => whnf
  refine ⟨_, index_ok f l, fun r ⟨k, hr, hk⟩ => ?_⟩
  subst hr
  conv => whnf
  refine ⟨fun h => ?_, fun h => ?_⟩ <;> conv => whnf
  · exact congrArg vb (badB_t.2 (hk.1 h)).symm
  · refine congrArg vb ?_
    cases hb : badB l with
    | false => rfl
    | true => exact absurd (hk.2 (badB_t.1 hb)) h

def lastC (l : List Ent) : Nat → Int
  | 0 => 0
  | i + 1 => (entAt l i).client
theorem entOk_split {e : Ent} {n : Int} (hn : 0 ≤ n) : (inB e.client (n + 1) 4 = true ∧ boardB e.x e.y = true ∧ inB e.life 0 3 = true ∧ inB e.gold 0 20 = true) ↔ (entOk e = true ∧ n < e.client) := by
  simp only [entOk, boardB, Bool.and_eq_true, inB_t]
  omega
theorem gameOk_ok (a b c : Bool) (g : Game) : ACalls Try.prog G0 15 [vGame a b c g] (· = vb (okG g)) := by
  refine spec_intro tabOk Try.func15 (by kernel_rfl) rfl ?_
  conv => whnf
  intro hlen
  have hlen := le_map hlen
  let P1 : Nat → Prop := fun i => (∀ (j : Nat) e, j < i → g.ents[j]? = some e → entOk e = true) ∧ (∀ (j : Nat) p e, j + 1 < i → g.ents[j]? = some p → g.ents[j + 1]? = some e → p.client < e.client)
  let I1 : Nat → SL := fun i => ⟨[(1, .ref 1 0 0 0), (3, vi (lastC g.ents i)), (4, vi ((g.ents.map Ent.gold).take i).sum), (10, .d (dEnts a g.ents)), (11, vi (g.ents.map encEnt).length), (12, vi i)], [(1, .box [.d (dEnts a g.ents), .d (dInts b g.floor), .d (dInts c g.last)])]⟩
  refine loop_up g.ents.length P1 I1 ⟨by omega, by omega⟩ ?_ ?_
  · refine ⟨?_, ?_, rfl⟩ <;> repeat' (first | exact weakSl_nil | exact weakHp_nil | refine weakSl_cons ?_ rfl ?_ | refine weakHp_cons ?_ rfl ?_)
    all_goals rfl
  rintro i hi ⟨hP1, hP2⟩
  have hgi : ∀ e, entOk e = true → 0 ≤ e.gold ∧ e.gold ≤ 20 := fun e he => by
    simp only [entOk, Bool.and_eq_true, inB_t] at he; exact he.2
  have hr : 0 ≤ ((g.ents.map Ent.gold).take i).sum ∧ ((g.ents.map Ent.gold).take i).sum ≤ 20 * ((g.ents.map Ent.gold).take i).length := sum_range (by omega) fun j n hj => by
    rw [List.getElem?_take] at hj
    split at hj
    · rw [List.getElem?_map] at hj
      cases hx : g.ents[j]? with
      | none => simp [hx] at hj
      | some x =>
        simp [hx] at hj
        subst hj
        exact hgi x (hP1 j x (by assumption) hx)
    · simp at hj
  have hl : ((g.ents.map Ent.gold).take i).length = i := by simp; omega
  rw [hl] at hr
  have hlc : 0 ≤ lastC g.ents i ∧ lastC g.ents i ≤ 4 := by
    cases i with
    | zero => simp [lastC]
    | succ k =>
      have hk : k < g.ents.length := by omega
      have := hP1 k (entAt g.ents k) (by omega) (by simp [entAt, hk])
      simp only [entOk, Bool.and_eq_true, inB_t] at this
      simp only [lastC]; omega
  have wl : IntKind.i64.wrap (lastC g.ents i + 1) = lastC g.ents i + 1 := wrap_id (by omega) (by omega)
  conv => whnf
  refine ⟨fun hlt => ?_, fun hge => ?_⟩ <;> conv => whnf
  · have hlt := lt_map hlt
    refine (entsAt hlt).elim fun e he => ?_
    have hprev : ∀ (j : Nat) p, j + 1 = i → g.ents[j]? = some p → p.client = lastC g.ents i := fun j p hj hp => by
      subst hj; simp [lastC, entAt, hp]
    have bad : ¬ (inB e.client (lastC g.ents i + 1) 4 = true ∧ boardB e.x e.y = true ∧ inB e.life 0 3 = true ∧ inB e.gold 0 20 = true) → okG g = false := fun hb => okG_f fun hok => hb ((entOk_split hlc.1).2 ⟨hok.ent i e he, by
      cases i with
      | zero => have := hok.ent 0 e he; simp only [entOk, Bool.and_eq_true, inB_t] at this; simp only [lastC]; omega
      | succ k =>
        have hk : k < g.ents.length := by omega
        have := hok.ord k (entAt g.ents k) e (by simp [entAt, hk]) he
        simpa [lastC] using this⟩)
    refine ⟨by omega, encEnt e, row_map he, ?_⟩
    conv => whnf
    refine call_bool (in_ok _ _ _) (fun h1 => ?_) (fun h1 => ?_) <;> conv => whnf
    · rw [wl] at h1
      refine call_bool (board_ok _ _) (fun h2 => ?_) (fun h2 => ?_) <;> conv => whnf
      · refine call_bool (in_ok _ _ _) (fun h3 => ?_) (fun h3 => ?_) <;> conv => whnf
        · refine call_bool (in_ok _ _ _) (fun h4 => ?_) (fun h4 => ?_) <;> conv => whnf
          · have hok := (entOk_split hlc.1).1 ⟨h1, h2, h3, h4⟩
            have hs : vi (IntKind.i64.wrap (((g.ents.map Ent.gold).take i).sum + e.gold)) = vi ((g.ents.map Ent.gold).take (i + 1)).sum := by
              have hg := hgi e hok.1
              rw [wrap_id (by omega) (by omega), sum_succ (n := e.gold) (by simp [he])]
            have hcl : vi e.client = vi (lastC g.ents (i + 1)) := by simp [lastC, entAt, he]
            refine up_next hlt ⟨fun j x hj hx => ?_, fun j p x hj hp hx => ?_⟩ ⟨weakSl_cons rfl rfl (weakSl_cons hcl rfl (weakSl_cons hs rfl (weakSl_cons rfl rfl (weakSl_cons rfl rfl (weakSl_cons (wrap_succ (by omega)) rfl weakSl_nil))))), weakHp_cons rfl rfl weakHp_nil, rfl⟩
            · by_cases hji : j = i
              · subst hji; rw [he] at hx; injection hx with hx; subst hx; exact hok.1
              · exact hP1 j x (by omega) hx
            · by_cases hji : j + 1 = i
              · have := hprev j p hji hp
                subst hji
                rw [he] at hx; injection hx with hx; subst hx
                rw [this]; exact hok.2
              · exact hP2 j p x (by omega) hp hx
          · exact congrArg vb (bad fun hb => by rw [hb.2.2.2] at h4; simp at h4).symm
        · exact congrArg vb (bad fun hb => by rw [hb.2.2.1] at h3; simp at h3).symm
      · exact congrArg vb (bad fun hb => by rw [hb.2.1] at h2; simp at h2).symm
    · rw [wl] at h1; exact congrArg vb (bad fun hb => by rw [hb.1] at h1; simp at h1).symm
  have hin := ge_map hge hi
  subst hin
  have hall : (g.ents.map Ent.gold).take g.ents.length = g.ents.map Ent.gold := List.take_of_length_le (by simp)
  rw [hall] at hr
  intro hlen2
  have hlen2 := le_map hlen2
  let P2 : Nat → Prop := fun i => ∀ (j : Nat) n, j < i → g.floor[j]? = some n → inB n 0 20 = true
  let I2 : Nat → SL := fun i => ⟨[(1, .ref 1 0 0 0), (4, vi ((g.ents.map Ent.gold).sum + (g.floor.take i).sum)), (50, .d (dInts b g.floor)), (51, vi (g.floor.map encI).length), (52, vi i)], [(1, .box [.d (dEnts a g.ents), .d (dInts b g.floor), .d (dInts c g.last)])]⟩
  refine loop_up g.floor.length P2 I2 (by omega) ?_ ?_
  · refine ⟨?_, ?_, rfl⟩ <;> repeat' (first | exact weakSl_nil | exact weakHp_nil | refine weakSl_cons ?_ rfl ?_ | refine weakHp_cons ?_ rfl ?_)
    · rfl
    · exact congrArg vi (by rw [hall]; simp)
    · rfl
    · rfl
    · rfl
    · rfl
  intro i hi hP
  have hr2 : 0 ≤ (g.floor.take i).sum ∧ (g.floor.take i).sum ≤ 20 * (g.floor.take i).length := sum_range (by omega) fun j n hj => by
    rw [List.getElem?_take] at hj
    split at hj
    · exact inB_t.1 (hP j n (by assumption) hj)
    · simp at hj
  have hl2 : (g.floor.take i).length = i := by simp; omega
  rw [hl2] at hr2
  conv => whnf
  refine ⟨fun hlt => ?_, fun hge => ?_⟩ <;> conv => whnf
  · have hlt := lt_map hlt
    refine (entsAt hlt).elim fun e he => ?_
    refine ⟨by omega, encI e, row_map he, ?_⟩
    conv => whnf
    refine call_bool (in_ok _ _ _) (fun h => ?_) (fun h => ?_) <;> conv => whnf
    · have hs : vi (IntKind.i64.wrap ((g.ents.map Ent.gold).sum + (g.floor.take i).sum + e)) = vi ((g.ents.map Ent.gold).sum + (g.floor.take (i + 1)).sum) := by
        have hg := inB_t.1 h
        rw [wrap_id (by omega) (by omega), sum_succ he, Int.add_assoc]
      exact up_next hlt (fun j x hj hx => by
        by_cases hji : j = i
        · subst hji; rw [he] at hx; injection hx with hx; subst hx; exact h
        · exact hP j x (by omega) hx) ⟨weakSl_cons rfl rfl (weakSl_cons hs rfl (weakSl_cons rfl rfl (weakSl_cons rfl rfl (weakSl_cons (wrap_succ (by omega)) rfl weakSl_nil)))), weakHp_cons rfl rfl weakHp_nil, rfl⟩
    · exact congrArg vb (okG_f fun hok => by simp [hok.floor i e he] at h).symm
  have hin := ge_map hge hi
  subst hin
  intro _
  conv => whnf
  refine ⟨fun h1 => ?_, fun h1 => ?_⟩ <;> conv => whnf
  · intro _
    conv => whnf
    refine ⟨fun h2 => ?_, fun h2 => ?_⟩ <;> conv => whnf
    · refine ⟨fun h3 => ?_, fun h3 => ?_⟩ <;> conv => whnf
      · refine call_bool (contains_ok c g.last) (fun h4 => ?_) (fun h4 => ?_) <;> conv => whnf
        · obtain ⟨n, hn, hb⟩ := badB_t.1 h4
          obtain ⟨j, hj⟩ := List.mem_iff_getElem?.1 hn
          exact congrArg vb (okG_f fun hok => by simp [hok.last j n hj] at hb).symm
        · rw [List.take_length] at h3
          exact congrArg vb (okG_t ⟨fun i e he => hP1 i e (List.getElem?_eq_some_iff.1 he).1 he, fun i p e hp he => hP2 i p e (List.getElem?_eq_some_iff.1 he).1 hp he,
            fun i n hn => hP i n (List.getElem?_eq_some_iff.1 hn).1 hn, fun i n hn => by
              cases hb : inB n 0 30 with
              | true => rfl
              | false => rw [badB_t.2 ⟨n, List.mem_of_getElem? hn, hb⟩] at h4; simp at h4, by simp at h1; omega, by simp at h2; omega, h3⟩).symm
      · rw [List.take_length] at h3; exact congrArg vb (okG_f fun hok => h3 hok.sum).symm
    · exact congrArg vb (okG_f fun hok => h2 (by simp [hok.nlast])).symm
  · exact congrArg vb (okG_f fun hok => h1 (by simp [hok.nfloor])).symm
end Go.Proofs.Ytnnmkenloijkcaa
/- What the program's own helpers compute: figures, clones, clips, what is near. -/
set_option linter.unusedVariables false
set_option maxRecDepth 10000
namespace Go.Proofs.Ytnnmkenloijkcaa
open Go Eng

theorem fig1_ok (e : Ent) (c : Int) : ACalls Try.prog G0 69 [vEnt e, .d (.ptr (encI c))] (· = vb (decide (e.client = c))) := by
  refine spec_intro tabOk Try.func69 (by kernel_rfl) rfl ?_
  conv => whnf
  refine ⟨fun h => ?_, fun h => ?_⟩ <;> conv => whnf
  · simp [vb, h]
  · simp [vb, h]
theorem find_ok (f : Bool) (l : List Ent) (c : Int) : ACalls Try.prog G0 68 [.d (dEnts f l), .d (.fn 69 [.ptr (encI c)])] (· = vi (atF l c)) := by
  refine spec_intro tabOk Try.func68 (by kernel_rfl) rfl ?_
  conv => whnf
  intro hlen
  have hlen := le_map hlen
  let P : Nat → Prop := fun i => ∀ (j : Nat) x, j < i → l[j]? = some x → x.client ≠ c
  let I : Nat → SL := fun i => ⟨[(0, .d (dEnts f l)), (1, .d (.fn 69 [.ptr (encI c)])), (7, vi (l.map encEnt).length), (8, vi i)], []⟩
  refine loop_up l.length P I (by intro j n h; omega) ?_ ?_
  · refine ⟨?_, ?_, rfl⟩ <;> repeat' (first | exact weakSl_nil | exact weakHp_nil | refine weakSl_cons ?_ rfl ?_ | refine weakHp_cons ?_ rfl ?_)
    all_goals rfl
  intro i hi hP
  conv => whnf
  refine ⟨fun hlt => ?_, fun hge => ?_⟩ <;> conv => whnf
  · have hlt := lt_map hlt
    refine (entsAt hlt).elim fun e he => ?_
    refine ⟨by omega, encEnt e, row_map he, ?_⟩
    conv => whnf
    refine call_bool (fig1_ok e c) (fun h => ?_) (fun h => ?_) <;> conv => whnf
    · exact congrArg vi (atF_some he (by simpa using h) hP).symm
    · exact up_next hlt (fun j x hj hx => by
        by_cases hji : j = i
        · subst hji; rw [he] at hx; injection hx with hx; subst hx; simpa using h
        · exact hP j x (by omega) hx) ⟨weakSl_cons rfl rfl (weakSl_cons rfl rfl (weakSl_cons rfl rfl (weakSl_cons (wrap_succ (by omega)) rfl weakSl_nil))), weakHp_nil, rfl⟩
  have hin := ge_map hge hi
  subst hin
  exact congrArg vi (atF_none fun j x hj => hP j x (List.getElem?_eq_some_iff.1 hj).1 hj).symm
theorem figure_ok (a b c : Bool) (g : Game) (cl : Int) : ACalls Try.prog G0 33 [vGame a b c g, vi cl] (· = vi (atF g.ents cl)) := by
  refine spec_intro tabOk Try.func33 (by kernel_rfl) rfl ?_
  conv => whnf
  refine call_eq (find_ok a g.ents cl) ?_
  conv => whnf
  rfl

theorem clipI_own (f : Bool) (rows : List (List D)) : HCalls Try.prog G0 70 (hpOf [(7, .arr f 1 rows)]) [.own 7] (fun r l => r = .own 8 ∧ l = [(7, .dead), (8, .arr true 1 rows)]) := by
  refine hspec tabOk Try.func70 (by kernel_rfl) true [8] [] rfl ?_
  conv => whnf
  intro _
  conv => whnf
  intro _
  conv => whnf
  refine ⟨rfl, rfl, ?_⟩
  conv => whnf
  exact ⟨[(7, .dead), (8, .arr true 1 rows)], ⟨weakHp_cons rfl rfl (weakHp_cons rfl rfl weakHp_nil), rfl, rfl⟩, rfl, rfl, rfl⟩
theorem cloneI_own0 (f : Bool) (l : List Int) (h0 : l ≠ []) (h1 : l.length ≤ 1000) : HCalls Try.prog G0 71 (hpOf []) [.d (dInts f l)] (fun r k => r = .own 7 ∧ k = [(7, .arr false 1 (l.map encI))]) := by
  refine hspec tabOk Try.func71 (by kernel_rfl) true [7] [] rfl ?_
  conv => whnf
  refine ⟨fun h => absurd (List.map_eq_nil_iff.1 h) h0, ?_⟩
  conv => whnf
  refine ⟨room (by simp; omega) rfl, room' (by simp; omega), ?_⟩
  conv => whnf
  exact ⟨[(7, .arr false 1 (l.map encI))], ⟨weakHp_cons rfl rfl weakHp_nil, rfl, rfl⟩, rfl, rfl, rfl⟩
theorem hcall_ex {P : Program} {G : Nat → V} {f : FuncId} {hin : HP} {args : List V} {φ : V → HP → Prop} (h : HCalls P G f (hpOf hin) args φ) {s : St} (hw : weakHp s (hin.map (·.1)) hin) (ha : okVs (hin.map (·.1)) args = true) {K : HP → V → HP → Prop}
    (k : ∀ r l, φ r l → K hin r l) : ∃ hin φ, HCalls P G f (hpOf hin) args φ ∧ weakHp s (hin.map (·.1)) hin ∧ okVs (hin.map (·.1)) args = true ∧ ∀ r l, φ r l → K hin r l := ⟨hin, φ, h, hw, ha, k⟩
theorem hcall_eq {P : Program} {G : Nat → V} {f : FuncId} {hin : HP} {args : List V} {R : V} {L : HP} (h : HCalls P G f (hpOf hin) args (fun r l => r = R ∧ l = L)) {s : St} (hw : weakHp s (hin.map (·.1)) hin) (ha : okVs (hin.map (·.1)) args = true) {K : HP → V → HP → Prop}
    (k : K hin R L) : ∃ hin φ, HCalls P G f (hpOf hin) args φ ∧ weakHp s (hin.map (·.1)) hin ∧ okVs (hin.map (·.1)) args = true ∧ ∀ r l, φ r l → K hin r l := ⟨hin, _, h, hw, ha, fun r l ⟨e1, e2⟩ => by subst e1; subst e2; exact k⟩
theorem cloneI_own8 (f : Bool) (l : List Int) (h0 : l ≠ []) (h1 : l.length ≤ 1000) : HCalls Try.prog G0 34 (hpOf []) [.d (dInts f l)] (fun r k => r = .own 8 ∧ k = [(8, .arr true 1 (l.map encI))]) := by
  refine hspec tabOk Try.func34 (by kernel_rfl) true [] [70, 71] rfl ?_
  conv => whnf
  refine hcall_eq (hin := []) (cloneI_own0 f l h0 h1) trivial rfl ⟨⟨rfl, trivial⟩, ?_⟩
  conv => whnf
  refine hcall_eq (hin := [(7, .arr false 1 (l.map encI))]) (clipI_own false (l.map encI)) ⟨rfl, rfl, trivial⟩ rfl ⟨⟨trivial, rfl, trivial⟩, ?_⟩
  conv => whnf
  exact ⟨[(8, .arr true 1 (l.map encI))], ⟨weakHp_cons rfl rfl weakHp_nil, rfl, rfl⟩, rfl, rfl, rfl⟩
theorem cloneI_own (f : Bool) (l : List Int) (h0 : l ≠ []) (h1 : l.length ≤ 1000) (d : Nat) : HCalls Try.prog G0 34 (hpOf []) [.d (dInts f l)] (fun r k => r = .own d ∧ k = [(d, .arr true 1 (l.map encI))]) := by
  refine HCalls.swap (hin := []) (args := [.d (dInts f l)]) (cloneI_own8 f l h0 h1) 8 d ?_
  rintro r k ⟨rfl, rfl⟩
  have : swp 8 d 8 = d := by simp [swp]
  refine ⟨?_, ?_⟩
  · simp only [V.ren, this]
  · simp only [List.map_cons, List.map_nil, renP, this, Obj.ren]
theorem clipE_ok (f : Bool) (rows : List (List D)) : ACalls Try.prog G0 36 [.d (.slc f 5 rows)] (· = .d (.slc true 5 rows)) := by
  refine spec_intro tabOk Try.func36 (by kernel_rfl) rfl ?_
  conv => whnf
  intro _
  conv => whnf
  intro _
  conv => whnf
  refine ⟨by omega, by omega, by omega, ?_⟩
  conv => whnf
  simp

def xyOk (e : Ent) : Prop := 0 ≤ e.x ∧ e.x ≤ 3 ∧ 0 ≤ e.y ∧ e.y ≤ 3
theorem nearI_ok (p q : Ent) (hx : xyOk p) (hy : xyOk q) : ACalls Try.prog G0 35 [vEnt p, vEnt q, vi 1] (· = vb (nearF p q)) := by
  unfold xyOk at hx hy
  refine spec_intro tabOk Try.func35 (by kernel_rfl) rfl ?_
  conv => whnf
  have w1 : IntKind.i64.wrap (p.x - q.x) = p.x - q.x := wrap_id (by omega) (by omega)
  have w2 : IntKind.i64.wrap (p.y - q.y) = p.y - q.y := wrap_id (by omega) (by omega)
  have w3 : IntKind.i64.wrap (0 - 1) = -1 := wrap_id (by omega) (by omega)
  refine call_bool (in_ok _ _ _) (fun h => ?_) (fun h => ?_) <;> conv => whnf
  · rw [w1, w3] at h
    refine call_bool (in_ok _ _ _) (fun h2 => ?_) (fun h2 => ?_) <;> conv => whnf
    · rw [w2, w3] at h2; simp [vb, nearF, h, h2]
    · rw [w2, w3] at h2; simp [vb, nearF, h, h2]
  · rw [w1, w3] at h; simp [vb, nearF, h]
end Go.Proofs.Ytnnmkenloijkcaa
/- What the program says of asks and of gold, and its copies. -/
set_option linter.unusedVariables false
set_option linter.unusedSimpArgs false
set_option maxRecDepth 10000
namespace Go.Proofs.Ytnnmkenloijkcaa
open Go Eng

theorem isClient_ok (n : Int) : ACalls Try.prog G0 50 [vi n] (· = vb (inB n 1 4)) := by
  refine spec_intro tabOk Try.func50 (by kernel_rfl) rfl ?_
  conv => whnf
  refine call_eq (in_ok n 1 4) ?_
  conv => whnf
  rfl
theorem reqOk_ok (r : Req) : ACalls Try.prog G0 51 [vReq r] (· = vb (okR r)) := by
  refine spec_intro tabOk Try.func51 (by kernel_rfl) rfl ?_
  conv => whnf
  refine call_bool (isClient_ok _) (fun h1 => ?_) (fun h1 => ?_) <;> conv => whnf
  · refine call_bool (in_ok _ _ _) (fun h2 => ?_) (fun h2 => ?_) <;> conv => whnf
    · have base : ∀ b : Bool, (if r.op = 1 ∨ r.op = 3 then decide (r.x = 0) && decide (r.y = 0)
          else if r.op = 2 then inB r.x (-1) 1 && inB r.y (-1) 1
          else if r.op = 4 then inB r.x 1 4 && decide (r.y = 0)
          else if r.op = 5 then inB r.x 1 4 && inB r.y 1 9
          else false) = b → okR r = b := fun b hb => by unfold okR; rw [h1, h2, hb]; rfl
      have t13 : (r.op = 1 ∨ r.op = 3) → ∀ {v : V} {b : Bool}, v = vb b → (decide (r.x = 0) && decide (r.y = 0)) = b → v = vb (okR r) := fun ho v b hv hb => by rw [hv, base b (by rw [if_pos ho]; exact hb)]
      refine ⟨fun o1 => ?_, fun o1 => ?_⟩ <;> conv => whnf
      · refine ⟨fun hx => ?_, fun hx => ?_⟩ <;> conv => whnf
        · refine ⟨fun hy => ?_, fun hy => ?_⟩ <;> conv => whnf
          · exact t13 (.inl o1) rfl (by simp [hx, hy])
          · exact t13 (.inl o1) rfl (by simp [hx, hy])
        · exact t13 (.inl o1) rfl (by simp [hx])
      refine ⟨fun o3 => ?_, fun o3 => ?_⟩ <;> conv => whnf
      · refine ⟨fun hx => ?_, fun hx => ?_⟩ <;> conv => whnf
        · refine ⟨fun hy => ?_, fun hy => ?_⟩ <;> conv => whnf
          · exact t13 (.inr o3) rfl (by simp [hx, hy])
          · exact t13 (.inr o3) rfl (by simp [hx, hy])
        · exact t13 (.inr o3) rfl (by simp [hx])
      have n13 : ¬ (r.op = 1 ∨ r.op = 3) := by omega
      refine ⟨fun o2 => ?_, fun o2 => ?_⟩ <;> conv => whnf
      · refine call_bool (in_ok _ _ _) (fun hx => ?_) (fun hx => ?_) <;> conv => whnf
        · refine call_bool (in_ok _ _ _) (fun hy => ?_) (fun hy => ?_) <;> conv => whnf
          · exact congrArg vb (base true (by rw [if_neg n13, if_pos o2, hx, hy]; rfl)).symm
          · exact congrArg vb (base false (by rw [if_neg n13, if_pos o2, hx, hy]; rfl)).symm
        · exact congrArg vb (base false (by rw [if_neg n13, if_pos o2, hx]; rfl)).symm
      refine ⟨fun o4 => ?_, fun o4 => ?_⟩ <;> conv => whnf
      · refine call_bool (isClient_ok _) (fun hx => ?_) (fun hx => ?_) <;> conv => whnf
        · refine ⟨fun hy => ?_, fun hy => ?_⟩ <;> conv => whnf
          · exact congrArg vb (base true (by rw [if_neg n13, if_neg o2, if_pos o4, hx]; simp [hy])).symm
          · exact congrArg vb (base false (by rw [if_neg n13, if_neg o2, if_pos o4, hx]; simp [hy])).symm
        · exact congrArg vb (base false (by rw [if_neg n13, if_neg o2, if_pos o4, hx]; rfl)).symm
      refine ⟨fun o5 => ?_, fun o5 => ?_⟩ <;> conv => whnf
      · refine call_bool (isClient_ok _) (fun hx => ?_) (fun hx => ?_) <;> conv => whnf
        · refine call_bool (in_ok _ _ _) (fun hy => ?_) (fun hy => ?_) <;> conv => whnf
          · exact congrArg vb (base true (by rw [if_neg n13, if_neg o2, if_neg o4, if_pos o5, hx, hy]; rfl)).symm
          · exact congrArg vb (base false (by rw [if_neg n13, if_neg o2, if_neg o4, if_pos o5, hx, hy]; rfl)).symm
        · exact congrArg vb (base false (by rw [if_neg n13, if_neg o2, if_neg o4, if_pos o5, hx]; rfl)).symm
      exact congrArg vb (base false (by rw [if_neg n13, if_neg o2, if_neg o4, if_neg o5])).symm
    · exact congrArg vb (show okR r = false by unfold okR; rw [h1, h2]; rfl).symm
  · exact congrArg vb (show okR r = false by unfold okR; rw [h1]; rfl).symm

theorem orNull_ok (r : Req) : ACalls Try.prog G0 47 [vReq r] (· = vb (reqNone r || okR r)) := by
  refine spec_intro tabOk Try.func47 (by kernel_rfl) rfl ?_
  conv => whnf
  have e : ∀ {b : Bool}, b = ((r.client == 0) && ((r.num == 0) && ((r.op == 0) && ((r.x == 0) && (r.y == 0))))) → reqNone r = b := fun {b} hb => by
    rw [hb, Bool.eq_iff_iff]; simp [reqNone]
  refine ⟨fun h => ?_, fun h => ?_⟩ <;> conv => whnf
  · have h : ((r.client == 0) && ((r.num == 0) && ((r.op == 0) && ((r.x == 0) && (r.y == 0))))) = true := h
    rw [e h.symm]; rfl
  · have h : ((r.client == 0) && ((r.num == 0) && ((r.op == 0) && ((r.x == 0) && (r.y == 0))))) = false := h
    refine call_eq (reqOk_ok r) ?_
    conv => whnf
    rw [e h.symm]; rfl

theorem goldI_ok (a b c : Bool) (g : Game) : ACalls Try.prog G0 13 [vGame a b c g] (· = goldV g) := by
  refine spec_intro tabOk Try.func13 (by kernel_rfl) rfl ?_
  conv => whnf
  refine call_bool (gameOk_ok a b c g) (fun hok => ?_) (fun hok => ?_) <;> conv => whnf
  · have hg := ok_good (of_okG hok)
    have hle := good_len hg
    have hr : ∀ i, i ≤ g.ents.length → 0 ≤ ((g.ents.map Ent.gold).take i).sum ∧ ((g.ents.map Ent.gold).take i).sum ≤ 20 * ((g.ents.map Ent.gold).take i).length := fun i hi => sum_range (by omega) fun j n hj => by
      have hm := List.mem_of_mem_take (List.mem_of_getElem? hj)
      obtain ⟨e, he, rfl⟩ := List.mem_map.1 hm
      have := hg.ent e he
      have := good_gold hg e he
      omega
    intro hlen
    let P1 : Nat → Prop := fun i => True
    let I1 : Nat → SL := fun i => ⟨[(1, .ref 1 0 0 0), (4, vi ((g.ents.map Ent.gold).take i).sum), (11, .d (dEnts a g.ents)), (12, vi (g.ents.map encEnt).length), (13, vi i)], [(1, .box [.d (dEnts a g.ents), .d (dInts b g.floor), .d (dInts c g.last)])]⟩
    refine loop_up g.ents.length P1 I1 trivial ?_ ?_
    · refine ⟨?_, ?_, rfl⟩ <;> repeat' (first | exact weakSl_nil | exact weakHp_nil | refine weakSl_cons ?_ rfl ?_ | refine weakHp_cons ?_ rfl ?_)
      all_goals rfl
    intro i hi _
    have hri := hr i hi
    have hli : ((g.ents.map Ent.gold).take i).length = i := by simp; omega
    conv => whnf
    refine ⟨fun hlt => ?_, fun hge => ?_⟩ <;> conv => whnf
    · have hlt := lt_map hlt
      refine (entsAt hlt).elim fun e he => ?_
      refine ⟨by omega, encEnt e, row_map he, ?_⟩
      conv => whnf
      have hm := List.mem_of_getElem? he
      have h1 := hg.ent e hm
      have h2 := good_gold hg e hm
      have hs : vi (IntKind.i64.wrap (((g.ents.map Ent.gold).take i).sum + e.gold)) = vi ((g.ents.map Ent.gold).take (i + 1)).sum := by
        rw [wrap_id (by omega) (by omega), sum_succ (n := e.gold) (by simp [he])]
      exact up_next hlt trivial ⟨weakSl_cons rfl rfl (weakSl_cons hs rfl (weakSl_cons rfl rfl (weakSl_cons rfl rfl (weakSl_cons (wrap_succ (by omega)) rfl weakSl_nil)))), weakHp_cons rfl rfl weakHp_nil, rfl⟩
    have hin := ge_map hge hi
    have hall : (g.ents.map Ent.gold).take i = g.ents.map Ent.gold := List.take_of_length_le (by simp; omega)
    refine (?_ : V.tup [vi ((g.ents.map Ent.gold).take i).sum, vi (IntKind.i64.wrap (20 - ((g.ents.map Ent.gold).take i).sum))] = _)
    rw [wrap_id (by omega) (by omega), hall, goldV, if_pos hok]
    have hs := hg.sum
    have : 20 - (g.ents.map Ent.gold).sum = g.floor.sum := by omega
    rw [this]
  · refine (?_ : V.tup [vi (-1), vi (-1)] = _)
    rw [goldV, if_neg (by rw [hok]; simp)]
end Go.Proofs.Ytnnmkenloijkcaa
/- The program's copies of a game, and a square's place. -/
set_option linter.unusedVariables false
set_option linter.unusedSimpArgs false
set_option maxRecDepth 10000
namespace Go.Proofs.Ytnnmkenloijkcaa
open Go Eng

/-- A slice of nothing may be taken for an array of nothing. -/
theorem adopt {P : Program} {G : Nat → V} {f : FuncId} {args : List V} {φ ψ : V → HP → Prop} (h : HCalls P G f (hpOf []) args φ) (d : Nat)
    (k : ∀ r l, φ r l → ψ r l ∨ ∃ e, r = .d (.slc true e []) ∧ l = [] ∧ ψ (.own d) [(d, .arr true e [])]) : HCalls P G f (hpOf []) args ψ := by
  obtain ⟨hf, h⟩ := h
  refine ⟨hf, fun w g us h1 h2 h3 h4 h5 => (h w g us h1 h2 h3 h4 h5).mono fun e w' hout => ?_⟩
  obtain ⟨u, r, l, g', q1, q2, q3, q4, q5, q6, q7, q8, q9, q10, q11, q12, q13⟩ := hout.out
  rcases k r l q2 with hψ | ⟨ee, rfl, rfl, hψ⟩
  · exact ⟨u, r, l, g', q1, hψ, q3, q4, q5, q6, q7, q8, q9, q10, q11, q12, q13⟩
  · simp only [RepV] at q4
    have hu : ∃ A, u = .slice A 0 0 := by
      cases q4 with
      | slc _ _ _ A c vals hc hn hf hrow hA hcell hrep => have := hf rfl; simp at this; subst this; exact ⟨A, rfl⟩
    obtain ⟨A, rfl⟩ := hu
    have hp : ∀ i, hpOf [(d, Eng.Obj.arr true ee [])] i = if i = d then .arr true ee [] else .none := fun i => by
      unfold hpOf Eng.look
      by_cases hi : i = d
      · subst hi; simp
      · have : Nat.beq i d = false := by cases hb : Nat.beq i d with | true => exact absurd (Nat.eq_of_beq_eq_true hb) hi | false => rfl
        simp [this, hi, Eng.look]
    have hlive : ∀ i, (hpOf [(d, Eng.Obj.arr true ee [])] i).live = true → i = d := fun i hi => by
      rw [hp] at hi
      split at hi
      · assumption
      · simp [Eng.Obj.live] at hi
    refine ⟨.slice A 0 0, .own d, [(d, .arr true ee [])], ⟨g'.imm, upd g'.blk d none, upd g'.val d (.slice A 0 0)⟩, q1, hψ, by simp [Eng.Obj.used], ?_, fun id => ?_, fun i j b hij hi hj => ?_, q7, q8, q9, ?_, q11, fun id b hi hb => ?_, q13⟩
    · simp only [RepV]
      exact ⟨by rw [hp]; simp [Eng.Obj.used], by simp [upd_same], by rw [hp]; simp, A, 0, 0, rfl⟩
    · rw [hp]
      split
      · rename_i hid
        subst hid
        exact ⟨A, 0, by simp [upd_same], by simp, by simp, by simp, by simp, by simp, by simp [upd_same]⟩
      · trivial
    · have := hlive i hi
      have := hlive j hj
      omega
    · refine ⟨q10.ext, fun id hu => (by cases hu), fun id hu => (by cases hu), fun id hu => (by cases hu), fun id hu => (by cases hu), fun id e n hu => (by cases hu)⟩
    · have := hlive id hi
      subst this
      simp [upd_same] at hb

theorem cloneE_pure0 (f : Bool) (rows : List (List D)) (h1 : rows.length ≤ 1000) : ACalls Try.prog G0 87 [.d (.slc f 5 rows)] (fun r => ∃ f', r = .d (.slc f' 5 rows)) := by
  refine spec_intro tabOk Try.func87 (by kernel_rfl) rfl ?_
  conv => whnf
  refine ⟨fun h => ?_, ?_⟩ <;> conv => whnf
  · exact ⟨true, by rw [h]⟩
  · refine ⟨room (by simp; omega) rfl, room' (by simp; omega), ?_⟩
    conv => whnf
    exact ⟨false, rfl⟩
theorem clone0_use {f : Bool} {rows : List (List D)} (h1 : rows.length ≤ 1000) {ψ : V → Prop} (k : ∀ f', ψ (.d (.slc f' 5 rows))) : ∃ φ, ACalls Try.prog G0 87 [.d (.slc f 5 rows)] φ ∧ ∀ r, φ r → ψ r :=
  ⟨_, cloneE_pure0 f rows h1, fun r ⟨f', e⟩ => by subst e; exact k f'⟩
theorem cloneE_pure (f : Bool) (rows : List (List D)) (h1 : rows.length ≤ 1000) : ACalls Try.prog G0 75 [.d (.slc f 5 rows)] (· = .d (.slc true 5 rows)) := by
  refine spec_intro tabOk Try.func75 (by kernel_rfl) rfl ?_
  conv => whnf
  refine clone0_use h1 fun f' => ?_
  conv => whnf
  refine call_eq (clipE_ok f' rows) ?_
  conv => whnf

theorem cloneE_own0 (f : Bool) (rows : List (List D)) (h1 : rows.length ≤ 1000) : HCalls Try.prog G0 87 (hpOf []) [.d (.slc f 5 rows)] (fun r k => r = .own 7 ∧ ∃ f', k = [(7, .arr f' 5 rows)]) := by
  refine adopt (φ := fun r k => (r = .own 7 ∧ k = [(7, .arr false 5 rows)]) ∨ (rows = [] ∧ r = .d (.slc true 5 []) ∧ k = [])) ?_ 7 ?_
  · refine hspec tabOk Try.func87 (by kernel_rfl) true [7] [] rfl ?_
    conv => whnf
    refine ⟨fun h => ?_, ?_⟩ <;> conv => whnf
    · exact ⟨[], ⟨trivial, rfl, rfl⟩, rfl, .inr ⟨h, rfl, rfl⟩⟩
    · refine ⟨room (by omega) rfl, room' (by omega), ?_⟩
      conv => whnf
      exact ⟨[(7, .arr false 5 rows)], ⟨weakHp_cons rfl rfl weakHp_nil, rfl, rfl⟩, rfl, .inl ⟨rfl, rfl⟩⟩
  · rintro r l (⟨rfl, rfl⟩ | ⟨h, rfl, rfl⟩)
    · exact .inl ⟨rfl, false, rfl⟩
    · exact .inr ⟨5, rfl, rfl, rfl, true, by rw [h]⟩
theorem cloneE0_use {f : Bool} {rows : List (List D)} (h1 : rows.length ≤ 1000) {s : St} {K : HP → V → HP → Prop} (k : ∀ f', K [] (.own 7) [(7, .arr f' 5 rows)]) :
    ∃ hin φ, HCalls Try.prog G0 87 (hpOf hin) [.d (.slc f 5 rows)] φ ∧ weakHp s (hin.map (·.1)) hin ∧ okVs (hin.map (·.1)) [.d (.slc f 5 rows)] = true ∧ ∀ r l, φ r l → K hin r l :=
  ⟨[], _, cloneE_own0 f rows h1, trivial, rfl, fun r l ⟨e1, f', e2⟩ => by subst e1; subst e2; exact k f'⟩
theorem clipE_own (f : Bool) (rows : List (List D)) : HCalls Try.prog G0 36 (hpOf [(7, .arr f 5 rows)]) [.own 7] (fun r l => r = .own 8 ∧ l = [(7, .dead), (8, .arr true 5 rows)]) := by
  refine hspec tabOk Try.func36 (by kernel_rfl) true [8] [] rfl ?_
  conv => whnf
  intro _
  conv => whnf
  intro _
  conv => whnf
  refine ⟨rfl, rfl, ?_⟩
  conv => whnf
  exact ⟨[(7, .dead), (8, .arr true 5 rows)], ⟨weakHp_cons rfl rfl (weakHp_cons rfl rfl weakHp_nil), rfl, rfl⟩, rfl, rfl, rfl⟩
theorem cloneE_own8 (f : Bool) (rows : List (List D)) (h1 : rows.length ≤ 1000) : HCalls Try.prog G0 75 (hpOf []) [.d (.slc f 5 rows)] (fun r k => r = .own 8 ∧ k = [(8, .arr true 5 rows)]) := by
  refine hspec tabOk Try.func75 (by kernel_rfl) true [] [36, 87] rfl ?_
  conv => whnf
  refine cloneE0_use h1 fun f' => ⟨⟨rfl, trivial⟩, ?_⟩
  conv => whnf
  refine hcall_eq (hin := [(7, .arr f' 5 rows)]) (clipE_own f' rows) ⟨rfl, rfl, trivial⟩ rfl ⟨⟨trivial, rfl, trivial⟩, ?_⟩
  conv => whnf
  exact ⟨[(8, .arr true 5 rows)], ⟨weakHp_cons rfl rfl weakHp_nil, rfl, rfl⟩, rfl, rfl, rfl⟩
theorem cloneE_own (f : Bool) (rows : List (List D)) (h1 : rows.length ≤ 1000) (d : Nat) : HCalls Try.prog G0 75 (hpOf []) [.d (.slc f 5 rows)] (fun r k => r = .own d ∧ k = [(d, .arr true 5 rows)]) := by
  refine HCalls.swap (hin := []) (args := [.d (.slc f 5 rows)]) (cloneE_own8 f rows h1) 8 d ?_
  rintro r k ⟨rfl, rfl⟩
  have : swp 8 d 8 = d := by simp [swp]
  refine ⟨?_, ?_⟩
  · simp only [V.ren, this]
  · simp only [List.map_cons, List.map_nil, renP, this, Obj.ren]

abbrev ownG2 (g : Game) : HP := [(5, .arr true 5 (g.ents.map encEnt)), (8, .arr true 1 (g.floor.map encI)), (11, .arr true 1 (g.last.map encI))]
abbrev ownV2 : V := .agg [.own 5, .own 8, .own 11]
theorem copyI_own (a b c : Bool) (g : Game) (h1 : g.ents.length ≤ 1000) (h2 : g.floor.length ≤ 1000) (h3 : g.last.length ≤ 1000) (n2 : g.floor ≠ []) (n3 : g.last ≠ []) : HCalls Try.prog G0 48 (hpOf []) [vGame a b c g]
    (fun r l => r = ownV2 ∧ l = ownG2 g) := by
  refine hspec tabOk Try.func48 (by kernel_rfl) true [5, 8, 11] [34, 75] rfl ?_
  conv => whnf
  refine ⟨.arr true 5 (g.ents.map encEnt), cloneE_own a (g.ents.map encEnt) (by simp; omega) 5, ?_⟩
  conv => whnf
  refine ⟨.arr true 1 (g.floor.map encI), cloneI_own b g.floor n2 h2 8, ?_⟩
  conv => whnf
  refine ⟨.arr true 1 (g.last.map encI), cloneI_own c g.last n3 h3 11, ?_⟩
  conv => whnf
  exact ⟨ownG2 g, ⟨weakHp_cons rfl rfl (weakHp_cons rfl rfl (weakHp_cons rfl rfl weakHp_nil)), rfl, rfl⟩, rfl, rfl, rfl⟩

theorem square_ok (E F L : List (List D)) (e : Ent) (he : xyOk e) (hF : F.length = 16) : HCalls Try.prog G0 77 (hpOf [(5, .arr true 5 E), (8, .arr true 1 F), (11, .arr true 1 L)]) [ownV2, vEnt e]
    (fun r l => r = .ref 8 (at4 e).toNat 1 0 ∧ l = [(5, .arr true 5 E), (8, .arr true 1 F), (11, .arr true 1 L)]) := by
  refine hspec tabOk Try.func77 (by kernel_rfl) true [] [] rfl ?_
  conv => whnf
  unfold xyOk at he
  have w0 : IntKind.i64.wrap (IntKind.i64.wrap (e.y * 4) + e.x) = at4 e := by
    rw [wrap_id (n := e.y * 4) (by omega) (by omega), wrap_id (by omega) (by omega)]; rfl
  have ha : 0 ≤ at4 e ∧ at4 e < 16 := by unfold at4; omega
  refine ⟨by rw [w0]; omega, by rw [w0]; omega, ?_⟩
  conv => whnf
  exact ⟨[(5, .arr true 5 E), (8, .arr true 1 F), (11, .arr true 1 L)], ⟨weakHp_cons rfl rfl (weakHp_cons rfl rfl (weakHp_cons rfl rfl weakHp_nil)), rfl, rfl⟩, rfl, by rw [w0], rfl⟩
end Go.Proofs.Ytnnmkenloijkcaa
/- The exact laws' own functions: sizes, copies of what comes in, comparisons. -/
set_option linter.unusedVariables false
set_option linter.unusedSimpArgs false
set_option maxRecDepth 10000
namespace Go.Proofs.Ytnnmkenloijkcaa
open Go Eng

mutual
theorem plain_P {w : World} {g : Gh} {hp : Nat → Eng.Obj} : ∀ (v : V) (u : Value), v.plain = true → RepV w g hp v u → RepV w (gh0 g.imm) (fun _ => .none) v u
  | .undef, u, h, _ => by simp [V.plain] at h
  | .d x, u, _, h => by simpa only [RepV, gh0] using h
  | .ref .., u, h, _ => by simp [V.plain] at h
  | .own _, u, h, _ => by simp [V.plain] at h
  | .osl .., u, h, _ => by simp [V.plain] at h
  | .view .., u, h, _ => by simp [V.plain] at h
  | .any, u, h, _ => by simp [V.plain] at h
  | .agg cs, u, hv, h => by
    simp only [RepV, V.plain] at h hv ⊢
    obtain ⟨us, rfl, h⟩ := h
    exact ⟨us, rfl, plains_P cs _ hv h⟩
  | .tup cs, u, hv, h => by
    simp only [RepV, V.plain] at h hv ⊢
    obtain ⟨us, rfl, h⟩ := h
    exact ⟨us, rfl, plains_P cs _ hv h⟩
  | .clo .., u, h, _ => by simp [V.plain] at h
theorem plains_P {w : World} {g : Gh} {hp : Nat → Eng.Obj} : ∀ (vs : List V) (us : List Value), plains vs = true → RepVs w g hp vs us → RepVs w (gh0 g.imm) (fun _ => .none) vs us
  | [], us, _, h => by simpa only [RepVs] using h
  | v :: vs, us, hv, h => by
    simp only [RepVs] at h ⊢
    obtain ⟨u, us', rfl, r1, r2⟩ := h
    unfold plains at hv
    split at hv
    · rename_i hv1
      exact ⟨u, us', rfl, plain_P v u hv1 r1, plains_P vs us' hv r2⟩
    · simp at hv
end
/-- A call without objects. -/
theorem hcalls_of {P : Program} {G : Nat → V} {f : FuncId} {args : List V} {φ : V → Prop} (h : ACalls P G f args φ) (hp : plains args = true) : HCalls P G f (hpOf []) args (fun r l => φ r ∧ l = []) := by
  obtain ⟨hf, h⟩ := h
  refine ⟨hf, fun w g us hb hG hargs _ _ => ?_⟩
  have hpl := fun vs us => plains_P (w := w) (g := g) (hp := hpOf []) vs us
  refine (h w g.imm us hb hG (hpl _ _ hp hargs)).mono fun e w' ho => ⟨?_⟩
  obtain ⟨u, r, imm', he, hφ, hrep, h1, h2, h3, h4, h5, h6⟩ := ho.out
  have hn : ∀ i, hpOf [] i = Eng.Obj.none := fun i => rfl
  refine ⟨u, r, [], ⟨imm', g.blk, g.val⟩, he, ⟨hφ, rfl⟩, by simp, RepP.to rfl _ r u hrep, fun id => by rw [hn]; trivial, fun i j b _ hi => by rw [hn] at hi; simp [Eng.Obj.live] at hi, h4, h1, fun b hb' _ => h2 b hb',
    ⟨⟨h3, fun b o hi => ?_⟩, fun id hu => by rw [hn] at hu; simp [Eng.Obj.used] at hu, fun _ _ _ => rfl, fun _ _ _ => rfl, fun id hu => by rw [hn] at hu; simp [Eng.Obj.used] at hu, fun id e n hu => by rw [hn] at hu; simp [Eng.Obj.used] at hu⟩, fun b o hi hb' => .inl (h5 b o hi hb'), fun id b hi => by rw [hn] at hi; simp [Eng.Obj.live] at hi, h6⟩
  unfold World.cell?
  rw [h2 b (hb b o hi)]

def szF (n : Int) (k : Nat) : Int := if n - k < 0 then -1 else n - k
theorem szE_ok (f : Bool) (rows : List (List D)) (n : Int) (h0 : 0 ≤ n) (h1 : n ≤ 1048576) : ACalls Try.prog G0 58 [.d (.slc f 5 rows), vi n] (· = vi (szF n rows.length)) := by
  refine spec_intro tabOk Try.func58 (by kernel_rfl) rfl ?_
  conv => whnf
  intro hlen
  have w1 : IntKind.i64.wrap (n - (rows.length : Int)) = n - rows.length := wrap_id (by omega) (by omega)
  conv => whnf
  rw [w1]
  refine ⟨fun h => ?_, fun h => ?_⟩ <;> conv => whnf
  · exact congrArg vi (by unfold szF; rw [if_pos h])
  · refine congrArg vi ?_
    unfold szF; rw [if_neg h]
theorem szI_ok (f : Bool) (rows : List (List D)) (n : Int) (h0 : 0 ≤ n) (h1 : n ≤ 1048576) : ACalls Try.prog G0 59 [.d (.slc f 1 rows), vi n] (· = vi (szF n rows.length)) := by
  refine spec_intro tabOk Try.func59 (by kernel_rfl) rfl ?_
  conv => whnf
  intro hlen
  have w1 : IntKind.i64.wrap (n - (rows.length : Int)) = n - rows.length := wrap_id (by omega) (by omega)
  conv => whnf
  rw [w1]
  refine ⟨fun h => ?_, fun h => ?_⟩ <;> conv => whnf
  · exact congrArg vi (by unfold szF; rw [if_pos h])
  · refine congrArg vi ?_
    unfold szF; rw [if_neg h]
theorem szG_ok (a b c : Bool) (g : Game) : ACalls Try.prog G0 23 [vGame a b c g, vi 1048576] (fun r => ∃ k, r = vi k ∧ (¬ k < 0 → g.ents.length ≤ 1048576 ∧ g.floor.length ≤ 1048576 ∧ g.last.length ≤ 1048576)) := by
  refine spec_intro tabOk Try.func23 (by kernel_rfl) rfl ?_
  conv => whnf
  refine call_eq (szE_ok a (g.ents.map encEnt) 1048576 (by omega) (by omega)) ?_
  conv => whnf
  refine ⟨fun h => ?_, fun h => ?_⟩ <;> conv => whnf
  · exact ⟨-1, rfl, fun h => absurd (by omega) h⟩
  have e1 : g.ents.length ≤ 1048576 := by
    unfold szF at h
    split at h
    · omega
    · simp at *; omega
  have s1 : 0 ≤ szF 1048576 (g.ents.map encEnt).length ∧ szF 1048576 (g.ents.map encEnt).length ≤ 1048576 := by
    unfold szF at h ⊢
    split at h <;> split <;> simp at * <;> omega
  refine call_eq (szI_ok b (g.floor.map encI) _ s1.1 s1.2) ?_
  conv => whnf
  refine ⟨fun h => ?_, fun h => ?_⟩ <;> conv => whnf
  · exact ⟨-1, rfl, fun h => absurd (by omega) h⟩
  obtain ⟨x, hx⟩ : ∃ x, x = szF 1048576 (g.ents.map encEnt).length := ⟨_, rfl⟩
  rw [← hx] at h s1
  have e2 : g.floor.length ≤ 1048576 := by
    unfold szF at h
    split at h
    · omega
    · simp at *; omega
  have s2 : 0 ≤ szF x (g.floor.map encI).length ∧ szF x (g.floor.map encI).length ≤ 1048576 := by
    unfold szF at h ⊢
    split at h <;> split <;> simp at * <;> omega
  rw [hx] at s2
  refine call_eq (szI_ok c (g.last.map encI) _ s2.1 s2.2) ?_
  conv => whnf
  refine ⟨fun h => ?_, fun h => ?_⟩ <;> conv => whnf
  · exact ⟨-1, rfl, fun h => absurd (by omega) h⟩
  rw [← hx] at s2 h
  obtain ⟨y, hy⟩ : ∃ y, y = szF x (g.floor.map encI).length := ⟨_, rfl⟩
  rw [← hy] at s2 h
  have e3 : g.last.length ≤ 1048576 := by
    unfold szF at h
    split at h
    · omega
    · simp at *; omega
  exact ⟨_, rfl, fun _ => ⟨e1, e2, e3⟩⟩

theorem toEnt_ok (e : Ent) : ACalls Try.prog G0 83 [vEnt e] (· = vEnt e) := by
  refine spec_intro tabOk Try.func83 (by kernel_rfl) rfl ?_
  conv => whnf
  rfl
def zEnt : List D := [.int .i64 0, .int .i64 0, .int .i64 0, .int .i64 0, .int .i64 0]
/-- The first of a list, and nothing yet in the place of the rest. -/
def part (z : List D) (l : List (List D)) (i : Nat) : List (List D) := l.take i ++ List.replicate (l.length - i) z
theorem part_len (z : List D) (l : List (List D)) {i : Nat} (h : i ≤ l.length) : (part z l i).length = l.length := by simp [part]; omega
theorem part_get (z : List D) (l : List (List D)) {i : Nat} (h : i < l.length) : (part z l i)[i]? = some z := by
  unfold part
  rw [List.getElem?_append_right (by simp; omega), List.getElem?_replicate, if_pos (by simp; omega)]
theorem part_set (z : List D) (l : List (List D)) {i : Nat} {r : List D} (h : l[i]? = some r) : (part z l i).set i r = part z l (i + 1) := by
  obtain ⟨hi, hr⟩ := List.getElem?_eq_some_iff.1 h
  apply List.ext_getElem?
  intro j
  rw [List.getElem?_set]
  unfold part
  rcases Nat.lt_trichotomy j i with hj | hj | hj
  · rw [if_neg (by omega), List.getElem?_append_left (by simp; omega), List.getElem?_append_left (by simp; omega), List.getElem?_take, List.getElem?_take, if_pos hj, if_pos (by omega)]
  · subst hj
    rw [if_pos rfl, if_pos (by simp; omega), List.getElem?_append_left (by simp; omega), List.getElem?_take, if_pos (by omega), h]
  · rw [if_neg (by omega), List.getElem?_append_right (by simp; omega), List.getElem?_append_right (by simp; omega), List.getElem?_replicate, List.getElem?_replicate]
    simp only [List.length_take]
    rw [Nat.min_eq_left (by omega), Nat.min_eq_left (by omega)]
    by_cases hjl : j < l.length
    · rw [if_pos (by omega), if_pos (by omega)]
    · rw [if_neg (by omega), if_neg (by omega)]
theorem toEntS_own3 (f : Bool) (l : List Ent) (h1 : l.length ≤ 1048576) : HCalls Try.prog G0 60 (hpOf []) [.d (.slc f 5 (l.map encEnt))] (fun r k => r = .own 7 ∧ k = [(7, .arr true 5 (l.map encEnt))]) := by
  refine hspec tabOk Try.func60 (by kernel_rfl) true [] [] rfl ?_
  conv => whnf
  intro _
  conv => whnf
  refine ⟨rfl, by simp, by simp; omega, by simp; omega, ?_⟩
  conv => whnf
  let P : Nat → Prop := fun i => True
  let I : Nat → SL := fun i => ⟨[(0, .d (.slc f 5 (l.map encEnt))), (3, .own 7), (4, vi i)], [(7, .arr true 5 (part zEnt (l.map encEnt) i))]⟩
  refine loop_up l.length P I trivial ?_ ?_
  · refine ⟨?_, ?_, rfl⟩
    · exact weakSl_cons rfl rfl (weakSl_cons rfl rfl (weakSl_cons rfl rfl weakSl_nil))
    · refine weakHp_cons (congrArg (Obj.arr true 5) ?_) rfl weakHp_nil
      simp [part, zEnt]
  intro i hi _
  conv => whnf
  intro _
  refine ⟨fun hlt => ?_, fun hge => ?_⟩ <;> conv => whnf
  · have hlt := lt_map hlt
    refine (entsAt hlt).elim fun e he => ?_
    refine ⟨by omega, encEnt e, row_map he, ?_⟩
    conv => whnf
    refine call_eq (toEnt_ok e) ?_
    conv => whnf
    refine ⟨by omega, by rw [part_len _ _ (by simp; omega)]; simp; omega, ?_⟩
    conv => whnf
    refine ⟨zEnt, part_get _ _ (by simp; omega), ?_⟩
    conv => whnf
    have hs : (part zEnt (l.map encEnt) i).set i (encEnt e) = part zEnt (l.map encEnt) (i + 1) := part_set _ _ (row_map he)
    exact up_next hlt trivial ⟨weakSl_cons rfl rfl (weakSl_cons rfl rfl (weakSl_cons (wrap_succ (by omega)) rfl weakSl_nil)), weakHp_cons (congrArg (Obj.arr true 5) hs) rfl weakHp_nil, rfl⟩
  have hin := ge_map hge hi
  have hfull : part zEnt (l.map encEnt) i = l.map encEnt := by
    subst hin
    unfold part
    have : (l.map encEnt).take l.length = l.map encEnt := List.take_of_length_le (by simp)
    simp [this]
  refine ⟨[(7, .arr true 5 (l.map encEnt))], ⟨weakHp_cons (congrArg (Obj.arr true 5) hfull) rfl weakHp_nil, rfl, rfl⟩, rfl, rfl, rfl⟩
theorem toIntS_own3 (f : Bool) (l : List Int) (h1 : l.length ≤ 1048576) : HCalls Try.prog G0 61 (hpOf []) [.d (.slc f 1 (l.map encI))] (fun r k => r = .own 7 ∧ k = [(7, .arr true 1 (l.map encI))]) := by
  refine hspec tabOk Try.func61 (by kernel_rfl) true [] [] rfl ?_
  conv => whnf
  intro _
  conv => whnf
  refine ⟨rfl, by simp, by simp; omega, by simp; omega, ?_⟩
  conv => whnf
  let P : Nat → Prop := fun i => True
  let I : Nat → SL := fun i => ⟨[(0, .d (.slc f 1 (l.map encI))), (3, .own 7), (4, vi i)], [(7, .arr true 1 (part [.int .i64 0] (l.map encI) i))]⟩
  refine loop_up l.length P I trivial ?_ ?_
  · refine ⟨?_, ?_, rfl⟩
    · exact weakSl_cons rfl rfl (weakSl_cons rfl rfl (weakSl_cons rfl rfl weakSl_nil))
    · refine weakHp_cons (congrArg (Obj.arr true 1) ?_) rfl weakHp_nil
      simp [part]
  intro i hi _
  conv => whnf
  intro _
  refine ⟨fun hlt => ?_, fun hge => ?_⟩ <;> conv => whnf
  · have hlt := lt_map hlt
    refine (entsAt hlt).elim fun e he => ?_
    refine ⟨by omega, encI e, row_map he, ?_⟩
    conv => whnf
    refine ⟨by omega, by rw [part_len _ _ (by simp; omega)]; simp; omega, ?_⟩
    conv => whnf
    refine ⟨[.int .i64 0], part_get _ _ (by simp; omega), ?_⟩
    conv => whnf
    have hs : (part [.int .i64 0] (l.map encI) i).set i (encI e) = part [.int .i64 0] (l.map encI) (i + 1) := part_set _ _ (row_map he)
    exact up_next hlt trivial ⟨weakSl_cons rfl rfl (weakSl_cons rfl rfl (weakSl_cons (wrap_succ (by omega)) rfl weakSl_nil)), weakHp_cons (congrArg (Obj.arr true 1) hs) rfl weakHp_nil, rfl⟩
  have hin := ge_map hge hi
  have hfull : part [.int .i64 0] (l.map encI) i = l.map encI := by
    subst hin
    unfold part
    have : (l.map encI).take l.length = l.map encI := List.take_of_length_le (by simp)
    simp [this]
  refine ⟨[(7, .arr true 1 (l.map encI))], ⟨weakHp_cons (congrArg (Obj.arr true 1) hfull) rfl weakHp_nil, rfl, rfl⟩, rfl, rfl, rfl⟩
theorem toIntS_own (f : Bool) (l : List Int) (h1 : l.length ≤ 1048576) (d : Nat) : HCalls Try.prog G0 61 (hpOf []) [.d (.slc f 1 (l.map encI))] (fun r k => r = .own d ∧ k = [(d, .arr true 1 (l.map encI))]) := by
  refine HCalls.swap (hin := []) (args := [.d (.slc f 1 (l.map encI))]) (toIntS_own3 f l h1) 7 d ?_
  rintro r k ⟨rfl, rfl⟩
  have : swp 7 d 7 = d := by simp [swp]
  refine ⟨?_, ?_⟩
  · simp only [V.ren, this]
  · simp only [List.map_cons, List.map_nil, renP, this, Obj.ren]
theorem toEntS_own (f : Bool) (l : List Ent) (h1 : l.length ≤ 1048576) (d : Nat) : HCalls Try.prog G0 60 (hpOf []) [.d (.slc f 5 (l.map encEnt))] (fun r k => r = .own d ∧ k = [(d, .arr true 5 (l.map encEnt))]) := by
  refine HCalls.swap (hin := []) (args := [.d (.slc f 5 (l.map encEnt))]) (toEntS_own3 f l h1) 7 d ?_
  rintro r k ⟨rfl, rfl⟩
  have : swp 7 d 7 = d := by simp [swp]
  refine ⟨?_, ?_⟩
  · simp only [V.ren, this]
  · simp only [List.map_cons, List.map_nil, renP, this, Obj.ren]
def Small (g : Game) : Prop := g.ents.length ≤ 1048576 ∧ g.floor.length ≤ 1048576 ∧ g.last.length ≤ 1048576
/-- A copy of what came in, that may be written. -/
theorem toGame_own (a b c : Bool) (g : Game) (h : Small g) : HCalls Try.prog G0 24 (hpOf []) [vGame a b c g] (fun r l => r = ownV2 ∧ l = ownG2 g) := by
  refine hspec tabOk Try.func24 (by kernel_rfl) true [] [60, 61] rfl ?_
  conv => whnf
  refine hcall_eq (hin := []) (toEntS_own a g.ents h.1 5) trivial rfl ⟨⟨rfl, trivial⟩, ?_⟩
  conv => whnf
  refine hcall_eq (hin := []) (toIntS_own b g.floor h.2.1 8) trivial rfl ⟨⟨rfl, trivial⟩, ?_⟩
  conv => whnf
  refine hcall_eq (hin := []) (toIntS_own c g.last h.2.2 11) trivial rfl ⟨⟨rfl, trivial⟩, ?_⟩
  conv => whnf
  exact ⟨ownG2 g, ⟨weakHp_cons rfl rfl (weakHp_cons rfl rfl (weakHp_cons rfl rfl weakHp_nil)), rfl, rfl⟩, rfl, rfl, rfl⟩
/-- The same, to be read. -/
theorem toGame_pure (a b c : Bool) (g : Game) (h : Small g) : ACalls Try.prog G0 24 [vGame a b c g] (· = vGame true true true g) := by
  refine spec_own tabOk Try.func24 (by kernel_rfl) [] [60, 61] rfl ?_
  conv => whnf
  refine hcall_eq (hin := []) (toEntS_own a g.ents h.1 5) trivial rfl ⟨⟨rfl, trivial⟩, ?_⟩
  conv => whnf
  refine hcall_eq (hin := []) (toIntS_own b g.floor h.2.1 8) trivial rfl ⟨⟨rfl, trivial⟩, ?_⟩
  conv => whnf
  refine hcall_eq (hin := []) (toIntS_own c g.last h.2.2 11) trivial rfl ⟨⟨rfl, trivial⟩, ?_⟩
  conv => whnf
  rfl
end Go.Proofs.Ytnnmkenloijkcaa
/- The exact laws' own functions: comparisons of the same, marks, and what is held. -/
set_option linter.unusedVariables false
set_option linter.unusedSimpArgs false
set_option maxRecDepth 10000
namespace Go.Proofs.Ytnnmkenloijkcaa
open Go Eng

theorem eqReq_ok (x : Req) : ACalls Try.prog G0 62 [vReq x, vReq x] (· = vb true) := by
  refine spec_intro tabOk Try.func62 (by kernel_rfl) rfl ?_
  conv => whnf
  refine ⟨fun h => absurd rfl h, fun _ => ?_⟩
  conv => whnf
  refine ⟨fun h => absurd rfl h, fun _ => ?_⟩
  conv => whnf
  refine ⟨fun h => absurd rfl h, fun _ => ?_⟩
  conv => whnf
  refine ⟨fun h => absurd rfl h, fun _ => ?_⟩
  conv => whnf
  refine ⟨fun h => absurd rfl h, fun _ => ?_⟩
  conv => whnf
  rfl
theorem eqEnt_ok (x : Ent) : ACalls Try.prog G0 84 [vEnt x, vEnt x] (· = vb true) := by
  refine spec_intro tabOk Try.func84 (by kernel_rfl) rfl ?_
  conv => whnf
  refine ⟨fun h => absurd rfl h, fun _ => ?_⟩
  conv => whnf
  refine ⟨fun h => absurd rfl h, fun _ => ?_⟩
  conv => whnf
  refine ⟨fun h => absurd rfl h, fun _ => ?_⟩
  conv => whnf
  refine ⟨fun h => absurd rfl h, fun _ => ?_⟩
  conv => whnf
  refine ⟨fun h => absurd rfl h, fun _ => ?_⟩
  conv => whnf
  rfl
theorem eqReqS_ok (f1 f2 : Bool) (l : List Req) : ACalls Try.prog G0 25 [.d (.slc f1 5 (l.map encReq)), .d (.slc f2 5 (l.map encReq))] (· = vb true) := by
  refine spec_intro tabOk Try.func25 (by kernel_rfl) rfl ?_
  conv => whnf
  intro hlen
  have hlen := le_map hlen
  conv => whnf
  intro _
  conv => whnf
  refine ⟨fun h => absurd rfl h, fun _ => ?_⟩
  conv => whnf
  let P : Nat → Prop := fun i => True
  let I : Nat → SL := fun i => ⟨[(0, .d (.slc f1 5 (l.map encReq))), (1, .d (.slc f2 5 (l.map encReq))), (5, vi i)], []⟩
  refine loop_up l.length P I trivial ?_ ?_
  · exact ⟨weakSl_cons rfl rfl (weakSl_cons rfl rfl (weakSl_cons rfl rfl weakSl_nil)), weakHp_nil, rfl⟩
  intro i hi _
  conv => whnf
  intro _
  refine ⟨fun hlt => ?_, fun hge => ?_⟩ <;> conv => whnf
  · have hlt := lt_map hlt
    refine (entsAt hlt).elim fun n hn => ?_
    refine ⟨by omega, encReq n, row_map hn, ?_⟩
    conv => whnf
    refine ⟨by omega, encReq n, row_map hn, ?_⟩
    conv => whnf
    refine drawn_bool (eqReq_ok n) (fun _ => ?_) (fun h => absurd h (by simp))
    conv => whnf
    exact up_next hlt trivial ⟨weakSl_cons rfl rfl (weakSl_cons rfl rfl (weakSl_cons (wrap_succ (by omega)) rfl weakSl_nil)), weakHp_nil, rfl⟩
  rfl
theorem eqEntS_ok (f1 f2 : Bool) (l : List Ent) : ACalls Try.prog G0 63 [.d (.slc f1 5 (l.map encEnt)), .d (.slc f2 5 (l.map encEnt))] (· = vb true) := by
  refine spec_intro tabOk Try.func63 (by kernel_rfl) rfl ?_
  conv => whnf
  intro hlen
  have hlen := le_map hlen
  conv => whnf
  intro _
  conv => whnf
  refine ⟨fun h => absurd rfl h, fun _ => ?_⟩
  conv => whnf
  let P : Nat → Prop := fun i => True
  let I : Nat → SL := fun i => ⟨[(0, .d (.slc f1 5 (l.map encEnt))), (1, .d (.slc f2 5 (l.map encEnt))), (5, vi i)], []⟩
  refine loop_up l.length P I trivial ?_ ?_
  · exact ⟨weakSl_cons rfl rfl (weakSl_cons rfl rfl (weakSl_cons rfl rfl weakSl_nil)), weakHp_nil, rfl⟩
  intro i hi _
  conv => whnf
  intro _
  refine ⟨fun hlt => ?_, fun hge => ?_⟩ <;> conv => whnf
  · have hlt := lt_map hlt
    refine (entsAt hlt).elim fun n hn => ?_
    refine ⟨by omega, encEnt n, row_map hn, ?_⟩
    conv => whnf
    refine ⟨by omega, encEnt n, row_map hn, ?_⟩
    conv => whnf
    refine drawn_bool (eqEnt_ok n) (fun _ => ?_) (fun h => absurd h (by simp))
    conv => whnf
    exact up_next hlt trivial ⟨weakSl_cons rfl rfl (weakSl_cons rfl rfl (weakSl_cons (wrap_succ (by omega)) rfl weakSl_nil)), weakHp_nil, rfl⟩
  rfl
theorem eqIntS_ok (f1 f2 : Bool) (l : List Int) : ACalls Try.prog G0 64 [.d (.slc f1 1 (l.map encI)), .d (.slc f2 1 (l.map encI))] (· = vb true) := by
  refine spec_intro tabOk Try.func64 (by kernel_rfl) rfl ?_
  conv => whnf
  intro hlen
  have hlen := le_map hlen
  conv => whnf
  intro _
  conv => whnf
  refine ⟨fun h => absurd rfl h, fun _ => ?_⟩
  conv => whnf
  let P : Nat → Prop := fun i => True
  let I : Nat → SL := fun i => ⟨[(0, .d (.slc f1 1 (l.map encI))), (1, .d (.slc f2 1 (l.map encI))), (5, vi i)], []⟩
  refine loop_up l.length P I trivial ?_ ?_
  · exact ⟨weakSl_cons rfl rfl (weakSl_cons rfl rfl (weakSl_cons rfl rfl weakSl_nil)), weakHp_nil, rfl⟩
  intro i hi _
  conv => whnf
  intro _
  refine ⟨fun hlt => ?_, fun hge => ?_⟩ <;> conv => whnf
  · have hlt := lt_map hlt
    refine (entsAt hlt).elim fun n hn => ?_
    refine ⟨by omega, encI n, row_map hn, ?_⟩
    conv => whnf
    refine ⟨by omega, encI n, row_map hn, ?_⟩
    conv => whnf
    refine ⟨fun h => absurd rfl h, fun _ => ?_⟩
    conv => whnf
    exact up_next hlt trivial ⟨weakSl_cons rfl rfl (weakSl_cons rfl rfl (weakSl_cons (wrap_succ (by omega)) rfl weakSl_nil)), weakHp_nil, rfl⟩
  rfl
theorem eqGame_ok (a b c a' b' c' : Bool) (g : Game) : ACalls Try.prog G0 26 [vGame a b c g, vGame a' b' c' g] (· = vb true) := by
  refine spec_intro tabOk Try.func26 (by kernel_rfl) rfl ?_
  conv => whnf
  refine call_eq (eqEntS_ok a a' g.ents) ?_
  conv => whnf
  refine call_eq (eqIntS_ok b b' g.floor) ?_
  conv => whnf
  refine call_eq (eqIntS_ok c c' g.last) ?_
  conv => whnf
  rfl

def mk5 (k : Int) : List D := [.int .i64 k, .int .i64 (k + 1), .int .i64 (k + 2), .int .i64 (k + 3), .int .i64 (k + 4)]
def mk1 (k : Int) : List D := [.int .i64 k]
/-- Rows of marks, from the first one on. -/
def marks (f : Int → List D) (s : Int) (k : Int) (n : Nat) : List (List D) := (List.range n).map fun i : Nat => f (k + s * (i : Int))
theorem marks_len (f : Int → List D) (s k : Int) (n : Nat) : (marks f s k n).length = n := by simp [marks]
theorem marks_get (f : Int → List D) (s k : Int) {n i : Nat} (h : i < n) : (marks f s k n)[i]? = some (f (k + s * (i : Int))) := by simp [marks, h]
theorem marks_succ (f : Int → List D) (s k : Int) (n : Nat) : marks f s k (n + 1) = marks f s k n ++ [f (k + s * (n : Int))] := by simp [marks, List.range_succ]
/-- The first rows are marked. -/
def marked (f : Int → List D) (s k : Int) (rows : List (List D)) (i : Nat) : List (List D) := marks f s k i ++ rows.drop i
theorem marked_len (f : Int → List D) (s k : Int) (rows : List (List D)) {i : Nat} (h : i ≤ rows.length) : (marked f s k rows i).length = rows.length := by simp [marked, marks_len]; omega
theorem marked_get (f : Int → List D) (s k : Int) {rows : List (List D)} {i : Nat} {r : List D} (h : rows[i]? = some r) : (marked f s k rows i)[i]? = some r := by
  unfold marked
  rw [List.getElem?_append_right (by simp [marks_len]), marks_len, List.getElem?_drop]
  simpa using h
theorem marked_set (f : Int → List D) (s k : Int) {rows : List (List D)} {i : Nat} {r : List D} (h : i < rows.length) (hr : r = f (k + s * (i : Int))) : (marked f s k rows i).set i r = marked f s k rows (i + 1) := by
  subst hr
  unfold marked
  rw [List.set_append_right _ _ (by simp [marks_len]), marks_len, Nat.sub_self, marks_succ, List.append_assoc]
  congr 1
  rw [List.drop_eq_getElem_cons h]
  rfl
theorem marked_all (f : Int → List D) (s k : Int) (rows : List (List D)) : marked f s k rows rows.length = marks f s k rows.length := by simp [marked]
theorem len5 {r : List D} (h : r.length = 5) : ∃ a b c d e, r = [a, b, c, d, e] := by
  match r, h with
  | [a, b, c, d, e], _ => exact ⟨a, b, c, d, e, rfl⟩
theorem len1 {r : List D} (h : r.length = 1) : ∃ a, r = [a] := by
  match r, h with
  | [a], _ => exact ⟨a, rfl⟩
theorem markEntS_ok (id : Nat) (hid : id = 5) (fl : Bool) (rows : List (List D)) (k : Int) (hk : 0 ≤ k) (hk2 : k ≤ 100000000) (hn : rows.length ≤ 1048576) (hrow : ∀ (i : Nat) r, rows[i]? = some r → r.length = 5) : HCalls Try.prog G0 65 (hpOf [(5, .arr fl 5 rows)]) [.own 5, vi k]
    (fun r l => r = vi (k + 5 * (rows.length : Int)) ∧ l = [(5, .arr fl 5 (marks mk5 5 k rows.length))]) := by
  refine hspec tabOk Try.func65 (by kernel_rfl) true [] [] rfl ?_
  conv => whnf
  let P : Nat → Prop := fun i => True
  let I : Nat → SL := fun i => ⟨[(0, .own 5), (1, vi (k + 5 * (i : Int))), (5, vi i)], [(5, .arr fl 5 (marked mk5 5 k rows i))]⟩
  refine loop_up rows.length P I trivial ?_ ?_
  · refine ⟨weakSl_cons rfl rfl (weakSl_cons (congrArg vi (by simp)) rfl (weakSl_cons rfl rfl weakSl_nil)), weakHp_cons (congrArg (Obj.arr fl 5) (by simp [marked, marks])) rfl weakHp_nil, rfl⟩
  intro i hi _
  conv => whnf
  intro _
  have hml := marked_len mk5 5 k rows hi
  refine ⟨fun hlt => ?_, fun hge => ?_⟩ <;> conv => whnf
  · have hlt : i < rows.length := by rw [hml] at hlt; omega
    refine (entsAt hlt).elim fun r hr => ?_
    refine (len5 (hrow i r hr)).elim fun c0 hc => hc.elim fun c1 hc => hc.elim fun c2 hc => hc.elim fun c3 hc => hc.elim fun c4 hc => ?_
    rw [hc] at hr
    have w1 : IntKind.i64.wrap ((k + 5 * (i : Int)) + 1) = (k + 5 * (i : Int)) + 1 := wrap_id (by omega) (by omega)
    have w2 : IntKind.i64.wrap ((k + 5 * (i : Int)) + 1 + 1) = (k + 5 * (i : Int)) + 2 := (wrap_id (by omega) (by omega)).trans (by omega)
    have w3 : IntKind.i64.wrap ((k + 5 * (i : Int)) + 2 + 1) = (k + 5 * (i : Int)) + 3 := (wrap_id (by omega) (by omega)).trans (by omega)
    have w4 : IntKind.i64.wrap ((k + 5 * (i : Int)) + 3 + 1) = (k + 5 * (i : Int)) + 4 := (wrap_id (by omega) (by omega)).trans (by omega)
    have w5 : IntKind.i64.wrap ((k + 5 * (i : Int)) + 4 + 1) = k + 5 * ((i + 1 : Nat) : Int) := (wrap_id (by omega) (by omega)).trans (by omega)
    refine ⟨by omega, by rw [marked_len _ _ _ _ hi]; omega, ?_⟩
    conv => whnf
    refine ⟨[c0, c1, c2, c3, c4], marked_get _ _ _ hr, ?_⟩
    conv => whnf
    refine ⟨by omega, (by simp only [List.length_set]; rw [marked_len _ _ _ _ hi]; omega), ?_⟩
    conv => whnf
    refine ⟨[.int .i64 (k + 5 * (i : Int)), c1, c2, c3, c4], by simp only [List.getElem?_set, List.length_set, if_true, Int.toNat_natCast]; rw [if_pos (by rw [marked_len _ _ _ _ hi]; omega)]; rfl, ?_⟩
    conv => whnf
    refine ⟨by omega, (by simp only [List.length_set]; rw [marked_len _ _ _ _ hi]; omega), ?_⟩
    conv => whnf
    refine ⟨[.int .i64 (k + 5 * (i : Int)), .int .i64 (IntKind.i64.wrap (k + 5 * (i : Int) + 1)), c2, c3, c4], by simp only [List.getElem?_set, List.length_set, if_true, Int.toNat_natCast]; rw [if_pos (by rw [marked_len _ _ _ _ hi]; omega)]; rfl, ?_⟩
    conv => whnf
    refine ⟨by omega, (by simp only [List.length_set]; rw [marked_len _ _ _ _ hi]; omega), ?_⟩
    conv => whnf
    refine ⟨[.int .i64 (k + 5 * (i : Int)), .int .i64 (IntKind.i64.wrap (k + 5 * (i : Int) + 1)), .int .i64 (IntKind.i64.wrap (IntKind.i64.wrap (k + 5 * (i : Int) + 1) + 1)), c3, c4], by simp only [List.getElem?_set, List.length_set, if_true, Int.toNat_natCast]; rw [if_pos (by rw [marked_len _ _ _ _ hi]; omega)]; rfl, ?_⟩
    conv => whnf
    refine ⟨by omega, (by simp only [List.length_set]; rw [marked_len _ _ _ _ hi]; omega), ?_⟩
    conv => whnf
    refine ⟨[.int .i64 (k + 5 * (i : Int)), .int .i64 (IntKind.i64.wrap (k + 5 * (i : Int) + 1)), .int .i64 (IntKind.i64.wrap (IntKind.i64.wrap (k + 5 * (i : Int) + 1) + 1)), .int .i64 (IntKind.i64.wrap (IntKind.i64.wrap (IntKind.i64.wrap (k + 5 * (i : Int) + 1) + 1) + 1)), c4], by simp only [List.getElem?_set, List.length_set, if_true, Int.toNat_natCast]; rw [if_pos (by rw [marked_len _ _ _ _ hi]; omega)]; rfl, ?_⟩
    conv => whnf
    refine up_next hlt trivial ⟨weakSl_cons rfl rfl (weakSl_cons (congrArg vi ?_) rfl (weakSl_cons (wrap_succ (by omega)) rfl weakSl_nil)), weakHp_cons (congrArg (Obj.arr fl 5) ?_) rfl weakHp_nil, rfl⟩
    · rw [w1, w2, w3, w4, w5]
    · simp only [List.set_set, Int.toNat_natCast]
      refine marked_set mk5 5 k hlt ?_
      simp only [w1, w2, w3, w4]
      rfl
  have hin : i = rows.length := by rw [hml] at hge; omega
  have hall : marked mk5 5 k rows i = marks mk5 5 k rows.length := by rw [hin]; exact marked_all _ _ _ _
  exact ⟨[(5, .arr fl 5 (marks mk5 5 k rows.length))], ⟨weakHp_cons (congrArg (Obj.arr fl 5) hall) rfl weakHp_nil, rfl, rfl⟩, rfl, by rw [hin]; rfl, rfl⟩
theorem markReqS_ok (id : Nat) (hid : id = 5) (fl : Bool) (rows : List (List D)) (k : Int) (hk : 0 ≤ k) (hk2 : k ≤ 100000000) (hn : rows.length ≤ 1048576) (hrow : ∀ (i : Nat) r, rows[i]? = some r → r.length = 5) : HCalls Try.prog G0 28 (hpOf [(5, .arr fl 5 rows)]) [.own 5, vi k]
    (fun r l => r = vi (k + 5 * (rows.length : Int)) ∧ l = [(5, .arr fl 5 (marks mk5 5 k rows.length))]) := by
  refine hspec tabOk Try.func28 (by kernel_rfl) true [] [] rfl ?_
  conv => whnf
  let P : Nat → Prop := fun i => True
  let I : Nat → SL := fun i => ⟨[(0, .own 5), (1, vi (k + 5 * (i : Int))), (5, vi i)], [(5, .arr fl 5 (marked mk5 5 k rows i))]⟩
  refine loop_up rows.length P I trivial ?_ ?_
  · refine ⟨weakSl_cons rfl rfl (weakSl_cons (congrArg vi (by simp)) rfl (weakSl_cons rfl rfl weakSl_nil)), weakHp_cons (congrArg (Obj.arr fl 5) (by simp [marked, marks])) rfl weakHp_nil, rfl⟩
  intro i hi _
  conv => whnf
  intro _
  have hml := marked_len mk5 5 k rows hi
  refine ⟨fun hlt => ?_, fun hge => ?_⟩ <;> conv => whnf
  · have hlt : i < rows.length := by rw [hml] at hlt; omega
    refine (entsAt hlt).elim fun r hr => ?_
    refine (len5 (hrow i r hr)).elim fun c0 hc => hc.elim fun c1 hc => hc.elim fun c2 hc => hc.elim fun c3 hc => hc.elim fun c4 hc => ?_
    rw [hc] at hr
    have w1 : IntKind.i64.wrap ((k + 5 * (i : Int)) + 1) = (k + 5 * (i : Int)) + 1 := wrap_id (by omega) (by omega)
    have w2 : IntKind.i64.wrap ((k + 5 * (i : Int)) + 1 + 1) = (k + 5 * (i : Int)) + 2 := (wrap_id (by omega) (by omega)).trans (by omega)
    have w3 : IntKind.i64.wrap ((k + 5 * (i : Int)) + 2 + 1) = (k + 5 * (i : Int)) + 3 := (wrap_id (by omega) (by omega)).trans (by omega)
    have w4 : IntKind.i64.wrap ((k + 5 * (i : Int)) + 3 + 1) = (k + 5 * (i : Int)) + 4 := (wrap_id (by omega) (by omega)).trans (by omega)
    have w5 : IntKind.i64.wrap ((k + 5 * (i : Int)) + 4 + 1) = k + 5 * ((i + 1 : Nat) : Int) := (wrap_id (by omega) (by omega)).trans (by omega)
    refine ⟨by omega, by rw [marked_len _ _ _ _ hi]; omega, ?_⟩
    conv => whnf
    refine ⟨[c0, c1, c2, c3, c4], marked_get _ _ _ hr, ?_⟩
    conv => whnf
    refine ⟨by omega, (by simp only [List.length_set]; rw [marked_len _ _ _ _ hi]; omega), ?_⟩
    conv => whnf
    refine ⟨[.int .i64 (k + 5 * (i : Int)), c1, c2, c3, c4], by simp only [List.getElem?_set, List.length_set, if_true, Int.toNat_natCast]; rw [if_pos (by rw [marked_len _ _ _ _ hi]; omega)]; rfl, ?_⟩
    conv => whnf
    refine ⟨by omega, (by simp only [List.length_set]; rw [marked_len _ _ _ _ hi]; omega), ?_⟩
    conv => whnf
    refine ⟨[.int .i64 (k + 5 * (i : Int)), .int .i64 (IntKind.i64.wrap (k + 5 * (i : Int) + 1)), c2, c3, c4], by simp only [List.getElem?_set, List.length_set, if_true, Int.toNat_natCast]; rw [if_pos (by rw [marked_len _ _ _ _ hi]; omega)]; rfl, ?_⟩
    conv => whnf
    refine ⟨by omega, (by simp only [List.length_set]; rw [marked_len _ _ _ _ hi]; omega), ?_⟩
    conv => whnf
    refine ⟨[.int .i64 (k + 5 * (i : Int)), .int .i64 (IntKind.i64.wrap (k + 5 * (i : Int) + 1)), .int .i64 (IntKind.i64.wrap (IntKind.i64.wrap (k + 5 * (i : Int) + 1) + 1)), c3, c4], by simp only [List.getElem?_set, List.length_set, if_true, Int.toNat_natCast]; rw [if_pos (by rw [marked_len _ _ _ _ hi]; omega)]; rfl, ?_⟩
    conv => whnf
    refine ⟨by omega, (by simp only [List.length_set]; rw [marked_len _ _ _ _ hi]; omega), ?_⟩
    conv => whnf
    refine ⟨[.int .i64 (k + 5 * (i : Int)), .int .i64 (IntKind.i64.wrap (k + 5 * (i : Int) + 1)), .int .i64 (IntKind.i64.wrap (IntKind.i64.wrap (k + 5 * (i : Int) + 1) + 1)), .int .i64 (IntKind.i64.wrap (IntKind.i64.wrap (IntKind.i64.wrap (k + 5 * (i : Int) + 1) + 1) + 1)), c4], by simp only [List.getElem?_set, List.length_set, if_true, Int.toNat_natCast]; rw [if_pos (by rw [marked_len _ _ _ _ hi]; omega)]; rfl, ?_⟩
    conv => whnf
    refine up_next hlt trivial ⟨weakSl_cons rfl rfl (weakSl_cons (congrArg vi ?_) rfl (weakSl_cons (wrap_succ (by omega)) rfl weakSl_nil)), weakHp_cons (congrArg (Obj.arr fl 5) ?_) rfl weakHp_nil, rfl⟩
    · rw [w1, w2, w3, w4, w5]
    · simp only [List.set_set, Int.toNat_natCast]
      refine marked_set mk5 5 k hlt ?_
      simp only [w1, w2, w3, w4]
      rfl
  have hin : i = rows.length := by rw [hml] at hge; omega
  have hall : marked mk5 5 k rows i = marks mk5 5 k rows.length := by rw [hin]; exact marked_all _ _ _ _
  exact ⟨[(5, .arr fl 5 (marks mk5 5 k rows.length))], ⟨weakHp_cons (congrArg (Obj.arr fl 5) hall) rfl weakHp_nil, rfl, rfl⟩, rfl, by rw [hin]; rfl, rfl⟩
theorem markIntS_ok (fl : Bool) (rows : List (List D)) (k : Int) (hk : 0 ≤ k) (hk2 : k ≤ 100000000) (hn : rows.length ≤ 1048576) (hrow : ∀ (i : Nat) r, rows[i]? = some r → r.length = 1) : HCalls Try.prog G0 66 (hpOf [(5, .arr fl 1 rows)]) [.own 5, vi k]
    (fun r l => r = vi (k + 1 * (rows.length : Int)) ∧ l = [(5, .arr fl 1 (marks mk1 1 k rows.length))]) := by
  refine hspec tabOk Try.func66 (by kernel_rfl) true [] [] rfl ?_
  conv => whnf
  let P : Nat → Prop := fun i => True
  let I : Nat → SL := fun i => ⟨[(0, .own 5), (1, vi (k + 1 * (i : Int))), (5, vi i)], [(5, .arr fl 1 (marked mk1 1 k rows i))]⟩
  refine loop_up rows.length P I trivial ?_ ?_
  · refine ⟨weakSl_cons rfl rfl (weakSl_cons (congrArg vi (by simp)) rfl (weakSl_cons rfl rfl weakSl_nil)), weakHp_cons (congrArg (Obj.arr fl 1) (by simp [marked, marks])) rfl weakHp_nil, rfl⟩
  intro i hi _
  conv => whnf
  intro _
  have hml := marked_len mk1 1 k rows hi
  refine ⟨fun hlt => ?_, fun hge => ?_⟩ <;> conv => whnf
  · have hlt : i < rows.length := by rw [hml] at hlt; omega
    refine (entsAt hlt).elim fun r hr => ?_
    refine (len1 (hrow i r hr)).elim fun c0 hc => ?_
    rw [hc] at hr
    have w1 : IntKind.i64.wrap (k + 1 * (i : Int) + 1) = k + 1 * ((i + 1 : Nat) : Int) := (wrap_id (by omega) (by omega)).trans (by omega)
    refine ⟨by omega, by rw [marked_len _ _ _ _ hi]; omega, ?_⟩
    conv => whnf
    refine ⟨[c0], marked_get _ _ _ hr, ?_⟩
    conv => whnf
    refine up_next hlt trivial ⟨weakSl_cons rfl rfl (weakSl_cons (congrArg vi ?_) rfl (weakSl_cons (wrap_succ (by omega)) rfl weakSl_nil)), weakHp_cons (congrArg (Obj.arr fl 1) ?_) rfl weakHp_nil, rfl⟩
    · rw [w1]
    · simp only [Int.toNat_natCast]
      exact marked_set mk1 1 k hlt rfl
  have hin : i = rows.length := by rw [hml] at hge; omega
  have hall : marked mk1 1 k rows i = marks mk1 1 k rows.length := by rw [hin]; exact marked_all _ _ _ _
  exact ⟨[(5, .arr fl 1 (marks mk1 1 k rows.length))], ⟨weakHp_cons (congrArg (Obj.arr fl 1) hall) rfl weakHp_nil, rfl, rfl⟩, rfl, by rw [hin]; rfl, rfl⟩
/-- The numbers of objects in a contract of one array do not matter. -/
theorem at_id {P : Program} {G : Nat → V} {f : FuncId} {o o' : Eng.Obj} {k n : Int} {i : Nat} (h : HCalls P G f (hpOf [(i, o)]) [.own i, vi k] (fun r l => r = vi n ∧ l = [(i, o')])) (ho : ∀ ρ, o.ren ρ = o) (ho' : ∀ ρ, o'.ren ρ = o') (d : Nat) :
    HCalls P G f (hpOf [(d, o)]) [.own d, vi k] (fun r l => r = vi n ∧ l = [(d, o')]) := by
  have he : swp i d i = d := by simp [swp]
  have := HCalls.swap (ψ := fun r l => r = vi n ∧ l = [(d, o')]) h i d (fun r l ⟨h1, h2⟩ => by
    subst h1; subst h2
    exact ⟨rfl, by simp only [List.map_cons, List.map_nil, renP, he, ho']⟩)
  simp only [List.map_cons, List.map_nil, renP, he, ho, rens, V.ren] at this
  exact this
theorem markGame_ok (g : Game) (h : Small g) : HCalls Try.prog G0 27 (hpOf (ownG2 g)) [ownV2, vi 1] (fun r l => (∃ k, r = vi k ∧ 0 ≤ k) ∧ ∃ E F L, l = [(5, .arr true 5 E), (8, .arr true 1 F), (11, .arr true 1 L)]) := by
  refine hspec tabOk Try.func27 (by kernel_rfl) true [] [65, 66] rfl ?_
  conv => whnf
  refine hcall_eq (at_id (markEntS_ok 5 rfl true (g.ents.map encEnt) 1 (by omega) (by omega) (by simpa using h.1) (fun i r hi => by simp at hi; obtain ⟨e, _, rfl⟩ := hi; rfl)) (fun _ => rfl) (fun _ => rfl) 5) ⟨rfl, rfl, trivial⟩ rfl ⟨⟨trivial, trivial⟩, ?_⟩
  conv => whnf
  obtain ⟨k1, hk1⟩ : ∃ k1 : Int, k1 = 1 + 5 * ((g.ents.map encEnt).length : Int) := ⟨_, rfl⟩
  have b1 : 0 ≤ k1 ∧ k1 ≤ 5300000 := by have := h.1; simp at hk1; omega
  refine hcall_eq (at_id (markIntS_ok true (g.floor.map encI) (1 + 5 * ((g.ents.map encEnt).length : Int)) (by omega) (by omega) (by simpa using h.2.1) (fun i r hi => by simp at hi; obtain ⟨e, _, rfl⟩ := hi; rfl)) (fun _ => rfl) (fun _ => rfl) 8) ⟨rfl, rfl, trivial⟩ rfl ⟨⟨trivial, trivial⟩, ?_⟩
  conv => whnf
  have b2 : 0 ≤ 1 + 5 * ((g.ents.map encEnt).length : Int) + 1 * ((g.floor.map encI).length : Int) ∧ 1 + 5 * ((g.ents.map encEnt).length : Int) + 1 * ((g.floor.map encI).length : Int) ≤ 6400000 := by have := h.1; have := h.2.1; simp; omega
  refine hcall_eq (at_id (markIntS_ok true (g.last.map encI) _ b2.1 (by omega) (by simpa using h.2.2) (fun i r hi => by simp at hi; obtain ⟨e, _, rfl⟩ := hi; rfl)) (fun _ => rfl) (fun _ => rfl) 11) ⟨rfl, rfl, trivial⟩ rfl ⟨⟨trivial, trivial⟩, ?_⟩
  conv => whnf
  refine ⟨_, ⟨weakHp_cons rfl rfl (weakHp_cons rfl rfl (weakHp_cons rfl rfl weakHp_nil)), rfl, rfl⟩, rfl, ⟨_, rfl, ?_⟩, _, _, _, rfl⟩
  have := h.2.2
  simp at b2 ⊢
  omega
theorem heldReqS_ok (fl : Bool) (n : Nat) (k : Int) (hk : 0 ≤ k) (hk2 : k ≤ 100000000) (hn : n ≤ 1048576) : ACalls Try.prog G0 29 [.d (.slc fl 5 (marks mk5 5 k n)), vi k] (· = vi (k + 5 * (n : Int))) := by
  refine spec_intro tabOk Try.func29 (by kernel_rfl) rfl ?_
  conv => whnf
  let P : Nat → Prop := fun i => True
  let I : Nat → SL := fun i => ⟨[(0, .d (.slc fl 5 (marks mk5 5 k n))), (1, vi (k + 5 * (i : Int))), (5, vi i)], []⟩
  refine loop_up n P I trivial ?_ ?_
  · refine ⟨weakSl_cons rfl rfl (weakSl_cons (congrArg vi (by simp)) rfl (weakSl_cons rfl rfl weakSl_nil)), weakHp_nil, rfl⟩
  intro i hi _
  conv => whnf
  intro _
  have hml := marks_len mk5 5 k n
  refine ⟨fun hlt => ?_, fun hge => ?_⟩ <;> conv => whnf
  · have hlt : i < n := by rw [hml] at hlt; omega
    have w1 : IntKind.i64.wrap ((k + 5 * (i : Int)) + 1) = (k + 5 * (i : Int)) + 1 := wrap_id (by omega) (by omega)
    have w2 : IntKind.i64.wrap ((k + 5 * (i : Int)) + 1 + 1) = (k + 5 * (i : Int)) + 2 := (wrap_id (by omega) (by omega)).trans (by omega)
    have w3 : IntKind.i64.wrap ((k + 5 * (i : Int)) + 2 + 1) = (k + 5 * (i : Int)) + 3 := (wrap_id (by omega) (by omega)).trans (by omega)
    have w4 : IntKind.i64.wrap ((k + 5 * (i : Int)) + 3 + 1) = (k + 5 * (i : Int)) + 4 := (wrap_id (by omega) (by omega)).trans (by omega)
    have w5 : IntKind.i64.wrap ((k + 5 * (i : Int)) + 4 + 1) = k + 5 * ((i + 1 : Nat) : Int) := (wrap_id (by omega) (by omega)).trans (by omega)
    have h0 : (k + 5 * (i : Int) : Int) = k + 5 * (i : Int) := rfl
    have h1 : (k + 5 * (i : Int) + 1 : Int) = IntKind.i64.wrap (k + 5 * (i : Int) + 1) := by simp only [w1, w2, w3, w4]
    have h2 : (k + 5 * (i : Int) + 2 : Int) = IntKind.i64.wrap (IntKind.i64.wrap (k + 5 * (i : Int) + 1) + 1) := by simp only [w1, w2, w3, w4]
    have h3 : (k + 5 * (i : Int) + 3 : Int) = IntKind.i64.wrap (IntKind.i64.wrap (IntKind.i64.wrap (k + 5 * (i : Int) + 1) + 1) + 1) := by simp only [w1, w2, w3, w4]
    have h4 : (k + 5 * (i : Int) + 4 : Int) = IntKind.i64.wrap (IntKind.i64.wrap (IntKind.i64.wrap (IntKind.i64.wrap (k + 5 * (i : Int) + 1) + 1) + 1) + 1) := by simp only [w1, w2, w3, w4]
    refine ⟨by omega, mk5 (k + 5 * (i : Int)), marks_get _ _ _ hlt, ?_⟩
    conv => whnf
    refine ⟨fun hne => absurd (h0) hne, fun _ => ?_⟩
    conv => whnf
    refine ⟨by omega, mk5 (k + 5 * (i : Int)), marks_get _ _ _ hlt, ?_⟩
    conv => whnf
    refine ⟨fun hne => absurd (h1) hne, fun _ => ?_⟩
    conv => whnf
    refine ⟨by omega, mk5 (k + 5 * (i : Int)), marks_get _ _ _ hlt, ?_⟩
    conv => whnf
    refine ⟨fun hne => absurd (h2) hne, fun _ => ?_⟩
    conv => whnf
    refine ⟨by omega, mk5 (k + 5 * (i : Int)), marks_get _ _ _ hlt, ?_⟩
    conv => whnf
    refine ⟨fun hne => absurd (h3) hne, fun _ => ?_⟩
    conv => whnf
    refine ⟨by omega, mk5 (k + 5 * (i : Int)), marks_get _ _ _ hlt, ?_⟩
    conv => whnf
    refine ⟨fun hne => absurd (h4) hne, fun _ => ?_⟩
    conv => whnf
    refine up_next hlt trivial ⟨weakSl_cons rfl rfl (weakSl_cons (congrArg vi ?_) rfl (weakSl_cons (wrap_succ (by omega)) rfl weakSl_nil)), weakHp_nil, rfl⟩
    rw [w1, w2, w3, w4, w5]
  have hin : i = n := by rw [hml] at hge; omega
  rw [hin]; rfl
end Go.Proofs.Ytnnmkenloijkcaa
/- What the program shows to a figure. -/
set_option linter.unusedVariables false
set_option linter.unusedSimpArgs false
set_option maxRecDepth 10000
namespace Go.Proofs.Ytnnmkenloijkcaa
open Go Eng

def cellE (i : Nat) : Ent := ⟨0, (i : Int).tmod 4, (i : Int).tdiv 4, 0, 0⟩
/-- The floor, of which the first places are looked at. -/
def hid (me : Ent) (fl : List Int) : Nat → List Int
  | 0 => fl
  | i + 1 => match nearF me (cellE i) with
    | true => hid me fl i
    | false => (hid me fl i).set i (-1)
theorem hid_len (me : Ent) (fl : List Int) : ∀ i, (hid me fl i).length = fl.length
  | 0 => rfl
  | i + 1 => by
    unfold hid
    split
    · exact hid_len me fl i
    · simp [hid_len me fl i]
def seen (me : Ent) (l : List Ent) : List Ent := l.filter (nearF me)
def seeF (me : Ent) (g : Game) : Game := ⟨seen me g.ents, hid me g.floor g.floor.length, g.last⟩
theorem seen_succ {me : Ent} {l : List Ent} {i : Nat} {e : Ent} (h : l[i]? = some e) : seen me (l.take (i + 1)) = seen me (l.take i) ++ (match nearF me e with | true => [e] | false => []) := by
  rw [List.take_add_one, h]
  simp only [seen, List.filter_append, Option.toList_some]
  cases hb : nearF me e <;> simp [List.filter_cons, hb]

/-- What the first loop holds of what is seen. -/
structure SIn where
  i : Nat
  es : List Ent
structure SInv (g : Game) (me : Ent) (x : SIn) : Prop where
  i : x.i ≤ g.ents.length
  es : x.es = seen me (g.ents.take x.i)
abbrev hp6 (a b c : Bool) (g : Game) (me : Ent) (v : V) (fl : List (List D)) : HP := [(2, .box [.d (dEnts a g.ents), .d (dInts b g.floor), .d (dInts c g.last)]), (4, .box [.d (.slc true 5 []), .d (.slc true 1 []), .d (.slc true 1 [])]), (7, .box [vi me.client, vi me.x, vi me.y, vi me.life, vi me.gold]),
     (8, .box [v, .own 30, .own 33]), (30, .arr true 1 fl), (33, .arr true 1 (g.last.map encI))]
def SI (a b c : Bool) (g : Game) (me : Ent) (x : SIn) : SL :=
  match x.es with
  | [] => ⟨[(2, .ref 2 0 0 0), (4, .ref 4 0 0 0), (7, .ref 7 0 0 0), (8, .ref 8 0 0 0), (36, .d (dEnts a g.ents)), (37, vi (g.ents.map encEnt).length), (38, vi x.i)], hp6 a b c g me (.d (.slc true 5 [])) (g.floor.map encI)⟩
  | r :: rs => ⟨[(2, .ref 2 0 0 0), (4, .ref 4 0 0 0), (7, .ref 7 0 0 0), (8, .ref 8 0 0 0), (36, .d (dEnts a g.ents)), (37, vi (g.ents.map encEnt).length), (38, vi x.i)], hp6 a b c g me (.osl 49 5 ((r :: rs).map encEnt)) (g.floor.map encI) ++ [(49, .grow 5 (rs.length + 1))]⟩

noncomputable def seeI (a b c : Bool) (g : Game) (cl : Int) : V :=
  if okG g = true ∧ 0 ≤ atF g.ents cl then .tup [vGame true true true (seeF (entAt g.ents (atF g.ents cl)) g), vb true]
  else .tup [vGame true true true ⟨[], [], []⟩, vb false]

theorem good_xy {g : Game} (h : Good g) {e : Ent} (he : e ∈ g.ents) : xyOk e := by
  have := h.ent e he
  unfold xyOk; omega
theorem cellE_xy {i : Nat} (h : i < 16) : xyOk (cellE i) := by
  unfold xyOk cellE
  have h1 := Int.tmod_nonneg (4 : Int) (a := (i : Int)) (by omega)
  have h2 := Int.tmod_lt_of_pos (i : Int) (b := 4) (by omega)
  have h3 := Int.tdiv_nonneg (a := (i : Int)) (b := 4) (by omega) (by omega)
  have h4 : (i : Int).tdiv 4 < 4 := by rw [Int.tdiv_eq_ediv_of_nonneg (by omega)]; omega
  dsimp only
  omega

theorem seeOf_ok (a b c : Bool) (g : Game) (cl : Int) : ACalls Try.prog G0 8 [vGame a b c g, vi cl] (· = seeI a b c g cl) := by
  refine spec_own tabOk Try.func8 (by kernel_rfl) [30, 33] [34] rfl ?_
  conv => whnf
  refine call_eq (figure_ok a b c g cl) ?_
  conv => whnf
  have no : ∀ {v : V}, ¬ (okG g = true ∧ 0 ≤ atF g.ents cl) → v = .tup [vGame true true true ⟨[], [], []⟩, vb false] → v = seeI a b c g cl := fun hn hv => by
    rw [hv]; simp only [seeI, if_neg hn]
  refine call_bool (gameOk_ok a b c g) (fun hok => ?_) (fun hok => ?_) <;> conv => whnf
  · refine ⟨fun hat => ?_, fun hat => ?_⟩ <;> conv => whnf
    · exact no (by omega) rfl
    have hyes : okG g = true ∧ 0 ≤ atF g.ents cl := ⟨hok, by omega⟩
    have hyesv : seeI a b c g cl = .tup [vGame true true true (seeF (entAt g.ents (atF g.ents cl)) g), vb true] := by simp only [seeI, if_pos hyes]
    have hok' := of_okG hok
    have hg := ok_good hok'
    have h0 := hyes.2
    have h1 : atF g.ents cl < g.ents.length := by rcases atF_spec g.ents cl with ⟨h, _⟩ | ⟨i, h, hi, _⟩ <;> omega
    have hfl := hg.nfloor
    have hla := hg.nlast
    have hen := good_len hg
    have hme : xyOk (entAt g.ents (atF g.ents cl)) := good_xy hg (entAt_mem (by omega))
    refine ⟨h0, _, entAt_row h0 h1, ?_⟩
    conv => whnf
    refine ⟨.arr true 1 (g.floor.map encI), cloneI_own b g.floor (by rintro h; rw [h] at hfl; simp at hfl) (by omega) 30, ?_⟩
    conv => whnf
    refine ⟨.arr true 1 (g.last.map encI), cloneI_own c g.last (by rintro h; rw [h] at hla; simp at hla) (by omega) 33, ?_⟩
    conv => whnf
    intro hlen
    refine ⟨{ x : SIn // SInv g (entAt g.ents (atF g.ents cl)) x }, fun x => SI a b c g (entAt g.ents (atF g.ents cl)) x.1, fun x => g.ents.length - x.1.i, ⟨⟨0, []⟩, ⟨by simp, by simp [seen]⟩⟩, ?_, ?_⟩
    · refine ⟨?_, ?_, rfl⟩ <;> repeat' (first | exact weakSl_nil | exact weakHp_nil | refine weakSl_cons ?_ rfl ?_ | refine weakHp_cons ?_ rfl ?_)
      all_goals rfl
    rintro ⟨⟨i, es⟩, hinv⟩
    have hi : i ≤ g.ents.length := hinv.i
    have hes : es = seen (entAt g.ents (atF g.ents cl)) (g.ents.take i) := hinv.es
    cases es with
    | nil =>
      conv => whnf
      refine ⟨fun hlt => ?_, fun hge => ?_⟩ <;> conv => whnf
      · have hlt : i < g.ents.length := lt_map hlt
        refine (entsAt hlt).elim fun e he => ?_
        refine ⟨by show (0 : Int) ≤ (i : Int); omega, encEnt e, row_map he, ?_⟩
        conv => whnf
        refine call_bool (nearI_ok (entAt g.ents (atF g.ents cl)) e hme (good_xy hg (List.mem_of_getElem? he))) (fun hn => ?_) (fun hn => ?_) <;> conv => whnf
        · refine ⟨room (by simp) rfl, room' (by simp), ?_⟩
          conv => whnf
          have hinv' : SInv g (entAt g.ents (atF g.ents cl)) ⟨i + 1, [e]⟩ := ⟨hlt, by show [e] = _; rw [seen_succ he, ← hes, hn]; rfl⟩
          exact ⟨⟨⟨i + 1, [e]⟩, hinv'⟩, by show g.ents.length - (i + 1) < g.ents.length - i; omega, ⟨(weakSl_cons rfl rfl (weakSl_cons rfl rfl (weakSl_cons rfl rfl (weakSl_cons rfl rfl (weakSl_cons rfl rfl (weakSl_cons rfl rfl (weakSl_cons (wrap_succ (by omega)) rfl weakSl_nil))))))), (weakHp_cons rfl rfl (weakHp_cons rfl rfl (weakHp_cons rfl rfl (weakHp_cons rfl rfl (weakHp_cons rfl rfl (weakHp_cons rfl rfl (weakHp_cons rfl rfl weakHp_nil))))))), rfl⟩⟩
        · have hinv' : SInv g (entAt g.ents (atF g.ents cl)) ⟨i + 1, []⟩ := ⟨hlt, by show [] = _; rw [seen_succ he, ← hes, hn]; simp⟩
          exact ⟨⟨⟨i + 1, []⟩, hinv'⟩, by show g.ents.length - (i + 1) < g.ents.length - i; omega, ⟨(weakSl_cons rfl rfl (weakSl_cons rfl rfl (weakSl_cons rfl rfl (weakSl_cons rfl rfl (weakSl_cons rfl rfl (weakSl_cons rfl rfl (weakSl_cons (wrap_succ (by omega)) rfl weakSl_nil))))))), (weakHp_cons rfl rfl (weakHp_cons rfl rfl (weakHp_cons rfl rfl (weakHp_cons rfl rfl (weakHp_cons rfl rfl (weakHp_cons rfl rfl weakHp_nil)))))), rfl⟩⟩
      have hin : i = g.ents.length := ge_map hge hi
      have hseen : [] = seen (entAt g.ents (atF g.ents cl)) g.ents := by
        rw [hes, hin, List.take_length]
      intro _
      let P2 : Nat → Prop := fun k => True
      let I2 : Nat → SL := fun k => ⟨[(2, .ref 2 0 0 0), (4, .ref 4 0 0 0), (7, .ref 7 0 0 0), (8, .ref 8 0 0 0), (54, vi (g.floor.map encI).length), (55, vi k)], hp6 a b c g (entAt g.ents (atF g.ents cl)) (.d (.slc true 5 [])) ((hid (entAt g.ents (atF g.ents cl)) g.floor k).map encI)⟩
      refine loop_up g.floor.length P2 I2 trivial ?_ ?_
      · refine ⟨?_, ?_, rfl⟩ <;> repeat' (first | exact weakSl_nil | exact weakHp_nil | refine weakSl_cons ?_ rfl ?_ | refine weakHp_cons ?_ rfl ?_)
        all_goals rfl
      intro k hk _
      conv => whnf
      refine ⟨fun hlt => ?_, fun hge => ?_⟩ <;> conv => whnf
      · have hlt : k < g.floor.length := lt_map hlt
        have w1 : IntKind.i64.wrap ((k : Int).tdiv 4) = (k : Int).tdiv 4 := by
          have := cellE_xy (i := k) (by omega)
          unfold xyOk cellE at this
          exact wrap_id (by dsimp only at this; omega) (by dsimp only at this; omega)
        refine ⟨by omega, ?_⟩
        conv => whnf
        refine ⟨by omega, ?_⟩
        conv => whnf
        refine call_bool' (nearI_ok (entAt g.ents (atF g.ents cl)) (cellE k) hme (cellE_xy (by omega))) (by rw [w1]; rfl) (fun hn => ?_) (fun hn => ?_) <;> conv => whnf
        · have hh : hid (entAt g.ents (atF g.ents cl)) g.floor (k + 1) = hid (entAt g.ents (atF g.ents cl)) g.floor k := by simp only [hid, hn]
          refine up_next hlt trivial ⟨(weakSl_cons rfl rfl (weakSl_cons rfl rfl (weakSl_cons rfl rfl (weakSl_cons rfl rfl (weakSl_cons rfl rfl (weakSl_cons (wrap_succ (by omega)) rfl weakSl_nil)))))), (weakHp_cons rfl rfl (weakHp_cons rfl rfl (weakHp_cons rfl rfl (weakHp_cons rfl rfl (weakHp_cons (congrArg (fun z : List Int => Obj.arr true 1 (z.map encI)) hh.symm) rfl (weakHp_cons rfl rfl weakHp_nil)))))), rfl⟩
        · refine ⟨by omega, by simp [hid_len]; omega, ?_⟩
          conv => whnf
          refine ⟨encI (intAt (hid (entAt g.ents (atF g.ents cl)) g.floor k) k), intAt_row (by omega) (by rw [hid_len]; omega), ?_⟩
          conv => whnf
          have hh : (hid (entAt g.ents (atF g.ents cl)) g.floor k).set k (-1) = hid (entAt g.ents (atF g.ents cl)) g.floor (k + 1) := by simp only [hid, hn]
          have hh2 : Obj.arr true 1 (((hid (entAt g.ents (atF g.ents cl)) g.floor k).map encI).set (k : Int).toNat (encI (-1))) = .arr true 1 ((hid (entAt g.ents (atF g.ents cl)) g.floor (k + 1)).map encI) := by
            rw [← hh]; exact congrArg (Obj.arr true 1) (set_row rfl)
          refine up_next hlt trivial ⟨(weakSl_cons rfl rfl (weakSl_cons rfl rfl (weakSl_cons rfl rfl (weakSl_cons rfl rfl (weakSl_cons rfl rfl (weakSl_cons (wrap_succ (by omega)) rfl weakSl_nil)))))), (weakHp_cons rfl rfl (weakHp_cons rfl rfl (weakHp_cons rfl rfl (weakHp_cons rfl rfl (weakHp_cons hh2 rfl (weakHp_cons rfl rfl weakHp_nil)))))), rfl⟩
      have hkn : k = g.floor.length := ge_map hge hk
      refine call_eq (clipE_ok true []) ?_
      conv => whnf
      refine (?_ : V.tup [_, vb true] = _)
      rw [hyesv]
      refine congrArg (fun v => V.tup [v, vb true]) (vGame_ext ?_ ?_ rfl)
      · show ([] : List Ent).map encEnt = (seen (entAt g.ents (atF g.ents cl)) g.ents).map encEnt
        rw [← hseen]
      · show (hid (entAt g.ents (atF g.ents cl)) g.floor k).map encI = (hid (entAt g.ents (atF g.ents cl)) g.floor g.floor.length).map encI
        rw [hkn]
    | cons r rs =>
      have hrl : rs.length ≤ 4 := by
        have h1 : (r :: rs).length ≤ (g.ents.take i).length := by rw [hes]; exact List.length_filter_le _ _
        simp at h1; omega
      conv => whnf
      refine ⟨fun hlt => ?_, fun hge => ?_⟩ <;> conv => whnf
      · have hlt : i < g.ents.length := lt_map hlt
        refine (entsAt hlt).elim fun e he => ?_
        refine ⟨by show (0 : Int) ≤ (i : Int); omega, encEnt e, row_map he, ?_⟩
        conv => whnf
        refine call_bool (nearI_ok (entAt g.ents (atF g.ents cl)) e hme (good_xy hg (List.mem_of_getElem? he))) (fun hn => ?_) (fun hn => ?_) <;> conv => whnf
        · refine ⟨by simp, room (by simp; omega) rfl, room' (by simp; omega), ?_⟩
          conv => whnf
          have happ : Obj.box [.osl 49 5 ((r :: rs).map encEnt ++ [encEnt e]), .own 30, .own 33] = .box [.osl 49 5 ((r :: (rs ++ [e])).map encEnt), .own 30, .own 33] := by simp
          have hgrow : Obj.grow 5 (((r :: rs).map encEnt).length + 1) = .grow 5 ((rs ++ [e]).length + 1) := by simp
          have hinv' : SInv g (entAt g.ents (atF g.ents cl)) ⟨i + 1, r :: (rs ++ [e])⟩ := ⟨hlt, by show r :: (rs ++ [e]) = _; rw [seen_succ he, ← hes, hn]; rfl⟩
          exact ⟨⟨⟨i + 1, r :: (rs ++ [e])⟩, hinv'⟩, by show g.ents.length - (i + 1) < g.ents.length - i; omega, ⟨(weakSl_cons rfl rfl (weakSl_cons rfl rfl (weakSl_cons rfl rfl (weakSl_cons rfl rfl (weakSl_cons rfl rfl (weakSl_cons rfl rfl (weakSl_cons (wrap_succ (by omega)) rfl weakSl_nil))))))), (weakHp_cons rfl rfl (weakHp_cons rfl rfl (weakHp_cons rfl rfl (weakHp_cons happ rfl (weakHp_cons rfl rfl (weakHp_cons rfl rfl (weakHp_cons hgrow rfl weakHp_nil))))))), rfl⟩⟩
        · have hinv' : SInv g (entAt g.ents (atF g.ents cl)) ⟨i + 1, r :: rs⟩ := ⟨hlt, by show r :: rs = _; rw [seen_succ he, ← hes, hn]; simp⟩
          exact ⟨⟨⟨i + 1, r :: rs⟩, hinv'⟩, by show g.ents.length - (i + 1) < g.ents.length - i; omega, ⟨(weakSl_cons rfl rfl (weakSl_cons rfl rfl (weakSl_cons rfl rfl (weakSl_cons rfl rfl (weakSl_cons rfl rfl (weakSl_cons rfl rfl (weakSl_cons (wrap_succ (by omega)) rfl weakSl_nil))))))), (weakHp_cons rfl rfl (weakHp_cons rfl rfl (weakHp_cons rfl rfl (weakHp_cons rfl rfl (weakHp_cons rfl rfl (weakHp_cons rfl rfl (weakHp_cons rfl rfl weakHp_nil))))))), rfl⟩⟩
      have hin : i = g.ents.length := ge_map hge hi
      have hseen : r :: rs = seen (entAt g.ents (atF g.ents cl)) g.ents := by
        rw [hes, hin, List.take_length]
      intro _
      let P2 : Nat → Prop := fun k => True
      let I2 : Nat → SL := fun k => ⟨[(2, .ref 2 0 0 0), (4, .ref 4 0 0 0), (7, .ref 7 0 0 0), (8, .ref 8 0 0 0), (54, vi (g.floor.map encI).length), (55, vi k)], hp6 a b c g (entAt g.ents (atF g.ents cl)) (.osl 49 5 ((r :: rs).map encEnt)) ((hid (entAt g.ents (atF g.ents cl)) g.floor k).map encI) ++ [(49, .grow 5 (rs.length + 1))]⟩
      refine loop_up g.floor.length P2 I2 trivial ?_ ?_
      · refine ⟨?_, ?_, rfl⟩ <;> repeat' (first | exact weakSl_nil | exact weakHp_nil | refine weakSl_cons ?_ rfl ?_ | refine weakHp_cons ?_ rfl ?_)
        all_goals rfl
      intro k hk _
      conv => whnf
      refine ⟨fun hlt => ?_, fun hge => ?_⟩ <;> conv => whnf
      · have hlt : k < g.floor.length := lt_map hlt
        have w1 : IntKind.i64.wrap ((k : Int).tdiv 4) = (k : Int).tdiv 4 := by
          have := cellE_xy (i := k) (by omega)
          unfold xyOk cellE at this
          exact wrap_id (by dsimp only at this; omega) (by dsimp only at this; omega)
        refine ⟨by omega, ?_⟩
        conv => whnf
        refine ⟨by omega, ?_⟩
        conv => whnf
        refine call_bool' (nearI_ok (entAt g.ents (atF g.ents cl)) (cellE k) hme (cellE_xy (by omega))) (by rw [w1]; rfl) (fun hn => ?_) (fun hn => ?_) <;> conv => whnf
        · have hh : hid (entAt g.ents (atF g.ents cl)) g.floor (k + 1) = hid (entAt g.ents (atF g.ents cl)) g.floor k := by simp only [hid, hn]
          refine up_next hlt trivial ⟨(weakSl_cons rfl rfl (weakSl_cons rfl rfl (weakSl_cons rfl rfl (weakSl_cons rfl rfl (weakSl_cons rfl rfl (weakSl_cons (wrap_succ (by omega)) rfl weakSl_nil)))))), (weakHp_cons rfl rfl (weakHp_cons rfl rfl (weakHp_cons rfl rfl (weakHp_cons rfl rfl (weakHp_cons (congrArg (fun z : List Int => Obj.arr true 1 (z.map encI)) hh.symm) rfl (weakHp_cons rfl rfl (weakHp_cons rfl rfl weakHp_nil))))))), rfl⟩
        · refine ⟨by omega, by simp [hid_len]; omega, ?_⟩
          conv => whnf
          refine ⟨encI (intAt (hid (entAt g.ents (atF g.ents cl)) g.floor k) k), intAt_row (by omega) (by rw [hid_len]; omega), ?_⟩
          conv => whnf
          have hh : (hid (entAt g.ents (atF g.ents cl)) g.floor k).set k (-1) = hid (entAt g.ents (atF g.ents cl)) g.floor (k + 1) := by simp only [hid, hn]
          have hh2 : Obj.arr true 1 (((hid (entAt g.ents (atF g.ents cl)) g.floor k).map encI).set (k : Int).toNat (encI (-1))) = .arr true 1 ((hid (entAt g.ents (atF g.ents cl)) g.floor (k + 1)).map encI) := by
            rw [← hh]; exact congrArg (Obj.arr true 1) (set_row rfl)
          refine up_next hlt trivial ⟨(weakSl_cons rfl rfl (weakSl_cons rfl rfl (weakSl_cons rfl rfl (weakSl_cons rfl rfl (weakSl_cons rfl rfl (weakSl_cons (wrap_succ (by omega)) rfl weakSl_nil)))))), (weakHp_cons rfl rfl (weakHp_cons rfl rfl (weakHp_cons rfl rfl (weakHp_cons rfl rfl (weakHp_cons hh2 rfl (weakHp_cons rfl rfl (weakHp_cons rfl rfl weakHp_nil))))))), rfl⟩
      have hkn : k = g.floor.length := ge_map hge hk
      refine call_eq (clipE_ok false ((r :: rs).map encEnt)) ?_
      conv => whnf
      refine (?_ : V.tup [_, vb true] = _)
      rw [hyesv]
      refine congrArg (fun v => V.tup [v, vb true]) (vGame_ext ?_ ?_ rfl)
      · show (r :: rs : List Ent).map encEnt = (seen (entAt g.ents (atF g.ents cl)) g.ents).map encEnt
        rw [← hseen]
      · show (hid (entAt g.ents (atF g.ents cl)) g.floor k).map encI = (hid (entAt g.ents (atF g.ents cl)) g.floor g.floor.length).map encI
        rw [hkn]
  · exact no (by simp [hok]) rfl
end Go.Proofs.Ytnnmkenloijkcaa
/- What the program's act of a figure computes, given what slices.Insert and slices.Delete do. -/
set_option linter.unusedVariables false
set_option linter.unusedSimpArgs false
set_option maxRecDepth 10000
namespace Go.Proofs.Ytnnmkenloijkcaa
open Go Eng

def InsOk : Prop := ∀ (l : List Ent) (k : Nat) (e : Ent), k ≤ l.length → l.length ≤ 4 → HCalls Try.prog G0 76 (hpOf [(5, .arr true 5 (l.map encEnt))]) [.own 5, vi k, .d (.slc true 5 [encEnt e])]
  (fun r m => r = .d (.slc false 5 ((l.take k ++ [e] ++ l.drop k).map encEnt)) ∧ m = [(5, .dead)])
def DelOk : Prop := ∀ (l : List Ent) (k : Int), 0 ≤ k → k < l.length → l.length ≤ 4 → HCalls Try.prog G0 78 (hpOf [(5, .arr true 5 (l.map encEnt))]) [.own 5, vi k, vi (k + 1)]
  (fun r m => r = .d (.slc false 5 ((l.take k.toNat ++ l.drop (k.toNat + 1)).map encEnt)) ∧ m = [(5, .dead)])

/-- What an ask does to a game, behind its number's being noted. -/
def stepV (y : GV) (r : Req) : GV × Int :=
  if r.op = 1 then
    if 0 ≤ atF y.g.ents r.client then (y, 4) else (⟨false, y.b, y.c, ⟨joinF y.g.ents r.client, y.g.floor, y.g.last⟩⟩, 0)
  else if atF y.g.ents r.client < 0 then (y, 5)
  else actV y (atF y.g.ents r.client) r
abbrev actHP (v : V) (o : Eng.Obj) (F L : List (List D)) : HP := [(6, .box [v, .own 8, .own 11]), (5, o), (8, .arr true 1 F), (11, .arr true 1 L)]
def ActL (g : Game) (l : HP) : Prop :=
  l = actHP (.own 5) (.arr true 5 (g.ents.map encEnt)) (g.floor.map encI) (g.last.map encI) ∨
  l = actHP (.d (.slc true 5 (g.ents.map encEnt))) .dead (g.floor.map encI) (g.last.map encI)

theorem set2 {l : List Ent} {i : Nat} {e : Ent} {q r : List D} (hr : r = encEnt e) : ((l.map encEnt).set i q).set i r = (l.set i e).map encEnt := by
  rw [List.set_set]; exact set_row hr
theorem hcall_eq' {P : Program} {G : Nat → V} {f : FuncId} {hin : HP} {args args' : List V} {R : V} {L : HP} (h : HCalls P G f (hpOf hin) args (fun r l => r = R ∧ l = L)) (e : args' = args) {s : St} (hw : weakHp s (hin.map (·.1)) hin) (ha : okVs (hin.map (·.1)) args' = true) {K : HP → V → HP → Prop}
    (k : K hin R L) : ∃ hin φ, HCalls P G f (hpOf hin) args' φ ∧ weakHp s (hin.map (·.1)) hin ∧ okVs (hin.map (·.1)) args' = true ∧ ∀ r l, φ r l → K hin r l := by subst e; exact hcall_eq h hw ha k
theorem set_swap {l : List Ent} {i j : Nat} {e f : Ent} {q r : List D} (hij : i ≠ j) (hq : q = encEnt e) (hr : r = encEnt f) : ((l.map encEnt).set i q).set j r = ((l.set j f).set i e).map encEnt := by
  subst hq; subst hr; rw [List.set_comm _ _ hij]; simp only [List.map_set]
theorem entAt_other {l : List Ent} {k n : Int} {e : Ent} (h : k.toNat ≠ n.toNat) : entAt (setEnt l k e) n = entAt l n := by
  simp only [entAt, setEnt]; rw [List.getElem?_set_ne h]
theorem entAt_same {l : List Ent} {n : Int} {e : Ent} (h : n.toNat < l.length) : entAt (setEnt l n e) n = e := by
  simp [entAt, setEnt, h]
/-- A call in a drawing region that is given an array, and uses it up. -/
theorem drawn_own {P : Program} {G : Nat → V} {f : FuncId} {id : Nat} {o : Eng.Obj} {args : List V} {R : V} (h : HCalls P G f (hpOf [(id, o)]) args (fun r m => r = R ∧ m = [(id, .dead)])) {K : V → Prop}
    (k : K R) : ∃ r, HCalls P G f (hpOf [(id, o)]) args (fun r' l => r' = r ∧ l = [(id, .dead)]) ∧ K r := ⟨R, h, k⟩
/-- A call in a drawing region that reads objects. -/
theorem drawn_ro {P : Program} {G : Nat → V} {f : FuncId} {hin : HP} {args : List V} {R : V} (h : HCalls P G f (hpOf hin) args (fun r m => r = R ∧ m = hin)) {K : HP → V → Prop}
    (k : K hin R) : ∃ hin r, HCalls P G f (hpOf hin) args (fun r' l => r' = r ∧ l = hin) ∧ K hin r := ⟨hin, R, h, k⟩

theorem actI_ok (hI : InsOk) (hD : DelOk) (g : Game) (r : Req) (hg : Good g) (hr : okR r = true) : HCalls Try.prog G0 49 (hpOf (actHP (.own 5) (.arr true 5 (g.ents.map encEnt)) (g.floor.map encI) (g.last.map encI))) [.ref 6 0 0 0, vReq r]
    (fun q l => q = vi (stepV ⟨true, true, true, g⟩ r).2 ∧ ActL (stepV ⟨true, true, true, g⟩ r).1.g l) := by
  refine hspec_ro tabOk Try.func49 (by kernel_rfl) false [] [76, 77, 78] [77] rfl ?_
  conv => whnf
  have hlen := good_len hg
  have hfl := hg.nfloor
  have hcl := okR_client hr
  refine drawn_eq (figure_ok true true true g r.client) ?_
  conv => whnf
  have fin : ∀ (s : St) (code : Int) (g' : Game), (stepV ⟨true, true, true, g⟩ r).2 = code → (stepV ⟨true, true, true, g⟩ r).1.g = g' → s.hp 6 = .box [.own 5, .own 8, .own 11] → (∃ E, s.hp 5 = .arr true 5 E ∧ E = g'.ents.map encEnt) → (∃ F, s.hp 8 = .arr true 1 F ∧ F = g'.floor.map encI) → s.hp 11 = .arr true 1 (g'.last.map encI) →
      ∃ l, HRest s [6, 5, 8, 11] l ∧ vi code = vi (stepV ⟨true, true, true, g⟩ r).2 ∧ ActL (stepV ⟨true, true, true, g⟩ r).1.g l := fun s code g' h1 h2 h6 h5 h8 h11 => by
    obtain ⟨E, h5, rfl⟩ := h5
    obtain ⟨F, h8, rfl⟩ := h8
    refine ⟨_, ⟨weakHp_cons h6 rfl (weakHp_cons h5 rfl (weakHp_cons h8 rfl (weakHp_cons h11 rfl weakHp_nil))), rfl, rfl⟩, congrArg vi h1.symm, .inl (by rw [h2])⟩
  have fin2 : ∀ (s : St) (code : Int) (g' : Game) (E : List (List D)), (stepV ⟨true, true, true, g⟩ r).2 = code → (stepV ⟨true, true, true, g⟩ r).1.g = g' → E = g'.ents.map encEnt → s.hp 6 = .box [.d (.slc true 5 E), .own 8, .own 11] → s.hp 5 = .dead → (∃ F, s.hp 8 = .arr true 1 F ∧ F = g'.floor.map encI) → s.hp 11 = .arr true 1 (g'.last.map encI) →
      ∃ l, HRest s [6, 5, 8, 11] l ∧ vi code = vi (stepV ⟨true, true, true, g⟩ r).2 ∧ ActL (stepV ⟨true, true, true, g⟩ r).1.g l := fun s code g' E h1 h2 hE h6 h5 h8 h11 => by
    subst hE
    obtain ⟨F, h8, rfl⟩ := h8
    refine ⟨_, ⟨weakHp_cons h6 rfl (weakHp_cons h5 rfl (weakHp_cons h8 rfl (weakHp_cons h11 rfl weakHp_nil))), rfl, rfl⟩, congrArg vi h1.symm, .inr (by rw [h2])⟩
  refine ⟨fun o1 => ?_, fun o1 => ?_⟩ <;> conv => whnf
  · refine ⟨fun hat => ?_, fun hat => ?_⟩ <;> conv => whnf
    · refine fin _ 4 g ?_ ?_ ?_ ?_ ?_ ?_
      · simp only [stepV, if_pos o1, if_pos hat]
      · simp only [stepV, if_pos o1, if_pos hat]
      all_goals first | rfl | exact ⟨_, rfl, rfl⟩
    have hs : stepV ⟨true, true, true, g⟩ r = (⟨false, true, true, ⟨joinF g.ents r.client, g.floor, g.last⟩⟩, 0) := by simp only [stepV, if_pos o1, if_neg hat]
    let P : Nat → Prop := fun i => ∀ (j : Nat) e, j < i → g.ents[j]? = some e → e.client < r.client
    let I : Nat → SL := fun i => ⟨[(0, .ref 6 0 0 0), (3, .ref 3 0 0 0), (6, vi i)], actHP (.own 5) (.arr true 5 (g.ents.map encEnt)) (g.floor.map encI) (g.last.map encI) ++ [(3, .box [vi r.client, vi r.num, vi r.op, vi r.x, vi r.y])]⟩
    refine loop_up g.ents.length P I (by intro j e h; omega) ?_ ?_
    · refine ⟨?_, ?_, rfl⟩ <;> repeat' (first | exact weakSl_nil | exact weakHp_nil | refine weakSl_cons ?_ rfl ?_ | refine weakHp_cons ?_ rfl ?_)
      all_goals rfl
    intro i hi hP
    conv => whnf
    have wc : IntKind.i64.wrap (r.client - 1) = r.client - 1 := wrap_id (by omega) (by omega)
    have clean : under g.ents r.client = i → (g.ents.take i ++ [(⟨r.client, IntKind.i64.wrap (r.client - 1), IntKind.i64.wrap (r.client - 1), 3, 0⟩ : Ent)] ++ g.ents.drop i).map encEnt = (joinF g.ents r.client).map encEnt := fun hu => by
      rw [wc]; simp only [joinF, hu]
    refine ⟨fun hlt => ?_, fun hge => ?_⟩ <;> conv => whnf
    · have hlt := lt_map hlt
      refine (entsAt hlt).elim fun e he => ?_
      refine ⟨by omega, by simp; omega, ?_⟩
      conv => whnf
      refine ⟨encEnt e, row_map he, ?_⟩
      conv => whnf
      refine ⟨fun h => ?_, fun h => ?_⟩ <;> conv => whnf
      · exact up_next hlt (fun j y hj hy => by
          by_cases hji : j = i
          · subst hji; rw [he] at hy; injection hy with hy; subst hy; exact h
          · exact hP j y (by omega) hy) ⟨weakSl_cons rfl rfl (weakSl_cons rfl rfl (weakSl_cons (wrap_succ (by omega)) rfl weakSl_nil)), weakHp_cons rfl rfl (weakHp_cons rfl rfl (weakHp_cons rfl rfl (weakHp_cons rfl rfl (weakHp_cons rfl rfl weakHp_nil)))), rfl⟩
      · have hu : under g.ents r.client = i := under_spec hi hP fun y hy => by rw [he] at hy; injection hy with hy; subst hy; exact h
        refine drawn_own (hI g.ents i ⟨r.client, IntKind.i64.wrap (r.client - 1), IntKind.i64.wrap (r.client - 1), 3, 0⟩ hi hlen) ?_
        conv => whnf
        refine drawn_eq (cloneE_pure false _ (by simp; omega)) ?_
        conv => whnf
        refine fin2 _ 0 ⟨joinF g.ents r.client, g.floor, g.last⟩ _ ?_ ?_ (clean hu) ?_ ?_ ?_ ?_
        · rw [hs]
        · rw [hs]
        all_goals first | rfl | exact ⟨_, rfl, rfl⟩
    · have hin := ge_map hge hi
      have hu : under g.ents r.client = i := under_spec hi hP fun y hy => absurd (List.getElem?_eq_some_iff.1 hy).1 (by omega)
      refine drawn_own (hI g.ents i ⟨r.client, IntKind.i64.wrap (r.client - 1), IntKind.i64.wrap (r.client - 1), 3, 0⟩ hi hlen) ?_
      conv => whnf
      refine drawn_eq (cloneE_pure false _ (by simp; omega)) ?_
      conv => whnf
      refine fin2 _ 0 ⟨joinF g.ents r.client, g.floor, g.last⟩ _ ?_ ?_ (clean hu) ?_ ?_ ?_ ?_
      · rw [hs]
      · rw [hs]
      all_goals first | rfl | exact ⟨_, rfl, rfl⟩
  refine ⟨fun hat => ?_, fun hat => ?_⟩ <;> conv => whnf
  · refine fin _ 5 g ?_ ?_ ?_ ?_ ?_ ?_
    · simp only [stepV, if_neg o1, if_pos hat]
    · simp only [stepV, if_neg o1, if_pos hat]
    all_goals first | rfl | exact ⟨_, rfl, rfl⟩
  have hstep : stepV ⟨true, true, true, g⟩ r = actV ⟨true, true, true, g⟩ (atF g.ents r.client) r := by simp only [stepV, if_neg o1, if_neg hat]
  have h0 : 0 ≤ atF g.ents r.client := by omega
  have h1 : atF g.ents r.client < g.ents.length := by rcases atF_spec g.ents r.client with ⟨h, _⟩ | ⟨i, h, hi, _⟩ <;> omega
  have hkk : (atF g.ents r.client).toNat < g.ents.length := by omega
  have he := (good_fit hg).at h0 h1
  have hxy : xyOk (entAt g.ents (atF g.ents r.client)) := good_xy hg (entAt_mem hkk)
  have hrx : -4 ≤ r.x ∧ r.x ≤ 4 ∧ -9 ≤ r.y ∧ r.y ≤ 9 := by
    unfold okR at hr
    simp only [Bool.and_eq_true] at hr
    have h := hr.2.2
    split at h
    · simp at h; omega
    · split at h
      · simp only [Bool.and_eq_true, inB_t] at h; omega
      · split at h
        · simp only [Bool.and_eq_true, inB_t, decide_eq_true_eq] at h; omega
        · split at h
          · simp only [Bool.and_eq_true, inB_t] at h; omega
          · simp at h
  refine ⟨h0, by simp; omega, ?_⟩
  conv => whnf
  refine ⟨fun o2 => ?_, fun o2 => ?_⟩ <;> conv => whnf
  · have wx : IntKind.i64.wrap ((entAt g.ents (atF g.ents r.client)).x + r.x) = (entAt g.ents (atF g.ents r.client)).x + r.x := wrap_id (by omega) (by omega)
    have wy : IntKind.i64.wrap ((entAt g.ents (atF g.ents r.client)).y + r.y) = (entAt g.ents (atF g.ents r.client)).y + r.y := wrap_id (by omega) (by omega)
    refine ⟨encEnt (entAt g.ents (atF g.ents r.client)), entAt_row h0 h1, ?_⟩
    conv => whnf
    refine ⟨encEnt (entAt g.ents (atF g.ents r.client)), entAt_row h0 h1, ?_⟩
    conv => whnf
    refine drawn_bool (board_ok _ _) (fun hb => ?_) (fun hb => ?_) <;> conv => whnf
    · rw [wx, wy] at hb
      unfold boardB at hb
      simp only [Bool.and_eq_true] at hb
      have ha : stepV ⟨true, true, true, g⟩ r = (⟨false, true, true, ⟨setEnt g.ents (atF g.ents r.client) { entAt g.ents (atF g.ents r.client) with x := (entAt g.ents (atF g.ents r.client)).x + r.x, y := (entAt g.ents (atF g.ents r.client)).y + r.y }, g.floor, g.last⟩⟩, 0) := by
        rw [hstep]; simp only [actV, if_pos o2, hb.1, hb.2, Bool.true_eq_false, or_self, if_false]
      refine ⟨encEnt (entAt g.ents (atF g.ents r.client)), entAt_row h0 h1, ?_⟩
      conv => whnf
      refine ⟨encEnt (entAt g.ents (atF g.ents r.client)), entAt_row h0 h1, ?_⟩
      conv => whnf
      refine ⟨encEnt { entAt g.ents (atF g.ents r.client) with x := (entAt g.ents (atF g.ents r.client)).x + r.x }, by rw [wx]; exact set_get rfl hkk, ?_⟩
      conv => whnf
      refine ⟨encEnt { entAt g.ents (atF g.ents r.client) with x := (entAt g.ents (atF g.ents r.client)).x + r.x }, by rw [wx]; exact set_get rfl hkk, ?_⟩
      conv => whnf
      refine fin _ 0 ⟨setEnt g.ents (atF g.ents r.client) { entAt g.ents (atF g.ents r.client) with x := (entAt g.ents (atF g.ents r.client)).x + r.x, y := (entAt g.ents (atF g.ents r.client)).y + r.y }, g.floor, g.last⟩ (by rw [ha]) (by rw [ha]) ?_ ⟨_, rfl, by rw [wy]; exact set2 rfl⟩ ⟨_, rfl, rfl⟩ ?_ <;> rfl
    · rw [wx, wy] at hb
      have ha : stepV ⟨true, true, true, g⟩ r = (⟨true, true, true, g⟩, 6) := by
        rw [hstep]
        have hor : inB ((entAt g.ents (atF g.ents r.client)).x + r.x) 0 3 = false ∨ inB ((entAt g.ents (atF g.ents r.client)).y + r.y) 0 3 = false := by
          unfold boardB at hb
          exact Bool.and_eq_false_iff.1 hb
        simp only [actV, if_pos o2, if_pos hor]
      refine fin _ 6 g (by rw [ha]) (by rw [ha]) ?_ ⟨_, rfl, rfl⟩ ⟨_, rfl, rfl⟩ ?_ <;> rfl
  refine ⟨fun o3 => ?_, fun o3 => ?_⟩ <;> conv => whnf
  · have ha4 : 0 ≤ at4 (entAt g.ents (atF g.ents r.client)) ∧ at4 (entAt g.ents (atF g.ents r.client)) < 16 := by unfold at4; omega
    have hF := (good_fit hg).floor ha4.1 ha4.2
    refine ⟨encEnt (entAt g.ents (atF g.ents r.client)), entAt_row h0 h1, ?_⟩
    conv => whnf
    refine drawn_ro (square_ok (g.ents.map encEnt) (g.floor.map encI) (g.last.map encI) (entAt g.ents (atF g.ents r.client)) hxy (by simp [hfl])) ⟨⟨rfl, rfl, rfl, rfl, rfl, rfl, trivial⟩, rfl, rfl, rfl, ?_⟩
    conv => whnf
    refine ⟨encI (intAt g.floor (at4 (entAt g.ents (atF g.ents r.client)))), intAt_row ha4.1 (by omega), ?_⟩
    conv => whnf
    refine ⟨fun hz => ?_, fun hz => ?_⟩ <;> conv => whnf
    · have ha : stepV ⟨true, true, true, g⟩ r = (⟨true, true, true, g⟩, 7) := by
        rw [hstep]; simp only [actV, if_neg o2, if_pos o3, if_pos hz]
      refine fin _ 7 g (by rw [ha]) (by rw [ha]) ?_ ⟨_, rfl, rfl⟩ ⟨_, rfl, rfl⟩ ?_ <;> rfl
    have ha : stepV ⟨true, true, true, g⟩ r = (⟨false, false, true, ⟨setEnt g.ents (atF g.ents r.client) { entAt g.ents (atF g.ents r.client) with gold := (entAt g.ents (atF g.ents r.client)).gold + 1 }, addAt g.floor (at4 (entAt g.ents (atF g.ents r.client))) (-1), g.last⟩⟩, 0) := by
      rw [hstep]; simp only [actV, if_neg o2, if_pos o3, if_neg hz]
    have w1 : IntKind.i64.wrap (intAt g.floor (at4 (entAt g.ents (atF g.ents r.client))) - 1) = intAt g.floor (at4 (entAt g.ents (atF g.ents r.client))) - 1 := wrap_id (by omega) (by omega)
    have w2 : IntKind.i64.wrap ((entAt g.ents (atF g.ents r.client)).gold + 1) = (entAt g.ents (atF g.ents r.client)).gold + 1 := wrap_id (by omega) (by omega)
    refine ⟨encI (intAt g.floor (at4 (entAt g.ents (atF g.ents r.client)))), intAt_row ha4.1 (by omega), ?_⟩
    conv => whnf
    refine ⟨encI (intAt g.floor (at4 (entAt g.ents (atF g.ents r.client)))), intAt_row ha4.1 (by omega), ?_⟩
    conv => whnf
    refine ⟨encEnt (entAt g.ents (atF g.ents r.client)), entAt_row h0 h1, ?_⟩
    conv => whnf
    refine ⟨encEnt (entAt g.ents (atF g.ents r.client)), entAt_row h0 h1, ?_⟩
    conv => whnf
    refine fin _ 0 _ (by rw [ha]) (by rw [ha]) ?_ ⟨_, rfl, by rw [w2]; exact set_row rfl⟩ ⟨_, rfl, by rw [w1]; exact set_row rfl⟩ ?_ <;> rfl
  refine drawn_eq (figure_ok true true true g r.x) ?_
  conv => whnf
  have far : ∀ (s : St), (atF g.ents r.x < 0 ∨ atF g.ents r.x = atF g.ents r.client ∨ nearF (entAt g.ents (atF g.ents r.client)) (entAt g.ents (atF g.ents r.x)) = false) → s.hp 6 = .box [.own 5, .own 8, .own 11] → (∃ E, s.hp 5 = .arr true 5 E ∧ E = g.ents.map encEnt) → (∃ F, s.hp 8 = .arr true 1 F ∧ F = g.floor.map encI) → s.hp 11 = .arr true 1 (g.last.map encI) →
      ∃ l, HRest s [6, 5, 8, 11] l ∧ vi 8 = vi (stepV ⟨true, true, true, g⟩ r).2 ∧ ActL (stepV ⟨true, true, true, g⟩ r).1.g l := fun s hc h6 h5 h8 h11 => by
    have ha : stepV ⟨true, true, true, g⟩ r = (⟨true, true, true, g⟩, 8) := by
      rw [hstep]
      by_cases o4 : r.op = 4
      · simp only [actV, if_neg o2, if_neg o3, if_pos o4, hitV, if_pos hc]
      · simp only [actV, if_neg o2, if_neg o3, if_neg o4, if_pos hc]
    exact fin s 8 g (by rw [ha]) (by rw [ha]) h6 h5 h8 h11
  refine ⟨fun hn => ?_, fun hn => ?_⟩ <;> conv => whnf
  · refine far _ (.inl hn) ?_ ⟨_, rfl, rfl⟩ ⟨_, rfl, rfl⟩ ?_ <;> rfl
  refine ⟨fun hk => ?_, fun hk => ?_⟩ <;> conv => whnf
  · refine far _ (.inr (.inl hk)) ?_ ⟨_, rfl, rfl⟩ ⟨_, rfl, rfl⟩ ?_ <;> rfl
  have n0 : 0 ≤ atF g.ents r.x := by omega
  have n1 : atF g.ents r.x < g.ents.length := by rcases atF_spec g.ents r.x with ⟨h, _⟩ | ⟨i, h, hi, _⟩ <;> omega
  have hnn : (atF g.ents r.x).toNat < g.ents.length := by omega
  have hne : (atF g.ents r.client).toNat ≠ (atF g.ents r.x).toNat := by omega
  have hen := (good_fit hg).at n0 n1
  have hln := (good_life hg).at n0 n1
  have hnxy : xyOk (entAt g.ents (atF g.ents r.x)) := good_xy hg (entAt_mem hnn)
  refine ⟨encEnt (entAt g.ents (atF g.ents r.client)), entAt_row h0 h1, ?_⟩
  conv => whnf
  refine ⟨n0, by simp; omega, ?_⟩
  conv => whnf
  refine ⟨encEnt (entAt g.ents (atF g.ents r.x)), entAt_row n0 n1, ?_⟩
  conv => whnf
  refine drawn_bool (nearI_ok (entAt g.ents (atF g.ents r.client)) (entAt g.ents (atF g.ents r.x)) hxy hnxy) (fun hnear => ?_) (fun hnear => ?_) <;> conv => whnf
  · have nf : ¬ (atF g.ents r.x < 0 ∨ atF g.ents r.x = atF g.ents r.client ∨ nearF (entAt g.ents (atF g.ents r.client)) (entAt g.ents (atF g.ents r.x)) = false) := by
      rw [hnear]; simp; exact ⟨n0, hk⟩
    refine ⟨n0, by simp; omega, ?_⟩
    conv => whnf
    refine ⟨fun o5 => ?_, fun o5 => ?_⟩ <;> conv => whnf
    · have o4 : ¬ r.op = 4 := by omega
      refine ⟨encEnt (entAt g.ents (atF g.ents r.client)), entAt_row h0 h1, ?_⟩
      conv => whnf
      refine ⟨fun hp => ?_, fun hp => ?_⟩ <;> conv => whnf
      · have ha : stepV ⟨true, true, true, g⟩ r = (⟨true, true, true, g⟩, 7) := by
          rw [hstep]; simp only [actV, if_neg o2, if_neg o3, if_neg o4, if_neg nf, if_pos hp]
        refine fin _ 7 g (by rw [ha]) (by rw [ha]) ?_ ⟨_, rfl, rfl⟩ ⟨_, rfl, rfl⟩ ?_ <;> rfl
      have ha : stepV ⟨true, true, true, g⟩ r = (⟨false, true, true, ⟨setEnt (setEnt g.ents (atF g.ents r.x) { entAt g.ents (atF g.ents r.x) with gold := (entAt g.ents (atF g.ents r.x)).gold + r.y }) (atF g.ents r.client) { entAt g.ents (atF g.ents r.client) with gold := (entAt g.ents (atF g.ents r.client)).gold - r.y }, g.floor, g.last⟩⟩, 0) := by
        rw [hstep]; simp only [actV, if_neg o2, if_neg o3, if_neg o4, if_neg nf, if_neg hp]
      have w1 : IntKind.i64.wrap ((entAt g.ents (atF g.ents r.client)).gold - r.y) = (entAt g.ents (atF g.ents r.client)).gold - r.y := wrap_id (by omega) (by omega)
      have w2 : IntKind.i64.wrap ((entAt g.ents (atF g.ents r.x)).gold + r.y) = (entAt g.ents (atF g.ents r.x)).gold + r.y := wrap_id (by omega) (by omega)
      refine ⟨encEnt (entAt g.ents (atF g.ents r.client)), entAt_row h0 h1, ?_⟩
      conv => whnf
      refine ⟨encEnt (entAt g.ents (atF g.ents r.client)), entAt_row h0 h1, ?_⟩
      conv => whnf
      have hrow : ∀ q : List D, ((g.ents.map encEnt).set (atF g.ents r.client).toNat q)[(atF g.ents r.x).toNat]? = some (encEnt (entAt g.ents (atF g.ents r.x))) := fun q => by
        rw [List.getElem?_set_ne hne]; exact entAt_row n0 n1
      refine ⟨encEnt (entAt g.ents (atF g.ents r.x)), hrow _, ?_⟩
      conv => whnf
      refine ⟨encEnt (entAt g.ents (atF g.ents r.x)), hrow _, ?_⟩
      conv => whnf
      refine fin _ 0 ⟨setEnt (setEnt g.ents (atF g.ents r.x) { entAt g.ents (atF g.ents r.x) with gold := (entAt g.ents (atF g.ents r.x)).gold + r.y }) (atF g.ents r.client) { entAt g.ents (atF g.ents r.client) with gold := (entAt g.ents (atF g.ents r.client)).gold - r.y }, g.floor, g.last⟩ (by rw [ha]) (by rw [ha]) ?_ ⟨_, rfl, by rw [w1, w2]; exact set_swap hne rfl rfl⟩ ⟨_, rfl, rfl⟩ ?_ <;> rfl
    have o4 : r.op = 4 := by
      have h := hr
      unfold okR at h
      simp only [Bool.and_eq_true] at h
      have h := h.2.2
      rw [if_neg (by omega), if_neg o2] at h
      split at h
      · assumption
      · simp at h
    have wl : IntKind.i64.wrap ((entAt g.ents (atF g.ents r.x)).life - 1) = (entAt g.ents (atF g.ents r.x)).life - 1 := wrap_id (by omega) (by omega)
    refine ⟨encEnt (entAt g.ents (atF g.ents r.x)), entAt_row n0 n1, ?_⟩
    conv => whnf
    refine ⟨encEnt (entAt g.ents (atF g.ents r.x)), entAt_row n0 n1, ?_⟩
    conv => whnf
    have hrow : ((g.ents.map encEnt).set (atF g.ents r.x).toNat (encEnt { entAt g.ents (atF g.ents r.x) with life := IntKind.i64.wrap ((entAt g.ents (atF g.ents r.x)).life - 1) }))[(atF g.ents r.x).toNat]? = some (encEnt { entAt g.ents (atF g.ents r.x) with life := (entAt g.ents (atF g.ents r.x)).life - 1 }) := by
      rw [wl]; exact set_get rfl hnn
    refine ⟨encEnt { entAt g.ents (atF g.ents r.x) with life := (entAt g.ents (atF g.ents r.x)).life - 1 }, hrow, ?_⟩
    conv => whnf
    have hset : (g.ents.map encEnt).set (atF g.ents r.x).toNat (encEnt { entAt g.ents (atF g.ents r.x) with life := IntKind.i64.wrap ((entAt g.ents (atF g.ents r.x)).life - 1) }) = (hurt g.ents (atF g.ents r.x)).map encEnt := by
      rw [wl]; exact set_row rfl
    refine ⟨fun hz => ?_, fun hz => ?_⟩ <;> conv => whnf
    · have ha4 : 0 ≤ at4 (entAt g.ents (atF g.ents r.x)) ∧ at4 (entAt g.ents (atF g.ents r.x)) < 16 := by unfold at4; omega
      have hF := (good_fit hg).floor ha4.1 ha4.2
      have hsame : entAt (hurt g.ents (atF g.ents r.x)) (atF g.ents r.x) = { entAt g.ents (atF g.ents r.x) with life := (entAt g.ents (atF g.ents r.x)).life - 1 } := entAt_same hnn
      have ha : stepV ⟨true, true, true, g⟩ r = (⟨false, false, true, ⟨(hurt g.ents (atF g.ents r.x)).take (atF g.ents r.x).toNat ++ (hurt g.ents (atF g.ents r.x)).drop ((atF g.ents r.x).toNat + 1), addAt g.floor (at4 (entAt g.ents (atF g.ents r.x))) (entAt g.ents (atF g.ents r.x)).gold, g.last⟩⟩, 0) := by
        rw [hstep]
        simp only [actV, if_neg o2, if_neg o3, if_pos o4, hitV, if_neg nf, if_pos hz, dropV, hsame]
        rfl
      refine ⟨encEnt { entAt g.ents (atF g.ents r.x) with life := (entAt g.ents (atF g.ents r.x)).life - 1 }, hrow, ?_⟩
      conv => whnf
      refine drawn_ro (square_ok ((g.ents.map encEnt).set (atF g.ents r.x).toNat (encEnt { entAt g.ents (atF g.ents r.x) with life := IntKind.i64.wrap ((entAt g.ents (atF g.ents r.x)).life - 1) })) (g.floor.map encI) (g.last.map encI) { entAt g.ents (atF g.ents r.x) with life := (entAt g.ents (atF g.ents r.x)).life - 1 } hnxy (by simp [hfl])) ⟨⟨rfl, rfl, rfl, rfl, rfl, rfl, trivial⟩, rfl, rfl, rfl, ?_⟩
      conv => whnf
      refine ⟨encI (intAt g.floor (at4 (entAt g.ents (atF g.ents r.x)))), intAt_row (l := g.floor) (k := at4 (entAt g.ents (atF g.ents r.x))) ha4.1 (by omega), ?_⟩
      conv => whnf
      refine ⟨encEnt { entAt g.ents (atF g.ents r.x) with life := (entAt g.ents (atF g.ents r.x)).life - 1 }, hrow, ?_⟩
      conv => whnf
      refine ⟨encI (intAt g.floor (at4 (entAt g.ents (atF g.ents r.x)))), intAt_row (l := g.floor) (k := at4 (entAt g.ents (atF g.ents r.x))) ha4.1 (by omega), ?_⟩
      conv => whnf
      have wn : vi (IntKind.i64.wrap (atF g.ents r.x + 1)) = vi (atF g.ents r.x + 1) := congrArg vi (wrap_id (by omega) (by omega))
      have wf : IntKind.i64.wrap (intAt g.floor (at4 (entAt g.ents (atF g.ents r.x))) + (entAt g.ents (atF g.ents r.x)).gold) = intAt g.floor (at4 (entAt g.ents (atF g.ents r.x))) + (entAt g.ents (atF g.ents r.x)).gold := wrap_id (by omega) (by omega)
      have hhl : (hurt g.ents (atF g.ents r.x)).length = g.ents.length := by simp [hurt, setEnt]
      refine hcall_eq' (hD (hurt g.ents (atF g.ents r.x)) (atF g.ents r.x) n0 (by rw [hhl]; exact n1) (by rw [hhl]; exact hlen)) (congrArg (fun v => [V.own 5, vi (atF g.ents r.x), v]) wn) ⟨congrArg (Obj.arr true 5) hset, rfl, trivial⟩ rfl ⟨⟨trivial, trivial⟩, ?_⟩
      conv => whnf
      refine call_eq (cloneE_pure false _ (by simp [hhl]; omega)) ?_
      conv => whnf
      refine fin2 _ 0 ⟨(hurt g.ents (atF g.ents r.x)).take (atF g.ents r.x).toNat ++ (hurt g.ents (atF g.ents r.x)).drop ((atF g.ents r.x).toNat + 1), addAt g.floor (at4 (entAt g.ents (atF g.ents r.x))) (entAt g.ents (atF g.ents r.x)).gold, g.last⟩ _ (by rw [ha]) (by rw [ha]) rfl ?_ ?_ ⟨_, rfl, by rw [wf]; exact set_row rfl⟩ ?_ <;> rfl
    · have ha : stepV ⟨true, true, true, g⟩ r = (⟨false, true, true, ⟨hurt g.ents (atF g.ents r.x), g.floor, g.last⟩⟩, 0) := by
        rw [hstep]
        simp only [actV, if_neg o2, if_neg o3, if_pos o4, hitV, if_neg nf, if_neg hz]
      refine fin _ 0 ⟨hurt g.ents (atF g.ents r.x), g.floor, g.last⟩ (by rw [ha]) (by rw [ha]) ?_ ⟨_, rfl, hset⟩ ⟨_, rfl, rfl⟩ ?_ <;> rfl
  · refine far _ (.inr (.inr hnear)) ?_ ⟨_, rfl, rfl⟩ ⟨_, rfl, rfl⟩ ?_ <;> rfl
end Go.Proofs.Ytnnmkenloijkcaa
/- What the program's GameDo computes, given what slices.Insert and slices.Delete do. -/
set_option linter.unusedVariables false
set_option linter.unusedSimpArgs false
set_option maxRecDepth 10000
namespace Go.Proofs.Ytnnmkenloijkcaa
open Go Eng

def noted (g : Game) (r : Req) : Game := ⟨g.ents, g.floor, g.last.set (r.client - 1).toNat r.num⟩
def doI (g : Game) (r : Req) : Game × Int :=
  if reqNone r = true then (g, 2)
  else if r.num ≤ intAt g.last (r.client - 1) then (g, 3)
  else ((stepV ⟨true, true, true, noted g r⟩ r).1.g, (stepV ⟨true, true, true, noted g r⟩ r).2)

theorem good_step {y : GV} {r : Req} (h : Good y.g) (h1 : 1 ≤ r.client) (h2 : r.client ≤ 4) (hy : r.op ≠ 2 → 0 ≤ r.y) : Good (stepV y r).1.g := by
  unfold stepV
  split
  · split
    · exact h
    · rename_i hat
      refine good_join h h1 h2 ?_
      rcases atF_spec y.g.ents r.client with ⟨_, hh⟩ | ⟨i, hh, _⟩
      · exact hh
      · omega
  · split
    · exact h
    · exact good_act h (by omega) (by rcases atF_spec y.g.ents r.client with ⟨h, _⟩ | ⟨i, h, hi, _⟩ <;> omega) hy
theorem okR_all {r : Req} (h : okR r = true) : 1 ≤ r.client ∧ r.client ≤ 4 ∧ 1 ≤ r.num ∧ r.num ≤ 30 ∧ (r.op ≠ 2 → 0 ≤ r.y) := by
  unfold okR at h
  simp only [Bool.and_eq_true, inB_t] at h
  obtain ⟨h1, h2, h3⟩ := h
  refine ⟨h1.1, h1.2, h2.1, h2.2, fun ho => ?_⟩
  by_cases o13 : r.op = 1 ∨ r.op = 3
  · rw [if_pos o13] at h3; simp at h3; omega
  rw [if_neg o13, if_neg ho] at h3
  by_cases o4 : r.op = 4
  · rw [if_pos o4] at h3; simp at h3; omega
  rw [if_neg o4] at h3
  by_cases o5 : r.op = 5
  · rw [if_pos o5] at h3; simp only [Bool.and_eq_true, inB_t] at h3; omega
  · rw [if_neg o5] at h3; simp at h3
theorem good_noted {g : Game} {r : Req} (h : Good g) (hr : okR r = true) : Good (noted g r) := by
  have := okR_all hr
  exact ⟨h.ent, h.ord, h.floor, fun n hn => by
    rcases mem_set hn with rfl | hn
    · omega
    · exact h.last n hn, h.nfloor, by simp [noted, h.nlast], h.sum⟩
theorem good_doI {g : Game} {r : Req} (h : Good g) (hr : reqNone r = true ∨ okR r = true) : Good (doI g r).1 := by
  unfold doI
  split
  · exact h
  · rename_i hno
    have hr := hr.resolve_left hno
    have := okR_all hr
    split
    · exact h
    · exact good_step (good_noted h hr) (by omega) (by omega) this.2.2.2.2

theorem act_use (hI : InsOk) (hD : DelOk) {g : Game} {r : Req} (hg : Good g) (hr : okR r = true) {s : St} (h6 : s.hp 6 = .box [.own 5, .own 8, .own 11]) (h5 : s.hp 5 = .arr true 5 (g.ents.map encEnt)) (h8 : s.hp 8 = .arr true 1 (g.floor.map encI)) (h11 : s.hp 11 = .arr true 1 (g.last.map encI)) {K : HP → V → HP → Prop}
    (k1 : K (actHP (.own 5) (.arr true 5 (g.ents.map encEnt)) (g.floor.map encI) (g.last.map encI)) (vi (stepV ⟨true, true, true, g⟩ r).2) (actHP (.own 5) (.arr true 5 ((stepV ⟨true, true, true, g⟩ r).1.g.ents.map encEnt)) ((stepV ⟨true, true, true, g⟩ r).1.g.floor.map encI) ((stepV ⟨true, true, true, g⟩ r).1.g.last.map encI)))
    (k2 : K (actHP (.own 5) (.arr true 5 (g.ents.map encEnt)) (g.floor.map encI) (g.last.map encI)) (vi (stepV ⟨true, true, true, g⟩ r).2) (actHP (.d (.slc true 5 ((stepV ⟨true, true, true, g⟩ r).1.g.ents.map encEnt))) .dead ((stepV ⟨true, true, true, g⟩ r).1.g.floor.map encI) ((stepV ⟨true, true, true, g⟩ r).1.g.last.map encI))) :
    ∃ hin φ, HCalls Try.prog G0 49 (hpOf hin) [.ref 6 0 0 0, vReq r] φ ∧ weakHp s (hin.map (·.1)) hin ∧ okVs (hin.map (·.1)) [.ref 6 0 0 0, vReq r] = true ∧ ∀ q l, φ q l → K hin q l :=
  ⟨_, _, actI_ok hI hD g r hg hr, ⟨h6, rfl, h5, rfl, h8, rfl, h11, rfl, trivial⟩, rfl, fun q l ⟨e, h⟩ => by
    subst e
    rcases h with rfl | rfl
    · exact k1
    · exact k2⟩

theorem gameDoI_ok (hI : InsOk) (hD : DelOk) (a b c : Bool) (g : Game) (r : Req) : ACalls Try.prog G0 17 [vGame a b c g, vReq r] (fun q =>
    (okG g = true ∧ (reqNone r = true ∨ okR r = true) ∧ q = .tup [vGame true true true (doI g r).1, vi (doI g r).2]) ∨ (¬ (okG g = true ∧ (reqNone r = true ∨ okR r = true)) ∧ q = .tup [vGame true true true ⟨[], [], []⟩, vi 1])) := by
  refine spec_own tabOk Try.func17 (by kernel_rfl) [] [48, 49] rfl ?_
  conv => whnf
  refine call_bool (gameOk_ok a b c g) (fun hok => ?_) (fun hok => ?_) <;> conv => whnf
  · refine call_bool (orNull_ok r) (fun hr => ?_) (fun hr => ?_) <;> conv => whnf
    · have hg := ok_good (of_okG hok)
      have hle := good_len hg
      have hnf := hg.nfloor
      have hnl := hg.nlast
      have hr' : reqNone r = true ∨ okR r = true := by simpa using hr
      have yes : ∀ {v : V} (g' : Game) (n : Int), doI g r = (g', n) → v = .tup [vGame true true true g', vi n] → (okG g = true ∧ (reqNone r = true ∨ okR r = true) ∧ v = .tup [vGame true true true (doI g r).1, vi (doI g r).2]) ∨ (¬ (okG g = true ∧ (reqNone r = true ∨ okR r = true)) ∧ v = .tup [vGame true true true ⟨[], [], []⟩, vi 1]) := fun g' n hd hv =>
        .inl ⟨hok, hr', by rw [hd]; exact hv⟩
      refine hcall_eq (hin := []) (copyI_own a b c g (by omega) (by omega) (by omega) (by rintro h; rw [h] at hnf; simp at hnf) (by rintro h; rw [h] at hnl; simp at hnl)) trivial rfl ⟨⟨rfl, rfl, rfl, trivial⟩, ?_⟩
      conv => whnf
      have e : ∀ {b : Bool}, b = ((r.client == 0) && ((r.num == 0) && ((r.op == 0) && ((r.x == 0) && (r.y == 0))))) → reqNone r = b := fun {b} hb => by
        rw [hb, Bool.eq_iff_iff]; simp [reqNone]
      refine ⟨fun h => ?_, fun h => ?_⟩ <;> conv => whnf
      · have h : ((r.client == 0) && ((r.num == 0) && ((r.op == 0) && ((r.x == 0) && (r.y == 0))))) = true := h
        have hno := e h.symm
        refine yes g 2 ?_ rfl
        simp only [doI, if_pos hno]
      have h : ((r.client == 0) && ((r.num == 0) && ((r.op == 0) && ((r.x == 0) && (r.y == 0))))) = false := h
      have hno : ¬ reqNone r = true := by rw [e h.symm]; simp
      have hR := hr'.resolve_left hno
      have hc := okR_all hR
      have wc : IntKind.i64.wrap (r.client - 1) = r.client - 1 := wrap_id (by omega) (by omega)
      refine ⟨by rw [wc]; omega, encI (intAt g.last (r.client - 1)), by rw [wc]; exact intAt_row (l := g.last) (by omega) (by omega), ?_⟩
      conv => whnf
      refine ⟨fun ho => ?_, fun ho => ?_⟩ <;> conv => whnf
      · refine yes g 3 ?_ rfl
        simp only [doI, if_neg hno, if_pos ho]
      have hd : doI g r = ((stepV ⟨true, true, true, noted g r⟩ r).1.g, (stepV ⟨true, true, true, noted g r⟩ r).2) := by simp only [doI, if_neg hno, if_neg ho]
      refine ⟨by rw [wc]; omega, by rw [wc]; simp; omega, ?_⟩
      conv => whnf
      refine ⟨encI (intAt g.last (r.client - 1)), by rw [wc]; exact intAt_row (l := g.last) (by omega) (by omega), ?_⟩
      conv => whnf
      have hL : Obj.arr true 1 ((g.last.map encI).set (IntKind.i64.wrap (r.client - 1)).toNat (encI r.num)) = .arr true 1 ((noted g r).last.map encI) := by
        rw [wc]; exact congrArg (Obj.arr true 1) (set_row rfl)
      refine act_use hI hD (g := noted g r) (good_noted hg hR) hR rfl rfl rfl hL ⟨⟨trivial, trivial, trivial, trivial, trivial⟩, ?_⟩ ⟨⟨trivial, trivial, trivial, trivial, trivial⟩, ?_⟩
      · conv => whnf
        refine yes _ _ hd rfl
      · conv => whnf
        refine yes _ _ hd rfl
    · refine .inr ⟨fun hh => ?_, rfl⟩
      have : (reqNone r || okR r) = true := by simpa using hh.2
      rw [hr] at this; simp at this
  · refine .inr ⟨fun hh => ?_, rfl⟩
    rw [hok] at hh; simp at hh

open Classical in
noncomputable def gdo (g : Game) (r : Req) : V :=
  if okG g = true ∧ (reqNone r = true ∨ okR r = true) then .tup [vGame true true true (doI g r).1, vi (doI g r).2] else .tup [vGame true true true ⟨[], [], []⟩, vi 1]
theorem gameDo_eq (hI : InsOk) (hD : DelOk) (a b c : Bool) (g : Game) (r : Req) : ACalls Try.prog G0 17 [vGame a b c g, vReq r] (· = gdo g r) :=
  (gameDoI_ok hI hD a b c g r).mono fun q h => by
    rcases h with ⟨h1, h2, e⟩ | ⟨hn, e⟩
    · rw [e, gdo, if_pos ⟨h1, h2⟩]
    · rw [e, gdo, if_neg hn]
end Go.Proofs.Ytnnmkenloijkcaa
/- What the reference shows to a figure. -/
set_option linter.unusedVariables false
set_option maxRecDepth 10000
namespace Go.Proofs.Ytnnmkenloijkcaa
open Go Eng

theorem inB_neg (a b : Int) : inB (a - b) (-1) 1 = inB (b - a) (-1) 1 := by
  rw [Bool.eq_iff_iff, inB_t, inB_t]; omega
theorem sees_ok (e : Ent) (x y : Int) (he : xyOk e) (hx : 0 ≤ x ∧ x ≤ 3) (hy : 0 ≤ y ∧ y ≤ 3) : ACalls Try.prog G0 39 [vEnt e, vi x, vi y] (· = vb (nearF e ⟨0, x, y, 0, 0⟩)) := by
  unfold xyOk at he
  refine spec_intro tabOk Try.func39 (by kernel_rfl) rfl ?_
  conv => whnf
  have w1 : IntKind.i64.wrap (x - e.x) = x - e.x := wrap_id (by omega) (by omega)
  have w2 : IntKind.i64.wrap (y - e.y) = y - e.y := wrap_id (by omega) (by omega)
  refine call_bool (l1In_ok _ _ _) (fun h => ?_) (fun h => ?_) <;> conv => whnf
  · rw [w1, inB_neg] at h
    refine call_bool (l1In_ok _ _ _) (fun h2 => ?_) (fun h2 => ?_) <;> conv => whnf
    · rw [w2, inB_neg] at h2; simp [vb, nearF, h, h2]
    · rw [w2, inB_neg] at h2; simp [vb, nearF, h, h2]
  · rw [w1, inB_neg] at h; simp [vb, nearF, h]

abbrev hq6 (a b c : Bool) (g : Game) (me : Ent) (v : V) (fl : List (List D)) : HP := [(2, .box [.d (dEnts a g.ents), .d (dInts b g.floor), .d (dInts c g.last)]), (4, .box [.d (.slc true 5 []), .d (.slc true 1 []), .d (.slc true 1 [])]), (6, .box [vi me.client, vi me.x, vi me.y, vi me.life, vi me.gold]),
     (7, .box [v, .own 30, .own 34]), (30, .arr false 1 fl), (34, .arr false 1 (g.last.map encI))]
def TI9 (a b c : Bool) (g : Game) (me : Ent) (x : SIn) : SL :=
  match x.es with
  | [] => ⟨[(2, .ref 2 0 0 0), (4, .ref 4 0 0 0), (6, .ref 6 0 0 0), (7, .ref 7 0 0 0), (9, vi x.i)], hq6 a b c g me (.d (.slc true 5 [])) ((hid me g.floor g.floor.length).map encI)⟩
  | r :: rs => ⟨[(2, .ref 2 0 0 0), (4, .ref 4 0 0 0), (6, .ref 6 0 0 0), (7, .ref 7 0 0 0), (9, vi x.i)], hq6 a b c g me (.osl 83 5 ((r :: rs).map encEnt)) ((hid me g.floor g.floor.length).map encI) ++ [(83, .grow 5 (rs.length + 1))]⟩
noncomputable def seeS (a b c : Bool) (g : Game) (cl : Int) : V :=
  if okG g = true ∧ 0 ≤ atF g.ents cl then .tup [vGame (seen (entAt g.ents (atF g.ents cl)) g.ents).isEmpty false false (seeF (entAt g.ents (atF g.ents cl)) g), vb true]
  else .tup [vGame true true true ⟨[], [], []⟩, vb false]

theorem seeOfS_ok (a b c : Bool) (g : Game) (cl : Int) : ACalls Try.prog G0 9 [vGame a b c g, vi cl] (· = seeS a b c g cl) := by
  refine spec_own tabOk Try.func9 (by kernel_rfl) [30, 34] [] rfl ?_
  conv => whnf
  have no : ∀ {v : V}, ¬ (okG g = true ∧ 0 ≤ atF g.ents cl) → v = .tup [vGame true true true ⟨[], [], []⟩, vb false] → v = seeS a b c g cl := fun hn hv => by
    rw [hv]; simp only [seeS, if_neg hn]
  refine call_bool (l2Ok_ok a b c g) (fun hok => ?_) (fun hok => ?_) <;> conv => whnf
  · refine call_eq (at_ok a b c g cl) ?_
    conv => whnf
    refine ⟨fun hat => ?_, fun hat => ?_⟩ <;> conv => whnf
    · exact no (by omega) rfl
    have hyes : okG g = true ∧ 0 ≤ atF g.ents cl := ⟨hok, by omega⟩
    have hyesv : seeS a b c g cl = .tup [vGame (seen (entAt g.ents (atF g.ents cl)) g.ents).isEmpty false false (seeF (entAt g.ents (atF g.ents cl)) g), vb true] := by simp only [seeS, if_pos hyes]
    have hok' := of_okG hok
    have hg := ok_good hok'
    have h0 := hyes.2
    have h1 : atF g.ents cl < g.ents.length := by rcases atF_spec g.ents cl with ⟨h, _⟩ | ⟨i, h, hi, _⟩ <;> omega
    have hfl := hg.nfloor
    have hla := hg.nlast
    have hen := good_len hg
    have hme : xyOk (entAt g.ents (atF g.ents cl)) := good_xy hg (entAt_mem (by omega))
    refine drawn_eq (at_ok a b c g cl) ?_
    conv => whnf
    refine ⟨h0, _, entAt_row h0 h1, ?_⟩
    conv => whnf
    refine ⟨room (by simp; omega) rfl, room' (by simp; omega), ?_⟩
    conv => whnf
    refine ⟨room (by simp; omega) rfl, room' (by simp; omega), ?_⟩
    conv => whnf
    let P2 : Nat → Prop := fun k => True
    let I2 : Nat → SL := fun k => ⟨[(2, .ref 2 0 0 0), (4, .ref 4 0 0 0), (6, .ref 6 0 0 0), (7, .ref 7 0 0 0), (8, vi k)], hq6 a b c g (entAt g.ents (atF g.ents cl)) (.d (.slc true 5 [])) ((hid (entAt g.ents (atF g.ents cl)) g.floor k).map encI)⟩
    refine loop_up g.floor.length P2 I2 trivial ?_ ?_
    · refine ⟨?_, ?_, rfl⟩ <;> repeat' (first | exact weakSl_nil | exact weakHp_nil | refine weakSl_cons ?_ rfl ?_ | refine weakHp_cons ?_ rfl ?_)
      all_goals rfl
    intro k hk _
    conv => whnf
    intro _
    refine ⟨fun hlt => ?_, fun hge => ?_⟩ <;> conv => whnf
    · have hlt : k < g.floor.length := by have := lt_map hlt; rw [hid_len] at this; exact this
      have hxy := cellE_xy (i := k) (by omega)
      unfold xyOk cellE at hxy
      have w1 : IntKind.i64.wrap ((k : Int).tdiv 4) = (k : Int).tdiv 4 := wrap_id (by dsimp only at hxy; omega) (by dsimp only at hxy; omega)
      refine ⟨by omega, ?_⟩
      conv => whnf
      refine ⟨by omega, ?_⟩
      conv => whnf
      refine call_bool' (sees_ok (entAt g.ents (atF g.ents cl)) ((k : Int).tmod 4) ((k : Int).tdiv 4) hme ⟨hxy.1, hxy.2.1⟩ ⟨hxy.2.2.1, hxy.2.2.2⟩) (by rw [w1]; rfl) (fun hn => ?_) (fun hn => ?_) <;> conv => whnf
      · have hn : nearF (entAt g.ents (atF g.ents cl)) (cellE k) = true := hn
        have hh : hid (entAt g.ents (atF g.ents cl)) g.floor (k + 1) = hid (entAt g.ents (atF g.ents cl)) g.floor k := by simp only [hid, hn]
        refine up_next hlt trivial ⟨(weakSl_cons rfl rfl (weakSl_cons rfl rfl (weakSl_cons rfl rfl (weakSl_cons rfl rfl (weakSl_cons (wrap_succ (by omega)) rfl weakSl_nil))))), (weakHp_cons rfl rfl (weakHp_cons rfl rfl (weakHp_cons rfl rfl (weakHp_cons rfl rfl (weakHp_cons (congrArg (fun z : List Int => Obj.arr false 1 (z.map encI)) hh.symm) rfl (weakHp_cons rfl rfl weakHp_nil)))))), rfl⟩
      · have hn : nearF (entAt g.ents (atF g.ents cl)) (cellE k) = false := hn
        refine ⟨by omega, by simp [hid_len]; omega, ?_⟩
        conv => whnf
        refine ⟨encI (intAt (hid (entAt g.ents (atF g.ents cl)) g.floor k) k), intAt_row (by omega) (by rw [hid_len]; omega), ?_⟩
        conv => whnf
        have hh : (hid (entAt g.ents (atF g.ents cl)) g.floor k).set k (-1) = hid (entAt g.ents (atF g.ents cl)) g.floor (k + 1) := by simp only [hid, hn]
        have hh2 : Obj.arr false 1 (((hid (entAt g.ents (atF g.ents cl)) g.floor k).map encI).set (k : Int).toNat (encI (-1))) = .arr false 1 ((hid (entAt g.ents (atF g.ents cl)) g.floor (k + 1)).map encI) := by
          rw [← hh]; exact congrArg (Obj.arr false 1) (set_row rfl)
        refine up_next hlt trivial ⟨(weakSl_cons rfl rfl (weakSl_cons rfl rfl (weakSl_cons rfl rfl (weakSl_cons rfl rfl (weakSl_cons (wrap_succ (by omega)) rfl weakSl_nil))))), (weakHp_cons rfl rfl (weakHp_cons rfl rfl (weakHp_cons rfl rfl (weakHp_cons rfl rfl (weakHp_cons hh2 rfl (weakHp_cons rfl rfl weakHp_nil)))))), rfl⟩
    have hkn : k = g.floor.length := ge_map hge (by rw [hid_len]; exact hk) |>.trans (hid_len _ _ _)
    refine ⟨{ x : SIn // SInv g (entAt g.ents (atF g.ents cl)) x }, fun x => TI9 a b c g (entAt g.ents (atF g.ents cl)) x.1, fun x => g.ents.length - x.1.i, ⟨⟨0, []⟩, ⟨by simp, by simp [seen]⟩⟩, ?_, ?_⟩
    · refine ⟨?_, ?_, rfl⟩ <;> repeat' (first | exact weakSl_nil | exact weakHp_nil | refine weakSl_cons ?_ rfl ?_ | refine weakHp_cons ?_ rfl ?_)
      any_goals rfl
      exact congrArg (fun z => Obj.arr false 1 ((hid (entAt g.ents (atF g.ents cl)) g.floor z).map encI)) hkn
    rintro ⟨⟨i, es⟩, hinv⟩
    have hi : i ≤ g.ents.length := hinv.i
    have hes : es = seen (entAt g.ents (atF g.ents cl)) (g.ents.take i) := hinv.es
    cases es with
    | nil =>
      conv => whnf
      intro _
      refine ⟨fun hlt => ?_, fun hge => ?_⟩ <;> conv => whnf
      · have hlt : i < g.ents.length := lt_map hlt
        refine (entsAt hlt).elim fun e he => ?_
        refine ⟨by show (0 : Int) ≤ (i : Int); omega, encEnt e, row_map he, ?_⟩
        conv => whnf
        refine ⟨by show (0 : Int) ≤ (i : Int); omega, encEnt e, row_map he, ?_⟩
        conv => whnf
        have hexy := good_xy hg (List.mem_of_getElem? he)
        refine drawn_bool (sees_ok (entAt g.ents (atF g.ents cl)) e.x e.y hme ⟨hexy.1, hexy.2.1⟩ ⟨hexy.2.2.1, hexy.2.2.2⟩) (fun hn => ?_) (fun hn => ?_) <;> conv => whnf
        · have hn : nearF (entAt g.ents (atF g.ents cl)) e = true := hn
          refine ⟨by show (0 : Int) ≤ (i : Int); omega, encEnt e, row_map he, ?_⟩
          conv => whnf
          refine ⟨room (by simp) rfl, room' (by simp), ?_⟩
          conv => whnf
          have hinv' : SInv g (entAt g.ents (atF g.ents cl)) ⟨i + 1, [e]⟩ := ⟨hlt, by show [e] = _; rw [seen_succ he, ← hes, hn]; rfl⟩
          exact ⟨⟨⟨i + 1, [e]⟩, hinv'⟩, by show g.ents.length - (i + 1) < g.ents.length - i; omega, ⟨(weakSl_cons rfl rfl (weakSl_cons rfl rfl (weakSl_cons rfl rfl (weakSl_cons rfl rfl (weakSl_cons (wrap_succ (by omega)) rfl weakSl_nil))))), (weakHp_cons rfl rfl (weakHp_cons rfl rfl (weakHp_cons rfl rfl (weakHp_cons rfl rfl (weakHp_cons rfl rfl (weakHp_cons rfl rfl (weakHp_cons rfl rfl weakHp_nil))))))), rfl⟩⟩
        · have hn : nearF (entAt g.ents (atF g.ents cl)) e = false := hn
          have hinv' : SInv g (entAt g.ents (atF g.ents cl)) ⟨i + 1, []⟩ := ⟨hlt, by show [] = _; rw [seen_succ he, ← hes, hn]; simp⟩
          exact ⟨⟨⟨i + 1, []⟩, hinv'⟩, by show g.ents.length - (i + 1) < g.ents.length - i; omega, ⟨(weakSl_cons rfl rfl (weakSl_cons rfl rfl (weakSl_cons rfl rfl (weakSl_cons rfl rfl (weakSl_cons (wrap_succ (by omega)) rfl weakSl_nil))))), (weakHp_cons rfl rfl (weakHp_cons rfl rfl (weakHp_cons rfl rfl (weakHp_cons rfl rfl (weakHp_cons rfl rfl (weakHp_cons rfl rfl weakHp_nil)))))), rfl⟩⟩
      have hin : i = g.ents.length := ge_map hge hi
      have hseen : [] = seen (entAt g.ents (atF g.ents cl)) g.ents := by
        rw [hes, hin, List.take_length]
      have hflag : (seen (entAt g.ents (atF g.ents cl)) g.ents).isEmpty = true := by rw [← hseen]; rfl
      refine (?_ : V.tup [_, vb true] = _)
      rw [hyesv, hflag]
      refine congrArg (fun v => V.tup [v, vb true]) (vGame_ext ?_ rfl rfl)
      show ([] : List Ent).map encEnt = (seen (entAt g.ents (atF g.ents cl)) g.ents).map encEnt
      rw [← hseen]
    | cons r rs =>
      have hrl : rs.length ≤ 4 := by
        have h1 : (r :: rs).length ≤ (g.ents.take i).length := by rw [hes]; exact List.length_filter_le _ _
        simp at h1; omega
      conv => whnf
      intro _
      refine ⟨fun hlt => ?_, fun hge => ?_⟩ <;> conv => whnf
      · have hlt : i < g.ents.length := lt_map hlt
        refine (entsAt hlt).elim fun e he => ?_
        refine ⟨by show (0 : Int) ≤ (i : Int); omega, encEnt e, row_map he, ?_⟩
        conv => whnf
        refine ⟨by show (0 : Int) ≤ (i : Int); omega, encEnt e, row_map he, ?_⟩
        conv => whnf
        have hexy := good_xy hg (List.mem_of_getElem? he)
        refine drawn_bool (sees_ok (entAt g.ents (atF g.ents cl)) e.x e.y hme ⟨hexy.1, hexy.2.1⟩ ⟨hexy.2.2.1, hexy.2.2.2⟩) (fun hn => ?_) (fun hn => ?_) <;> conv => whnf
        · have hn : nearF (entAt g.ents (atF g.ents cl)) e = true := hn
          refine ⟨by show (0 : Int) ≤ (i : Int); omega, encEnt e, row_map he, ?_⟩
          conv => whnf
          refine ⟨by simp, room (by simp; omega) rfl, room' (by simp; omega), ?_⟩
          conv => whnf
          have happ : Obj.box [.osl 83 5 ((r :: rs).map encEnt ++ [encEnt e]), .own 30, .own 34] = .box [.osl 83 5 ((r :: (rs ++ [e])).map encEnt), .own 30, .own 34] := by simp
          have hgrow : Obj.grow 5 (((r :: rs).map encEnt).length + 1) = .grow 5 ((rs ++ [e]).length + 1) := by simp
          have hinv' : SInv g (entAt g.ents (atF g.ents cl)) ⟨i + 1, r :: (rs ++ [e])⟩ := ⟨hlt, by show r :: (rs ++ [e]) = _; rw [seen_succ he, ← hes, hn]; rfl⟩
          exact ⟨⟨⟨i + 1, r :: (rs ++ [e])⟩, hinv'⟩, by show g.ents.length - (i + 1) < g.ents.length - i; omega, ⟨(weakSl_cons rfl rfl (weakSl_cons rfl rfl (weakSl_cons rfl rfl (weakSl_cons rfl rfl (weakSl_cons (wrap_succ (by omega)) rfl weakSl_nil))))), (weakHp_cons rfl rfl (weakHp_cons rfl rfl (weakHp_cons rfl rfl (weakHp_cons happ rfl (weakHp_cons rfl rfl (weakHp_cons rfl rfl (weakHp_cons hgrow rfl weakHp_nil))))))), rfl⟩⟩
        · have hn : nearF (entAt g.ents (atF g.ents cl)) e = false := hn
          have hinv' : SInv g (entAt g.ents (atF g.ents cl)) ⟨i + 1, r :: rs⟩ := ⟨hlt, by show r :: rs = _; rw [seen_succ he, ← hes, hn]; simp⟩
          exact ⟨⟨⟨i + 1, r :: rs⟩, hinv'⟩, by show g.ents.length - (i + 1) < g.ents.length - i; omega, ⟨(weakSl_cons rfl rfl (weakSl_cons rfl rfl (weakSl_cons rfl rfl (weakSl_cons rfl rfl (weakSl_cons (wrap_succ (by omega)) rfl weakSl_nil))))), (weakHp_cons rfl rfl (weakHp_cons rfl rfl (weakHp_cons rfl rfl (weakHp_cons rfl rfl (weakHp_cons rfl rfl (weakHp_cons rfl rfl (weakHp_cons rfl rfl weakHp_nil))))))), rfl⟩⟩
      have hin : i = g.ents.length := ge_map hge hi
      have hseen : r :: rs = seen (entAt g.ents (atF g.ents cl)) g.ents := by
        rw [hes, hin, List.take_length]
      have hflag : (seen (entAt g.ents (atF g.ents cl)) g.ents).isEmpty = false := by rw [← hseen]; rfl
      refine (?_ : V.tup [_, vb true] = _)
      rw [hyesv, hflag]
      refine congrArg (fun v => V.tup [v, vb true]) (vGame_ext ?_ rfl rfl)
      show (r :: rs : List Ent).map encEnt = (seen (entAt g.ents (atF g.ents cl)) g.ents).map encEnt
      rw [← hseen]
  · exact no (by simp [hok]) rfl
end Go.Proofs.Ytnnmkenloijkcaa
/- What the laws' comparisons compute. -/
set_option linter.unusedVariables false
set_option maxRecDepth 10000
namespace Go.Proofs.Ytnnmkenloijkcaa
open Go Eng

open Classical in
noncomputable def eqI (l m : List Int) : Bool := decide (l = m)
theorem eqI_t {l m : List Int} : eqI l m = true ↔ l = m := by simp [eqI]
theorem eqI_self (l : List Int) : eqI l l = true := eqI_t.2 rfl
theorem eqI_f {l m : List Int} (h : l ≠ m) : eqI l m = false := by
  cases hb : eqI l m with
  | false => rfl
  | true => exact absurd (eqI_t.1 hb) h
theorem ints_ok (f1 f2 : Bool) (l m : List Int) : ACalls Try.prog G0 11 [.d (dInts f1 l), .d (dInts f2 m)] (· = vb (eqI l m)) := by
  refine spec_intro tabOk Try.func11 (by kernel_rfl) rfl ?_
  conv => whnf
  intro hlen
  have hlen := le_map hlen
  conv => whnf
  intro _
  conv => whnf
  refine ⟨fun hne => ?_, fun heq => ?_⟩ <;> conv => whnf
  · exact congrArg vb (eqI_f fun h => hne (by rw [h])).symm
  have heq : l.length = m.length := by
    have := Classical.not_not.1 heq
    simp only [List.length_map] at this
    omega
  let P : Nat → Prop := fun i => ∀ j, j < i → l[j]? = m[j]?
  let I : Nat → SL := fun i => ⟨[(0, .d (dInts f1 l)), (1, .d (dInts f2 m)), (5, vi i)], []⟩
  refine loop_up l.length P I (by intro j h; omega) ?_ ?_
  · refine ⟨?_, ?_, rfl⟩ <;> repeat' (first | exact weakSl_nil | exact weakHp_nil | refine weakSl_cons ?_ rfl ?_ | refine weakHp_cons ?_ rfl ?_)
    all_goals rfl
  intro i hi hP
  conv => whnf
  intro _
  refine ⟨fun hlt => ?_, fun hge => ?_⟩ <;> conv => whnf
  · have hlt := lt_map hlt
    refine (entsAt hlt).elim fun n hn => ?_
    refine (entsAt (l := m) (i := i) (by omega)).elim fun k hk => ?_
    refine ⟨by omega, encI n, row_map hn, ?_⟩
    conv => whnf
    refine ⟨by omega, encI k, row_map hk, ?_⟩
    conv => whnf
    refine ⟨fun hd => ?_, fun hd => ?_⟩ <;> conv => whnf
    · exact congrArg vb (eqI_f fun h => hd (by rw [h, hk] at hn; injection hn with hn; exact hn.symm)).symm
    · have hd : n = k := Classical.not_not.1 hd
      exact up_next hlt (fun j hj => by
        by_cases hji : j = i
        · subst hji; rw [hn, hk, hd]
        · exact hP j (by omega)) ⟨weakSl_cons rfl rfl (weakSl_cons rfl rfl (weakSl_cons (wrap_succ (by omega)) rfl weakSl_nil)), weakHp_nil, rfl⟩
  have hin := ge_map hge hi
  subst hin
  exact congrArg vb (eqI_t.2 (List.ext_getElem? fun j => by
    rcases Nat.lt_or_ge j l.length with h | h
    · exact hP j h
    · rw [List.getElem?_eq_none h, List.getElem?_eq_none (by omega)])).symm

def entB (e f : Ent) : Bool := (e.client == f.client) && ((e.x == f.x) && ((e.y == f.y) && ((e.life == f.life) && (e.gold == f.gold))))
theorem entB_t {e f : Ent} : entB e f = true ↔ e = f := by
  cases e; cases f
  simp [entB]
open Classical in
noncomputable def eqE (l m : List Ent) : Bool := decide (l = m)
noncomputable def eqG (g h : Game) : Bool := eqE g.ents h.ents && (eqI g.floor h.floor && eqI g.last h.last)
theorem eqE_t {l m : List Ent} : eqE l m = true ↔ l = m := by simp [eqE]
theorem eqE_f {l m : List Ent} (h : l ≠ m) : eqE l m = false := by
  cases hb : eqE l m with
  | false => rfl
  | true => exact absurd (eqE_t.1 hb) h
theorem eqG_self (g : Game) : eqG g g = true := by simp [eqG, eqI_self, eqE]
theorem game_eq (a b c a' b' c' : Bool) (g h : Game) : ACalls Try.prog G0 10 [vGame a b c g, vGame a' b' c' h] (· = vb (eqG g h)) := by
  refine spec_intro tabOk Try.func10 (by kernel_rfl) rfl ?_
  conv => whnf
  intro hlen
  have hlen := le_map hlen
  conv => whnf
  intro _
  conv => whnf
  refine ⟨fun hne => ?_, fun heq => ?_⟩ <;> conv => whnf
  · exact congrArg vb (show eqG g h = false by rw [eqG, eqE_f fun hh => hne (by rw [hh])]; rfl).symm
  have heq : g.ents.length = h.ents.length := by
    have := Classical.not_not.1 heq
    simp only [List.length_map] at this
    omega
  let P : Nat → Prop := fun i => ∀ j, j < i → g.ents[j]? = h.ents[j]?
  let I : Nat → SL := fun i => ⟨[(2, .ref 2 0 0 0), (3, .ref 3 0 0 0), (5, vi i)], [(2, .box [.d (dEnts a g.ents), .d (dInts b g.floor), .d (dInts c g.last)]), (3, .box [.d (dEnts a' h.ents), .d (dInts b' h.floor), .d (dInts c' h.last)])]⟩
  refine loop_up g.ents.length P I (by intro j h; omega) ?_ ?_
  · refine ⟨?_, ?_, rfl⟩ <;> repeat' (first | exact weakSl_nil | exact weakHp_nil | refine weakSl_cons ?_ rfl ?_ | refine weakHp_cons ?_ rfl ?_)
    all_goals rfl
  intro i hi hP
  conv => whnf
  intro _
  refine ⟨fun hlt => ?_, fun hge => ?_⟩ <;> conv => whnf
  · have hlt := lt_map hlt
    refine (entsAt hlt).elim fun e he => ?_
    refine (entsAt (l := h.ents) (i := i) (by omega)).elim fun f hf => ?_
    refine ⟨by omega, encEnt e, row_map he, ?_⟩
    conv => whnf
    refine ⟨by omega, encEnt f, row_map hf, ?_⟩
    conv => whnf
    refine ⟨fun hd => ?_, fun hd => ?_⟩ <;> conv => whnf
    · have hd : (!entB e f) = true := hd
      exact congrArg vb (show eqG g h = false by
        rw [eqG, eqE_f fun hh => ?_]; rfl
        rw [hh, hf] at he; injection he with he
        rw [entB_t.2 he.symm] at hd; simp at hd).symm
    · have hd : (!entB e f) = false := hd
      have hd : e = f := entB_t.1 (by simpa using hd)
      exact up_next hlt (fun j hj => by
        by_cases hji : j = i
        · subst hji; rw [he, hf, hd]
        · exact hP j (by omega)) ⟨weakSl_cons rfl rfl (weakSl_cons rfl rfl (weakSl_cons (wrap_succ (by omega)) rfl weakSl_nil)), weakHp_cons rfl rfl (weakHp_cons rfl rfl weakHp_nil), rfl⟩
  have hin := ge_map hge hi
  have hE : eqE g.ents h.ents = true := eqE_t.2 (List.ext_getElem? fun j => by
    rcases Nat.lt_or_ge j g.ents.length with h' | h'
    · exact hP j (by omega)
    · rw [List.getElem?_eq_none h', List.getElem?_eq_none (by omega)])
  refine call_bool (ints_ok b b' g.floor h.floor) (fun h1 => ?_) (fun h1 => ?_) <;> conv => whnf
  · refine call_bool (ints_ok c c' g.last h.last) (fun h2 => ?_) (fun h2 => ?_) <;> conv => whnf
    · exact congrArg vb (show eqG g h = true by simp [eqG, hE, h1, h2]).symm
    · exact congrArg vb (show eqG g h = false by simp [eqG, hE, h1, h2]).symm
  · exact congrArg vb (show eqG g h = false by simp [eqG, hE, h1]).symm
end Go.Proofs.Ytnnmkenloijkcaa
/- The program's moves and the reference's are the same; lists of asks are compared. -/
set_option linter.unusedVariables false
set_option linter.unusedSimpArgs false
set_option maxRecDepth 10000
namespace Go.Proofs.Ytnnmkenloijkcaa
open Go Eng

theorem drop_same {x y : GV} (h : x.g = y.g) (k : Int) : (dropV x k).g = (dropV y k).g := by
  simp only [dropV, h]
theorem hit_same {x y : GV} (h : x.g = y.g) (k n : Int) : (hitV x k n).1.g = (hitV y k n).1.g ∧ (hitV x k n).2 = (hitV y k n).2 := by
  unfold hitV
  rw [h]
  split
  · exact ⟨h, rfl⟩
  · refine ⟨?_, rfl⟩
    dsimp only
    split
    · exact drop_same (by simp only) n
    · rfl
theorem act_same {x y : GV} (h : x.g = y.g) (k : Int) (r : Req) : (actV x k r).1.g = (actV y k r).1.g ∧ (actV x k r).2 = (actV y k r).2 := by
  unfold actV
  rw [h]
  dsimp only
  split
  · split
    · exact ⟨h, rfl⟩
    · exact ⟨rfl, rfl⟩
  · split
    · split
      · exact ⟨h, rfl⟩
      · exact ⟨rfl, rfl⟩
    · split
      · exact hit_same h _ _
      · split
        · exact ⟨h, rfl⟩
        · split
          · exact ⟨h, rfl⟩
          · exact ⟨rfl, rfl⟩
theorem step_same {x y : GV} (h : x.g = y.g) (r : Req) : (stepV x r).1.g = (stepV y r).1.g ∧ (stepV x r).2 = (stepV y r).2 := by
  unfold stepV
  rw [h]
  split
  · split
    · exact ⟨h, rfl⟩
    · exact ⟨rfl, rfl⟩
  · split
    · exact ⟨h, rfl⟩
    · exact act_same h _ _
theorem do_same (a b c : Bool) (g : Game) (r : Req) : doI g r = ((doV ⟨a, b, c, g⟩ r).1.g, (doV ⟨a, b, c, g⟩ r).2) := by
  unfold doI doV
  dsimp only
  split
  · rfl
  · split
    · rfl
    · have h := step_same (x := ⟨true, true, true, noted g r⟩) (y := ⟨a, b, false, noted g r⟩) rfl r
      have e : (if r.op = 1 then if 0 ≤ atF g.ents r.client then ((⟨a, b, false, ⟨g.ents, g.floor, g.last.set (r.client - 1).toNat r.num⟩⟩ : GV), (4 : Int)) else (⟨false, b, false, ⟨joinF g.ents r.client, g.floor, g.last.set (r.client - 1).toNat r.num⟩⟩, 0)
          else if atF g.ents r.client < 0 then (⟨a, b, false, ⟨g.ents, g.floor, g.last.set (r.client - 1).toNat r.num⟩⟩, 5) else actV ⟨a, b, false, ⟨g.ents, g.floor, g.last.set (r.client - 1).toNat r.num⟩⟩ (atF g.ents r.client) r) = stepV ⟨a, b, false, noted g r⟩ r := rfl
      rw [e, h.1, h.2]

def reqB (e f : Req) : Bool := (e.client == f.client) && ((e.num == f.num) && ((e.op == f.op) && ((e.x == f.x) && (e.y == f.y))))
theorem reqB_t {e f : Req} : reqB e f = true ↔ e = f := by
  cases e; cases f
  simp [reqB]
open Classical in
noncomputable def eqR (l m : List Req) : Bool := decide (l = m)
theorem eqR_t {l m : List Req} : eqR l m = true ↔ l = m := by simp [eqR]
theorem eqR_self (l : List Req) : eqR l l = true := eqR_t.2 rfl
theorem eqR_f {l m : List Req} (h : l ≠ m) : eqR l m = false := by
  cases hb : eqR l m with
  | false => rfl
  | true => exact absurd (eqR_t.1 hb) h
theorem reqs_eq (f1 f2 : Bool) (l m : List Req) : ACalls Try.prog G0 20 [.d (.slc f1 5 (l.map encReq)), .d (.slc f2 5 (m.map encReq))] (· = vb (eqR l m)) := by
  refine spec_intro tabOk Try.func20 (by kernel_rfl) rfl ?_
  conv => whnf
  intro hlen
  have hlen := le_map hlen
  conv => whnf
  intro _
  conv => whnf
  refine ⟨fun hne => ?_, fun heq => ?_⟩ <;> conv => whnf
  · exact congrArg vb (eqR_f fun h => hne (by rw [h])).symm
  have heq : l.length = m.length := by
    have := Classical.not_not.1 heq
    simp only [List.length_map] at this
    omega
  let P : Nat → Prop := fun i => ∀ j, j < i → l[j]? = m[j]?
  let I : Nat → SL := fun i => ⟨[(0, .d (.slc f1 5 (l.map encReq))), (1, .d (.slc f2 5 (m.map encReq))), (5, vi i)], []⟩
  refine loop_up l.length P I (by intro j h; omega) ?_ ?_
  · refine ⟨?_, ?_, rfl⟩ <;> repeat' (first | exact weakSl_nil | exact weakHp_nil | refine weakSl_cons ?_ rfl ?_ | refine weakHp_cons ?_ rfl ?_)
    all_goals rfl
  intro i hi hP
  conv => whnf
  intro _
  refine ⟨fun hlt => ?_, fun hge => ?_⟩ <;> conv => whnf
  · have hlt := lt_map hlt
    refine (entsAt hlt).elim fun n hn => ?_
    refine (entsAt (l := m) (i := i) (by omega)).elim fun k hk => ?_
    refine ⟨by omega, encReq n, row_map hn, ?_⟩
    conv => whnf
    refine ⟨by omega, encReq k, row_map hk, ?_⟩
    conv => whnf
    refine ⟨fun hd => ?_, fun hd => ?_⟩ <;> conv => whnf
    · have hd : (!reqB n k) = true := hd
      exact congrArg vb (eqR_f fun h => by
        rw [h, hk] at hn; injection hn with hn
        rw [reqB_t.2 hn.symm] at hd; simp at hd).symm
    · have hd : (!reqB n k) = false := hd
      have hd : n = k := reqB_t.1 (by simpa using hd)
      exact up_next hlt (fun j hj => by
        by_cases hji : j = i
        · subst hji; rw [hn, hk, hd]
        · exact hP j (by omega)) ⟨weakSl_cons rfl rfl (weakSl_cons rfl rfl (weakSl_cons (wrap_succ (by omega)) rfl weakSl_nil)), weakHp_nil, rfl⟩
  have hin := ge_map hge hi
  subst hin
  exact congrArg vb (eqR_t.2 (List.ext_getElem? fun j => by
    rcases Nat.lt_or_ge j l.length with h | h
    · exact hP j h
    · rw [List.getElem?_eq_none h, List.getElem?_eq_none (by omega)])).symm
end Go.Proofs.Ytnnmkenloijkcaa
/- The law of gold holds, whatever the codes, given what slices.Insert and slices.Delete do. -/
set_option linter.unusedVariables false
set_option linter.unusedSimpArgs false
set_option maxRecDepth 10000
namespace Go.Proofs.Ytnnmkenloijkcaa
open Go Eng

theorem drawGold_use {full : Bool} {bs : List Int} (hb : Bytes bs) {ψ : V → Prop} (k : ∀ a b c g, ψ (vGame a b c g)) : ∃ φ, ACalls Try.prog G0 12 [.d (.slc full 1 (bs.map encB))] φ ∧ ∀ r, φ r → ψ r :=
  ⟨_, drawGold_ok full bs hb, fun r ⟨a, b, c, g, e⟩ => by subst e; exact k a b c g⟩
theorem drawDo_use {full : Bool} {bs : List Int} (hb : Bytes bs) {ψ : V → Prop} (k : ∀ a b c g q, ψ (.tup [vGame a b c g, vReq q])) : ∃ φ, ACalls Try.prog G0 16 [.d (.slc full 1 (bs.map encB))] φ ∧ ∀ r, φ r → ψ r :=
  ⟨_, drawDo_ok full bs hb, fun r ⟨a, b, c, g, q, e⟩ => by subst e; exact k a b c g q⟩
theorem do_use (hI : InsOk) (hD : DelOk) {a b c : Bool} {g : Game} {r : Req} {ψ : V → Prop} (k1 : okG g = true → (reqNone r = true ∨ okR r = true) → ∀ a b c, ψ (.tup [vGame a b c (doI g r).1, vi (doI g r).2])) (k2 : ψ (.tup [vGame true true true ⟨[], [], []⟩, vi 1])) :
    ∃ φ, ACalls Try.prog G0 17 [vGame a b c g, vReq r] φ ∧ ∀ q, φ q → ψ q :=
  ⟨_, gameDoI_ok hI hD a b c g r, fun q h => by
    rcases h with ⟨h1, h2, e⟩ | ⟨_, e⟩
    · subst e; exact k1 h1 h2 true true true
    · subst e; exact k2⟩
theorem goldI_yes {a b c : Bool} {g : Game} (h : okG g = true) : ACalls Try.prog G0 13 [vGame a b c g] (· = .tup [vi (g.ents.map Ent.gold).sum, vi g.floor.sum]) := by
  have := goldI_ok a b c g
  simp only [goldV, if_pos h] at this; exact this
theorem goldI_no {a b c : Bool} {g : Game} (h : ¬ okG g = true) : ACalls Try.prog G0 13 [vGame a b c g] (· = .tup [vi (-1), vi (-1)]) := by
  have := goldI_ok a b c g
  simp only [goldV, if_neg h] at this; exact this
theorem goldS_yes {a b c : Bool} {g : Game} (h : okG g = true) : ACalls Try.prog G0 14 [vGame a b c g] (· = .tup [vi (g.ents.map Ent.gold).sum, vi g.floor.sum]) := by
  have := goldS_ok a b c g
  simp only [goldV, if_pos h] at this; exact this
theorem goldS_no {a b c : Bool} {g : Game} (h : ¬ okG g = true) : ACalls Try.prog G0 14 [vGame a b c g] (· = .tup [vi (-1), vi (-1)]) := by
  have := goldS_ok a b c g
  simp only [goldV, if_neg h] at this; exact this
theorem gold_parts {g : Game} (h : Good g) : 0 ≤ (g.ents.map Ent.gold).sum ∧ 0 ≤ g.floor.sum := by
  refine ⟨sum_nonneg fun n hn => ?_, sum_nonneg h.floor⟩
  obtain ⟨e, he, rfl⟩ := List.mem_map.1 hn
  exact (h.ent e he).2.2.2.2.2.2.2.2
theorem empty_no : ¬ okG ⟨[], [], []⟩ = true := fun h => by have := (of_okG h).nfloor; simp at this

theorem law_gold (hI : InsOk) (hD : DelOk) (f1 f2 : Bool) (b1 b2 : List Int) (hb1 : Bytes b1) (hb2 : Bytes b2) : ACalls Try.prog G0 4 [.d (.slc f1 1 (b1.map encB)), .d (.slc f2 1 (b2.map encB))] (· = vb true) := by
  refine spec_own tabOk Try.func4 (by kernel_rfl) [] [] rfl ?_
  conv => whnf
  intro _
  refine ⟨fun hbig => ?_, fun hsmall => ?_⟩ <;> conv => whnf
  · rfl
  intro _
  refine ⟨fun hbig => ?_, fun hsmall => ?_⟩ <;> conv => whnf
  · rfl
  refine drawGold_use hb1 fun a b c g => ?_
  conv => whnf
  by_cases hok : okG g = true
  · have hg := ok_good (of_okG hok)
    have hp := gold_parts hg
    have hs := hg.sum
    refine call_eq (goldI_yes hok) ?_
    conv => whnf
    refine call_eq (goldS_yes hok) ?_
    conv => whnf
    refine ⟨fun h => absurd rfl h, fun _ => ?_⟩
    conv => whnf
    refine ⟨fun h => absurd rfl h, fun _ => ?_⟩
    conv => whnf
    refine ⟨fun h => absurd h (by omega), fun _ => ?_⟩
    conv => whnf
    refine drawDo_use hb2 fun a' b' c' g' q => ?_
    conv => whnf
    have w : IntKind.i64.wrap ((g.ents.map Ent.gold).sum + g.floor.sum) = 20 := by rw [wrap_id (by omega) (by omega)]; exact hs
    refine do_use hI hD (fun _ hr x y z => ?_) ?_
    · conv => whnf
      have hz := good_doI hg hr
      have hzs := hz.sum
      have w2 : IntKind.i64.wrap (((doI g q).1.ents.map Ent.gold).sum + (doI g q).1.floor.sum) = 20 := by rw [wrap_id (by omega) (by omega)]; exact hzs
      refine call_eq (goldI_yes (okG_t (good_ok hz))) ?_
      conv => whnf
      refine ⟨fun _ => ?_, fun h => absurd w h⟩
      conv => whnf
      refine ⟨fun _ => ?_, fun _ => ?_⟩ <;> conv => whnf
      · rfl
      · refine ⟨fun _ => ?_, fun h => absurd w2 h⟩
        conv => whnf
        rfl
    · conv => whnf
      refine call_eq (goldI_no empty_no) ?_
      conv => whnf
      refine ⟨fun _ => ?_, fun h => absurd w h⟩
      conv => whnf
      refine ⟨fun _ => ?_, fun h => absurd rfl h⟩
      conv => whnf
      rfl
  · have hokf : okG g = false := by simpa using hok
    refine call_eq (goldI_no hok) ?_
    conv => whnf
    refine call_eq (goldS_no hok) ?_
    conv => whnf
    refine ⟨fun h => absurd rfl h, fun _ => ?_⟩
    conv => whnf
    refine ⟨fun h => absurd rfl h, fun _ => ?_⟩
    conv => whnf
    refine ⟨fun _ => ?_, fun h => absurd (by decide) h⟩
    conv => whnf
    refine ⟨fun _ => ?_, fun h => absurd rfl h⟩
    conv => whnf
    refine ⟨fun _ => ?_, fun h => absurd rfl h⟩
    conv => whnf
    refine call_bool (gameOk_ok a b c g) (fun h => absurd h hok) (fun _ => ?_)
    conv => whnf
    refine ⟨fun h => absurd h (by decide), fun _ => ?_⟩
    conv => whnf
    rfl
end Go.Proofs.Ytnnmkenloijkcaa
/- Which asks go: the reference's list and the program's. -/
set_option linter.unusedVariables false
set_option linter.unusedSimpArgs false
set_option maxRecDepth 10000
namespace Go.Proofs.Ytnnmkenloijkcaa
open Go Eng

def goes (g : Game) (r : Req) : Bool := okR r && decide ((doI g r).2 = 0)
def mvReq (c n : Int) (a b d : Nat) : Req := ⟨c, n, (a : Int) + 1, (b : Int) - 1, (d : Int) - 1⟩
def mv1 (g : Game) (c n : Int) (a b d : Nat) : List Req := match goes g (mvReq c n a b d) with | true => [mvReq c n a b d] | false => []
def accY (g : Game) (c n : Int) (a b : Nat) : Nat → List Req
  | 0 => []
  | d + 1 => accY g c n a b d ++ mv1 g c n a b d
def accX (g : Game) (c n : Int) (a : Nat) : Nat → List Req
  | 0 => []
  | b + 1 => accX g c n a b ++ accY g c n a b 11
def accO (g : Game) (c n : Int) : Nat → List Req
  | 0 => []
  | a + 1 => accO g c n a ++ accX g c n a 6
def cur (g : Game) (c n : Int) (a b d : Nat) : List Req := accO g c n a ++ (accX g c n a b ++ accY g c n a b d)
theorem cur_y (g : Game) (c n : Int) (a b d : Nat) : cur g c n a b (d + 1) = cur g c n a b d ++ mv1 g c n a b d := by simp [cur, accY]
theorem cur_x (g : Game) (c n : Int) (a b : Nat) : cur g c n a (b + 1) 0 = cur g c n a b 11 := by simp only [cur, accX, accY, List.append_nil]
theorem cur_o (g : Game) (c n : Int) (a : Nat) : cur g c n (a + 1) 0 0 = cur g c n a 6 0 := by simp only [cur, accX, accY, accO, List.append_nil]
theorem mv1_len (g : Game) (c n : Int) (a b d : Nat) : (mv1 g c n a b d).length ≤ 1 := by unfold mv1; split <;> simp
theorem accY_len (g : Game) (c n : Int) (a b : Nat) : ∀ d, (accY g c n a b d).length ≤ d
  | 0 => by simp [accY]
  | d + 1 => by have h1 := accY_len g c n a b d; have h2 := mv1_len g c n a b d; simp only [accY, List.length_append]; omega
theorem accX_len (g : Game) (c n : Int) (a : Nat) : ∀ b, (accX g c n a b).length ≤ 11 * b
  | 0 => by simp [accX]
  | b + 1 => by have h1 := accX_len g c n a b; have h2 := accY_len g c n a b 11; simp only [accX, List.length_append]; omega
theorem accO_len (g : Game) (c n : Int) : ∀ a, (accO g c n a).length ≤ 66 * a
  | 0 => by simp [accO]
  | a + 1 => by have h1 := accO_len g c n a; have h2 := accX_len g c n a 6; simp only [accO, List.length_append]; omega
theorem cur_len {g : Game} {c n : Int} {a b d : Nat} (ha : a ≤ 5) (hb : b ≤ 6) (hd : d ≤ 11) : (cur g c n a b d).length ≤ 500 := by
  have h1 := accO_len g c n a; have h2 := accX_len g c n a b; have h3 := accY_len g c n a b d
  simp only [cur, List.length_append]; omega

theorem stepA (a : Nat) (h : a ≤ 100) : vi (IntKind.i64.wrap ((a : Int) + 1 + 1)) = vi (((a + 1 : Nat) : Int) + 1) := congrArg vi (by rw [wrap_id (by omega) (by omega)]; omega)
theorem stepB (b : Nat) (h : b ≤ 100) : vi (IntKind.i64.wrap ((b : Int) - 1 + 1)) = vi (((b + 1 : Nat) : Int) - 1) := congrArg vi (by rw [wrap_id (by omega) (by omega)]; omega)
structure MIx where
  i : Nat
  es : List Req
/-- A list that is nothing yet, or grows. -/
def MS (tok : Nat) (bx : Eng.Obj) (sl : List (Nat × V)) (es : List Req) : SL :=
  match es with
  | [] => ⟨(5, .d (.slc true 5 [])) :: sl, [(2, bx)]⟩
  | r :: rs => ⟨(5, .osl tok 5 ((r :: rs).map encReq)) :: sl, [(2, bx), (tok, .grow 5 (rs.length + 1))]⟩
structure MvInv (m : Nat) (f : Nat → List Req) (x : MIx) : Prop where
  i : x.i ≤ m
  es : x.es = f x.i

/-- When asks can go at all. -/
def mvOk (g : Game) (cl : Int) : Prop := okG g = true ∧ inB cl 1 4 = true ∧ ¬ 30 ≤ intAt g.last (cl - 1)
open Classical in
noncomputable def seeMvS (g : Game) (cl : Int) : V :=
  if mvOk g cl then .d (.slc (cur g cl (intAt g.last (cl - 1) + 1) 5 0 0).isEmpty 5 ((cur g cl (intAt g.last (cl - 1) + 1) 5 0 0).map encReq))
  else .d (.slc true 5 [])
set_option maxHeartbeats 1000000 in
theorem seeMvS_ok (fa fb fc : Bool) (g : Game) (cl : Int) : ACalls Try.prog G0 21 [vGame fa fb fc g, vi cl] (· = seeMvS g cl) := by
  refine spec_own tabOk Try.func21 (by kernel_rfl) [] [] rfl ?_
  conv => whnf
  have no : ∀ {v : V}, ¬ mvOk g cl → v = .d (.slc true 5 []) → v = seeMvS g cl := fun hn hv => by
    rw [hv, seeMvS, if_neg hn]
  refine call_bool (l2Ok_ok fa fb fc g) (fun hok => ?_) (fun hok => ?_) <;> conv => whnf
  · refine call_bool (l1In_ok _ _ _) (fun hin => ?_) (fun hin => ?_) <;> conv => whnf
    · have hcl := inB_t.1 hin
      have hc1 := hcl.1
      have hc4 := hcl.2
      have hg := ok_good (of_okG hok)
      have hle := good_len hg
      have hnf := hg.nfloor
      have hnl := hg.nlast
      have wc : IntKind.i64.wrap (cl - 1) = cl - 1 := wrap_id (by omega) (by omega)
      have hl := hg.last _ (intAt_mem (l := g.last) (k := cl - 1) (by omega))
      refine ⟨by rw [wc]; omega, encI (intAt g.last (cl - 1)), by rw [wc]; exact intAt_row (l := g.last) (by omega) (by omega), ?_⟩
      conv => whnf
      refine ⟨fun h30 => ?_, fun h30 => ?_⟩ <;> conv => whnf
      · exact no (fun h => h.2.2 h30) rfl
      have hyes : mvOk g cl := ⟨hok, hin, h30⟩
      refine ⟨by rw [wc]; omega, encI (intAt g.last (cl - 1)), by rw [wc]; exact intAt_row (l := g.last) (by omega) (by omega), ?_⟩
      conv => whnf
      have hw : IntKind.i64.wrap (intAt g.last (cl - 1) + 1) = intAt g.last (cl - 1) + 1 := wrap_id (by omega) (by omega)
      obtain ⟨n, hn⟩ : ∃ n, n = intAt g.last (cl - 1) + 1 := ⟨_, rfl⟩
      have hwn : vi (IntKind.i64.wrap (intAt g.last (cl - 1) + 1)) = vi n := congrArg vi (hw.trans hn.symm)
      have hnr : 1 ≤ n ∧ n ≤ 31 := by omega
      refine ⟨{ x : MIx // MvInv 5 (fun a => cur g cl n a 0 0) x }, fun x => MS 72 (.box [.d (dEnts fa g.ents), .d (dInts fb g.floor), .d (dInts fc g.last)]) [(1, vi cl), (2, .ref 2 0 0 0), (6, vi n), (7, vi ((x.1.i : Int) + 1))] x.1.es, fun x => 5 - x.1.i, ⟨⟨0, []⟩, ⟨by simp, rfl⟩⟩, ?_, ?_⟩
      · exact ⟨(weakSl_cons rfl rfl (weakSl_cons rfl rfl (weakSl_cons rfl rfl (weakSl_cons hwn rfl (weakSl_cons rfl rfl weakSl_nil))))), (weakHp_cons rfl rfl weakHp_nil), rfl⟩
      rintro ⟨⟨a, es0⟩, hinv0⟩
      have ha : a ≤ 5 := hinv0.i
      have hes0 : es0 = cur g cl n a 0 0 := hinv0.es
      cases es0 with
      | nil =>
        conv => whnf
        refine ⟨fun hlt => ?_, fun hge => ?_⟩ <;> conv => whnf
        · have hlt : (a : Int) + 1 ≤ 5 := hlt
          refine ⟨{ x : MIx // MvInv 6 (fun b => cur g cl n a b 0) x }, fun x => MS 72 (.box [.d (dEnts fa g.ents), .d (dInts fb g.floor), .d (dInts fc g.last)]) [(1, vi cl), (2, .ref 2 0 0 0), (6, vi n), (7, vi ((a : Int) + 1)), (8, vi ((x.1.i : Int) - 1))] x.1.es, fun x => 6 - x.1.i, ⟨⟨0, []⟩, ⟨by simp, hes0⟩⟩, ?_, ?_⟩
          · exact ⟨(weakSl_cons rfl rfl (weakSl_cons rfl rfl (weakSl_cons rfl rfl (weakSl_cons rfl rfl (weakSl_cons rfl rfl (weakSl_cons rfl rfl weakSl_nil)))))), (weakHp_cons rfl rfl weakHp_nil), rfl⟩
          rintro ⟨⟨b, es1⟩, hinv1⟩
          have hb : b ≤ 6 := hinv1.i
          have hes1 : es1 = cur g cl n a b 0 := hinv1.es
          cases es1 with
          | nil =>
            conv => whnf
            refine ⟨fun hlt => ?_, fun hge => ?_⟩ <;> conv => whnf
            · have hlt : (b : Int) - 1 ≤ 4 := hlt
              refine ⟨{ x : MIx // MvInv 11 (cur g cl n a b) x }, fun x => MS 72 (.box [.d (dEnts fa g.ents), .d (dInts fb g.floor), .d (dInts fc g.last)]) [(1, vi cl), (2, .ref 2 0 0 0), (6, vi n), (7, vi ((a : Int) + 1)), (8, vi ((b : Int) - 1)), (9, vi ((x.1.i : Int) - 1))] x.1.es, fun x => 11 - x.1.i, ⟨⟨0, []⟩, ⟨by simp, hes1⟩⟩, ?_, ?_⟩
              · exact ⟨(weakSl_cons rfl rfl (weakSl_cons rfl rfl (weakSl_cons rfl rfl (weakSl_cons rfl rfl (weakSl_cons rfl rfl (weakSl_cons rfl rfl (weakSl_cons rfl rfl weakSl_nil))))))), (weakHp_cons rfl rfl weakHp_nil), rfl⟩
              rintro ⟨⟨d, es2⟩, hinv2⟩
              have hd : d ≤ 11 := hinv2.i
              have hes2 : es2 = cur g cl n a b d := hinv2.es
              cases es2 with
              | nil =>
                conv => whnf
                refine ⟨fun hlt => ?_, fun hge => ?_⟩ <;> conv => whnf
                · have hlt : (d : Int) - 1 ≤ 9 := hlt
                  have hsame := (fun hgo : goes g (mvReq cl n a b d) = false => (⟨by show d + 1 ≤ 11; omega, by show [] = cur g cl n a b (d + 1); rw [cur_y, ← hes2, mv1, hgo]; simp⟩ : MvInv 11 (cur g cl n a b) ⟨d + 1, []⟩))
                  refine call_bool (l1Ok_ok (mvReq cl n a b d)) (fun hR => ?_) (fun hR => ?_) <;> conv => whnf
                  · have hfit : ReqIn (mvReq cl n a b d) := ⟨⟨by simp only [mvReq]; omega, by simp only [mvReq]; omega⟩, .inr ⟨hc1, hc4⟩⟩
                    refine drawn_eq (copy_ok fa fb fc g (by omega) (by omega) (by omega)) ?_
                    conv => whnf
                    refine drawn_eq (do_ok ⟨false, false, false, g⟩ (mvReq cl n a b d) (good_fit hg) (good_life hg) hfit) ?_
                    conv => whnf
                    have hds := do_same false false false g (mvReq cl n a b d)
                    refine ⟨fun hz => ?_, fun hz => ?_⟩ <;> conv => whnf
                    · have hgo : goes g (mvReq cl n a b d) = true := by unfold goes; rw [hR, hds]; simpa using hz
                      refine ⟨room (by simp) rfl, room' (by simp), ?_⟩
                      conv => whnf
                      exact ⟨⟨⟨d + 1, [mvReq cl n a b d]⟩, ⟨by show d + 1 ≤ 11; omega, by show [mvReq cl n a b d] = cur g cl n a b (d + 1); rw [cur_y, ← hes2, mv1, hgo]; rfl⟩⟩, by show 11 - (d + 1) < 11 - d; omega, ⟨(weakSl_cons rfl rfl (weakSl_cons rfl rfl (weakSl_cons rfl rfl (weakSl_cons rfl rfl (weakSl_cons rfl rfl (weakSl_cons rfl rfl (weakSl_cons (stepB d (by omega)) rfl weakSl_nil))))))), (weakHp_cons rfl rfl (weakHp_cons rfl rfl weakHp_nil)), rfl⟩⟩
                    · exact ⟨⟨⟨d + 1, []⟩, hsame (by unfold goes; rw [hR, hds]; simpa using hz)⟩, by show 11 - (d + 1) < 11 - d; omega, ⟨(weakSl_cons rfl rfl (weakSl_cons rfl rfl (weakSl_cons rfl rfl (weakSl_cons rfl rfl (weakSl_cons rfl rfl (weakSl_cons rfl rfl (weakSl_cons (stepB d (by omega)) rfl weakSl_nil))))))), (weakHp_cons rfl rfl weakHp_nil), rfl⟩⟩
                  · exact ⟨⟨⟨d + 1, []⟩, hsame (by unfold goes; rw [hR]; rfl)⟩, by show 11 - (d + 1) < 11 - d; omega, ⟨(weakSl_cons rfl rfl (weakSl_cons rfl rfl (weakSl_cons rfl rfl (weakSl_cons rfl rfl (weakSl_cons rfl rfl (weakSl_cons rfl rfl (weakSl_cons (stepB d (by omega)) rfl weakSl_nil))))))), (weakHp_cons rfl rfl weakHp_nil), rfl⟩⟩
                · have hge : ¬ (d : Int) - 1 ≤ 9 := hge
                  have hd11 : d = 11 := by omega
                  exact ⟨⟨⟨b + 1, []⟩, ⟨by show b + 1 ≤ 6; omega, by show [] = cur g cl n a (b + 1) 0; rw [cur_x, ← hd11]; exact hes2⟩⟩, by show 6 - (b + 1) < 6 - b; omega, ⟨(weakSl_cons rfl rfl (weakSl_cons rfl rfl (weakSl_cons rfl rfl (weakSl_cons rfl rfl (weakSl_cons rfl rfl (weakSl_cons (stepB b (by omega)) rfl weakSl_nil)))))), (weakHp_cons rfl rfl weakHp_nil), rfl⟩⟩
              | cons q2 qs2 =>
                conv => whnf
                have hlq : (q2 :: qs2).length ≤ 500 := by rw [hes2]; exact cur_len (by omega) (by omega) (by omega)
                simp only [List.length_cons] at hlq
                refine ⟨fun hlt => ?_, fun hge => ?_⟩ <;> conv => whnf
                · have hlt : (d : Int) - 1 ≤ 9 := hlt
                  have hsame := (fun hgo : goes g (mvReq cl n a b d) = false => (⟨by show d + 1 ≤ 11; omega, by show (q2 :: qs2) = cur g cl n a b (d + 1); rw [cur_y, ← hes2, mv1, hgo]; simp⟩ : MvInv 11 (cur g cl n a b) ⟨d + 1, (q2 :: qs2)⟩))
                  refine call_bool (l1Ok_ok (mvReq cl n a b d)) (fun hR => ?_) (fun hR => ?_) <;> conv => whnf
                  · have hfit : ReqIn (mvReq cl n a b d) := ⟨⟨by simp only [mvReq]; omega, by simp only [mvReq]; omega⟩, .inr ⟨hc1, hc4⟩⟩
                    refine drawn_eq (copy_ok fa fb fc g (by omega) (by omega) (by omega)) ?_
                    conv => whnf
                    refine drawn_eq (do_ok ⟨false, false, false, g⟩ (mvReq cl n a b d) (good_fit hg) (good_life hg) hfit) ?_
                    conv => whnf
                    have hds := do_same false false false g (mvReq cl n a b d)
                    refine ⟨fun hz => ?_, fun hz => ?_⟩ <;> conv => whnf
                    · have hgo : goes g (mvReq cl n a b d) = true := by unfold goes; rw [hR, hds]; simpa using hz
                      refine ⟨by simp, room (by simp; omega) rfl, room' (by simp; omega), ?_⟩
                      conv => whnf
                      have happ : (q2 :: qs2).map encReq ++ [encReq (mvReq cl n a b d)] = (q2 :: (qs2 ++ [mvReq cl n a b d])).map encReq := by simp
                      have hgrow : ((q2 :: qs2).map encReq).length + 1 = (qs2 ++ [mvReq cl n a b d]).length + 1 := by simp
                      exact ⟨⟨⟨d + 1, (q2 :: (qs2 ++ [mvReq cl n a b d]))⟩, ⟨by show d + 1 ≤ 11; omega, by show (q2 :: (qs2 ++ [mvReq cl n a b d])) = cur g cl n a b (d + 1); rw [cur_y, ← hes2, mv1, hgo]; rfl⟩⟩, by show 11 - (d + 1) < 11 - d; omega, ⟨(weakSl_cons (congrArg (fun z => V.osl 72 5 z) happ) rfl (weakSl_cons rfl rfl (weakSl_cons rfl rfl (weakSl_cons rfl rfl (weakSl_cons rfl rfl (weakSl_cons rfl rfl (weakSl_cons (stepB d (by omega)) rfl weakSl_nil))))))), (weakHp_cons rfl rfl (weakHp_cons (congrArg (fun z => Obj.grow 5 z) hgrow) rfl weakHp_nil)), rfl⟩⟩
                    · exact ⟨⟨⟨d + 1, (q2 :: qs2)⟩, hsame (by unfold goes; rw [hR, hds]; simpa using hz)⟩, by show 11 - (d + 1) < 11 - d; omega, ⟨(weakSl_cons rfl rfl (weakSl_cons rfl rfl (weakSl_cons rfl rfl (weakSl_cons rfl rfl (weakSl_cons rfl rfl (weakSl_cons rfl rfl (weakSl_cons (stepB d (by omega)) rfl weakSl_nil))))))), (weakHp_cons rfl rfl (weakHp_cons rfl rfl weakHp_nil)), rfl⟩⟩
                  · exact ⟨⟨⟨d + 1, (q2 :: qs2)⟩, hsame (by unfold goes; rw [hR]; rfl)⟩, by show 11 - (d + 1) < 11 - d; omega, ⟨(weakSl_cons rfl rfl (weakSl_cons rfl rfl (weakSl_cons rfl rfl (weakSl_cons rfl rfl (weakSl_cons rfl rfl (weakSl_cons rfl rfl (weakSl_cons (stepB d (by omega)) rfl weakSl_nil))))))), (weakHp_cons rfl rfl (weakHp_cons rfl rfl weakHp_nil)), rfl⟩⟩
                · have hge : ¬ (d : Int) - 1 ≤ 9 := hge
                  have hd11 : d = 11 := by omega
                  exact ⟨⟨⟨b + 1, (q2 :: qs2)⟩, ⟨by show b + 1 ≤ 6; omega, by show (q2 :: qs2) = cur g cl n a (b + 1) 0; rw [cur_x, ← hd11]; exact hes2⟩⟩, by show 6 - (b + 1) < 6 - b; omega, ⟨(weakSl_cons rfl rfl (weakSl_cons rfl rfl (weakSl_cons rfl rfl (weakSl_cons rfl rfl (weakSl_cons rfl rfl (weakSl_cons (stepB b (by omega)) rfl weakSl_nil)))))), (weakHp_cons rfl rfl (weakHp_cons rfl rfl weakHp_nil)), rfl⟩⟩
            · have hge : ¬ (b : Int) - 1 ≤ 4 := hge
              have hb6 : b = 6 := by omega
              exact ⟨⟨⟨a + 1, []⟩, ⟨by show a + 1 ≤ 5; omega, by show [] = cur g cl n (a + 1) 0 0; rw [cur_o, ← hb6]; exact hes1⟩⟩, by show 5 - (a + 1) < 5 - a; omega, ⟨(weakSl_cons rfl rfl (weakSl_cons rfl rfl (weakSl_cons rfl rfl (weakSl_cons rfl rfl (weakSl_cons (stepA a (by omega)) rfl weakSl_nil))))), (weakHp_cons rfl rfl weakHp_nil), rfl⟩⟩
          | cons q1 qs1 =>
            conv => whnf
            refine ⟨fun hlt => ?_, fun hge => ?_⟩ <;> conv => whnf
            · have hlt : (b : Int) - 1 ≤ 4 := hlt
              refine ⟨{ x : MIx // MvInv 11 (cur g cl n a b) x }, fun x => MS 72 (.box [.d (dEnts fa g.ents), .d (dInts fb g.floor), .d (dInts fc g.last)]) [(1, vi cl), (2, .ref 2 0 0 0), (6, vi n), (7, vi ((a : Int) + 1)), (8, vi ((b : Int) - 1)), (9, vi ((x.1.i : Int) - 1))] x.1.es, fun x => 11 - x.1.i, ⟨⟨0, (q1 :: qs1)⟩, ⟨by simp, hes1⟩⟩, ?_, ?_⟩
              · exact ⟨(weakSl_cons rfl rfl (weakSl_cons rfl rfl (weakSl_cons rfl rfl (weakSl_cons rfl rfl (weakSl_cons rfl rfl (weakSl_cons rfl rfl (weakSl_cons rfl rfl weakSl_nil))))))), (weakHp_cons rfl rfl (weakHp_cons rfl rfl weakHp_nil)), rfl⟩
              rintro ⟨⟨d, es2⟩, hinv2⟩
              have hd : d ≤ 11 := hinv2.i
              have hes2 : es2 = cur g cl n a b d := hinv2.es
              cases es2 with
              | nil =>
                conv => whnf
                refine ⟨fun hlt => ?_, fun hge => ?_⟩ <;> conv => whnf
                · have hlt : (d : Int) - 1 ≤ 9 := hlt
                  have hsame := (fun hgo : goes g (mvReq cl n a b d) = false => (⟨by show d + 1 ≤ 11; omega, by show [] = cur g cl n a b (d + 1); rw [cur_y, ← hes2, mv1, hgo]; simp⟩ : MvInv 11 (cur g cl n a b) ⟨d + 1, []⟩))
                  refine call_bool (l1Ok_ok (mvReq cl n a b d)) (fun hR => ?_) (fun hR => ?_) <;> conv => whnf
                  · have hfit : ReqIn (mvReq cl n a b d) := ⟨⟨by simp only [mvReq]; omega, by simp only [mvReq]; omega⟩, .inr ⟨hc1, hc4⟩⟩
                    refine drawn_eq (copy_ok fa fb fc g (by omega) (by omega) (by omega)) ?_
                    conv => whnf
                    refine drawn_eq (do_ok ⟨false, false, false, g⟩ (mvReq cl n a b d) (good_fit hg) (good_life hg) hfit) ?_
                    conv => whnf
                    have hds := do_same false false false g (mvReq cl n a b d)
                    refine ⟨fun hz => ?_, fun hz => ?_⟩ <;> conv => whnf
                    · have hgo : goes g (mvReq cl n a b d) = true := by unfold goes; rw [hR, hds]; simpa using hz
                      refine ⟨room (by simp) rfl, room' (by simp), ?_⟩
                      conv => whnf
                      exact ⟨⟨⟨d + 1, [mvReq cl n a b d]⟩, ⟨by show d + 1 ≤ 11; omega, by show [mvReq cl n a b d] = cur g cl n a b (d + 1); rw [cur_y, ← hes2, mv1, hgo]; rfl⟩⟩, by show 11 - (d + 1) < 11 - d; omega, ⟨(weakSl_cons rfl rfl (weakSl_cons rfl rfl (weakSl_cons rfl rfl (weakSl_cons rfl rfl (weakSl_cons rfl rfl (weakSl_cons rfl rfl (weakSl_cons (stepB d (by omega)) rfl weakSl_nil))))))), (weakHp_cons rfl rfl (weakHp_cons rfl rfl weakHp_nil)), rfl⟩⟩
                    · exact ⟨⟨⟨d + 1, []⟩, hsame (by unfold goes; rw [hR, hds]; simpa using hz)⟩, by show 11 - (d + 1) < 11 - d; omega, ⟨(weakSl_cons rfl rfl (weakSl_cons rfl rfl (weakSl_cons rfl rfl (weakSl_cons rfl rfl (weakSl_cons rfl rfl (weakSl_cons rfl rfl (weakSl_cons (stepB d (by omega)) rfl weakSl_nil))))))), (weakHp_cons rfl rfl weakHp_nil), rfl⟩⟩
                  · exact ⟨⟨⟨d + 1, []⟩, hsame (by unfold goes; rw [hR]; rfl)⟩, by show 11 - (d + 1) < 11 - d; omega, ⟨(weakSl_cons rfl rfl (weakSl_cons rfl rfl (weakSl_cons rfl rfl (weakSl_cons rfl rfl (weakSl_cons rfl rfl (weakSl_cons rfl rfl (weakSl_cons (stepB d (by omega)) rfl weakSl_nil))))))), (weakHp_cons rfl rfl weakHp_nil), rfl⟩⟩
                · have hge : ¬ (d : Int) - 1 ≤ 9 := hge
                  have hd11 : d = 11 := by omega
                  exact ⟨⟨⟨b + 1, []⟩, ⟨by show b + 1 ≤ 6; omega, by show [] = cur g cl n a (b + 1) 0; rw [cur_x, ← hd11]; exact hes2⟩⟩, by show 6 - (b + 1) < 6 - b; omega, ⟨(weakSl_cons rfl rfl (weakSl_cons rfl rfl (weakSl_cons rfl rfl (weakSl_cons rfl rfl (weakSl_cons rfl rfl (weakSl_cons (stepB b (by omega)) rfl weakSl_nil)))))), (weakHp_cons rfl rfl weakHp_nil), rfl⟩⟩
              | cons q2 qs2 =>
                conv => whnf
                have hlq : (q2 :: qs2).length ≤ 500 := by rw [hes2]; exact cur_len (by omega) (by omega) (by omega)
                simp only [List.length_cons] at hlq
                refine ⟨fun hlt => ?_, fun hge => ?_⟩ <;> conv => whnf
                · have hlt : (d : Int) - 1 ≤ 9 := hlt
                  have hsame := (fun hgo : goes g (mvReq cl n a b d) = false => (⟨by show d + 1 ≤ 11; omega, by show (q2 :: qs2) = cur g cl n a b (d + 1); rw [cur_y, ← hes2, mv1, hgo]; simp⟩ : MvInv 11 (cur g cl n a b) ⟨d + 1, (q2 :: qs2)⟩))
                  refine call_bool (l1Ok_ok (mvReq cl n a b d)) (fun hR => ?_) (fun hR => ?_) <;> conv => whnf
                  · have hfit : ReqIn (mvReq cl n a b d) := ⟨⟨by simp only [mvReq]; omega, by simp only [mvReq]; omega⟩, .inr ⟨hc1, hc4⟩⟩
                    refine drawn_eq (copy_ok fa fb fc g (by omega) (by omega) (by omega)) ?_
                    conv => whnf
                    refine drawn_eq (do_ok ⟨false, false, false, g⟩ (mvReq cl n a b d) (good_fit hg) (good_life hg) hfit) ?_
                    conv => whnf
                    have hds := do_same false false false g (mvReq cl n a b d)
                    refine ⟨fun hz => ?_, fun hz => ?_⟩ <;> conv => whnf
                    · have hgo : goes g (mvReq cl n a b d) = true := by unfold goes; rw [hR, hds]; simpa using hz
                      refine ⟨by simp, room (by simp; omega) rfl, room' (by simp; omega), ?_⟩
                      conv => whnf
                      have happ : (q2 :: qs2).map encReq ++ [encReq (mvReq cl n a b d)] = (q2 :: (qs2 ++ [mvReq cl n a b d])).map encReq := by simp
                      have hgrow : ((q2 :: qs2).map encReq).length + 1 = (qs2 ++ [mvReq cl n a b d]).length + 1 := by simp
                      exact ⟨⟨⟨d + 1, (q2 :: (qs2 ++ [mvReq cl n a b d]))⟩, ⟨by show d + 1 ≤ 11; omega, by show (q2 :: (qs2 ++ [mvReq cl n a b d])) = cur g cl n a b (d + 1); rw [cur_y, ← hes2, mv1, hgo]; rfl⟩⟩, by show 11 - (d + 1) < 11 - d; omega, ⟨(weakSl_cons (congrArg (fun z => V.osl 72 5 z) happ) rfl (weakSl_cons rfl rfl (weakSl_cons rfl rfl (weakSl_cons rfl rfl (weakSl_cons rfl rfl (weakSl_cons rfl rfl (weakSl_cons (stepB d (by omega)) rfl weakSl_nil))))))), (weakHp_cons rfl rfl (weakHp_cons (congrArg (fun z => Obj.grow 5 z) hgrow) rfl weakHp_nil)), rfl⟩⟩
                    · exact ⟨⟨⟨d + 1, (q2 :: qs2)⟩, hsame (by unfold goes; rw [hR, hds]; simpa using hz)⟩, by show 11 - (d + 1) < 11 - d; omega, ⟨(weakSl_cons rfl rfl (weakSl_cons rfl rfl (weakSl_cons rfl rfl (weakSl_cons rfl rfl (weakSl_cons rfl rfl (weakSl_cons rfl rfl (weakSl_cons (stepB d (by omega)) rfl weakSl_nil))))))), (weakHp_cons rfl rfl (weakHp_cons rfl rfl weakHp_nil)), rfl⟩⟩
                  · exact ⟨⟨⟨d + 1, (q2 :: qs2)⟩, hsame (by unfold goes; rw [hR]; rfl)⟩, by show 11 - (d + 1) < 11 - d; omega, ⟨(weakSl_cons rfl rfl (weakSl_cons rfl rfl (weakSl_cons rfl rfl (weakSl_cons rfl rfl (weakSl_cons rfl rfl (weakSl_cons rfl rfl (weakSl_cons (stepB d (by omega)) rfl weakSl_nil))))))), (weakHp_cons rfl rfl (weakHp_cons rfl rfl weakHp_nil)), rfl⟩⟩
                · have hge : ¬ (d : Int) - 1 ≤ 9 := hge
                  have hd11 : d = 11 := by omega
                  exact ⟨⟨⟨b + 1, (q2 :: qs2)⟩, ⟨by show b + 1 ≤ 6; omega, by show (q2 :: qs2) = cur g cl n a (b + 1) 0; rw [cur_x, ← hd11]; exact hes2⟩⟩, by show 6 - (b + 1) < 6 - b; omega, ⟨(weakSl_cons rfl rfl (weakSl_cons rfl rfl (weakSl_cons rfl rfl (weakSl_cons rfl rfl (weakSl_cons rfl rfl (weakSl_cons (stepB b (by omega)) rfl weakSl_nil)))))), (weakHp_cons rfl rfl (weakHp_cons rfl rfl weakHp_nil)), rfl⟩⟩
            · have hge : ¬ (b : Int) - 1 ≤ 4 := hge
              have hb6 : b = 6 := by omega
              exact ⟨⟨⟨a + 1, (q1 :: qs1)⟩, ⟨by show a + 1 ≤ 5; omega, by show (q1 :: qs1) = cur g cl n (a + 1) 0 0; rw [cur_o, ← hb6]; exact hes1⟩⟩, by show 5 - (a + 1) < 5 - a; omega, ⟨(weakSl_cons rfl rfl (weakSl_cons rfl rfl (weakSl_cons rfl rfl (weakSl_cons rfl rfl (weakSl_cons (stepA a (by omega)) rfl weakSl_nil))))), (weakHp_cons rfl rfl (weakHp_cons rfl rfl weakHp_nil)), rfl⟩⟩
        · have hge : ¬ (a : Int) + 1 ≤ 5 := hge
          have ha5 : a = 5 := by omega
          have hes5 : [] = cur g cl n 5 0 0 := by rw [← ha5]; exact hes0
          refine (?_ : V.d _ = seeMvS g cl)
          rw [seeMvS, if_pos hyes, ← hn, ← hes5]
          rfl
      | cons q0 qs0 =>
        conv => whnf
        refine ⟨fun hlt => ?_, fun hge => ?_⟩ <;> conv => whnf
        · have hlt : (a : Int) + 1 ≤ 5 := hlt
          refine ⟨{ x : MIx // MvInv 6 (fun b => cur g cl n a b 0) x }, fun x => MS 72 (.box [.d (dEnts fa g.ents), .d (dInts fb g.floor), .d (dInts fc g.last)]) [(1, vi cl), (2, .ref 2 0 0 0), (6, vi n), (7, vi ((a : Int) + 1)), (8, vi ((x.1.i : Int) - 1))] x.1.es, fun x => 6 - x.1.i, ⟨⟨0, (q0 :: qs0)⟩, ⟨by simp, hes0⟩⟩, ?_, ?_⟩
          · exact ⟨(weakSl_cons rfl rfl (weakSl_cons rfl rfl (weakSl_cons rfl rfl (weakSl_cons rfl rfl (weakSl_cons rfl rfl (weakSl_cons rfl rfl weakSl_nil)))))), (weakHp_cons rfl rfl (weakHp_cons rfl rfl weakHp_nil)), rfl⟩
          rintro ⟨⟨b, es1⟩, hinv1⟩
          have hb : b ≤ 6 := hinv1.i
          have hes1 : es1 = cur g cl n a b 0 := hinv1.es
          cases es1 with
          | nil =>
            conv => whnf
            refine ⟨fun hlt => ?_, fun hge => ?_⟩ <;> conv => whnf
            · have hlt : (b : Int) - 1 ≤ 4 := hlt
              refine ⟨{ x : MIx // MvInv 11 (cur g cl n a b) x }, fun x => MS 72 (.box [.d (dEnts fa g.ents), .d (dInts fb g.floor), .d (dInts fc g.last)]) [(1, vi cl), (2, .ref 2 0 0 0), (6, vi n), (7, vi ((a : Int) + 1)), (8, vi ((b : Int) - 1)), (9, vi ((x.1.i : Int) - 1))] x.1.es, fun x => 11 - x.1.i, ⟨⟨0, []⟩, ⟨by simp, hes1⟩⟩, ?_, ?_⟩
              · exact ⟨(weakSl_cons rfl rfl (weakSl_cons rfl rfl (weakSl_cons rfl rfl (weakSl_cons rfl rfl (weakSl_cons rfl rfl (weakSl_cons rfl rfl (weakSl_cons rfl rfl weakSl_nil))))))), (weakHp_cons rfl rfl weakHp_nil), rfl⟩
              rintro ⟨⟨d, es2⟩, hinv2⟩
              have hd : d ≤ 11 := hinv2.i
              have hes2 : es2 = cur g cl n a b d := hinv2.es
              cases es2 with
              | nil =>
                conv => whnf
                refine ⟨fun hlt => ?_, fun hge => ?_⟩ <;> conv => whnf
                · have hlt : (d : Int) - 1 ≤ 9 := hlt
                  have hsame := (fun hgo : goes g (mvReq cl n a b d) = false => (⟨by show d + 1 ≤ 11; omega, by show [] = cur g cl n a b (d + 1); rw [cur_y, ← hes2, mv1, hgo]; simp⟩ : MvInv 11 (cur g cl n a b) ⟨d + 1, []⟩))
                  refine call_bool (l1Ok_ok (mvReq cl n a b d)) (fun hR => ?_) (fun hR => ?_) <;> conv => whnf
                  · have hfit : ReqIn (mvReq cl n a b d) := ⟨⟨by simp only [mvReq]; omega, by simp only [mvReq]; omega⟩, .inr ⟨hc1, hc4⟩⟩
                    refine drawn_eq (copy_ok fa fb fc g (by omega) (by omega) (by omega)) ?_
                    conv => whnf
                    refine drawn_eq (do_ok ⟨false, false, false, g⟩ (mvReq cl n a b d) (good_fit hg) (good_life hg) hfit) ?_
                    conv => whnf
                    have hds := do_same false false false g (mvReq cl n a b d)
                    refine ⟨fun hz => ?_, fun hz => ?_⟩ <;> conv => whnf
                    · have hgo : goes g (mvReq cl n a b d) = true := by unfold goes; rw [hR, hds]; simpa using hz
                      refine ⟨room (by simp) rfl, room' (by simp), ?_⟩
                      conv => whnf
                      exact ⟨⟨⟨d + 1, [mvReq cl n a b d]⟩, ⟨by show d + 1 ≤ 11; omega, by show [mvReq cl n a b d] = cur g cl n a b (d + 1); rw [cur_y, ← hes2, mv1, hgo]; rfl⟩⟩, by show 11 - (d + 1) < 11 - d; omega, ⟨(weakSl_cons rfl rfl (weakSl_cons rfl rfl (weakSl_cons rfl rfl (weakSl_cons rfl rfl (weakSl_cons rfl rfl (weakSl_cons rfl rfl (weakSl_cons (stepB d (by omega)) rfl weakSl_nil))))))), (weakHp_cons rfl rfl (weakHp_cons rfl rfl weakHp_nil)), rfl⟩⟩
                    · exact ⟨⟨⟨d + 1, []⟩, hsame (by unfold goes; rw [hR, hds]; simpa using hz)⟩, by show 11 - (d + 1) < 11 - d; omega, ⟨(weakSl_cons rfl rfl (weakSl_cons rfl rfl (weakSl_cons rfl rfl (weakSl_cons rfl rfl (weakSl_cons rfl rfl (weakSl_cons rfl rfl (weakSl_cons (stepB d (by omega)) rfl weakSl_nil))))))), (weakHp_cons rfl rfl weakHp_nil), rfl⟩⟩
                  · exact ⟨⟨⟨d + 1, []⟩, hsame (by unfold goes; rw [hR]; rfl)⟩, by show 11 - (d + 1) < 11 - d; omega, ⟨(weakSl_cons rfl rfl (weakSl_cons rfl rfl (weakSl_cons rfl rfl (weakSl_cons rfl rfl (weakSl_cons rfl rfl (weakSl_cons rfl rfl (weakSl_cons (stepB d (by omega)) rfl weakSl_nil))))))), (weakHp_cons rfl rfl weakHp_nil), rfl⟩⟩
                · have hge : ¬ (d : Int) - 1 ≤ 9 := hge
                  have hd11 : d = 11 := by omega
                  exact ⟨⟨⟨b + 1, []⟩, ⟨by show b + 1 ≤ 6; omega, by show [] = cur g cl n a (b + 1) 0; rw [cur_x, ← hd11]; exact hes2⟩⟩, by show 6 - (b + 1) < 6 - b; omega, ⟨(weakSl_cons rfl rfl (weakSl_cons rfl rfl (weakSl_cons rfl rfl (weakSl_cons rfl rfl (weakSl_cons rfl rfl (weakSl_cons (stepB b (by omega)) rfl weakSl_nil)))))), (weakHp_cons rfl rfl weakHp_nil), rfl⟩⟩
              | cons q2 qs2 =>
                conv => whnf
                have hlq : (q2 :: qs2).length ≤ 500 := by rw [hes2]; exact cur_len (by omega) (by omega) (by omega)
                simp only [List.length_cons] at hlq
                refine ⟨fun hlt => ?_, fun hge => ?_⟩ <;> conv => whnf
                · have hlt : (d : Int) - 1 ≤ 9 := hlt
                  have hsame := (fun hgo : goes g (mvReq cl n a b d) = false => (⟨by show d + 1 ≤ 11; omega, by show (q2 :: qs2) = cur g cl n a b (d + 1); rw [cur_y, ← hes2, mv1, hgo]; simp⟩ : MvInv 11 (cur g cl n a b) ⟨d + 1, (q2 :: qs2)⟩))
                  refine call_bool (l1Ok_ok (mvReq cl n a b d)) (fun hR => ?_) (fun hR => ?_) <;> conv => whnf
                  · have hfit : ReqIn (mvReq cl n a b d) := ⟨⟨by simp only [mvReq]; omega, by simp only [mvReq]; omega⟩, .inr ⟨hc1, hc4⟩⟩
                    refine drawn_eq (copy_ok fa fb fc g (by omega) (by omega) (by omega)) ?_
                    conv => whnf
                    refine drawn_eq (do_ok ⟨false, false, false, g⟩ (mvReq cl n a b d) (good_fit hg) (good_life hg) hfit) ?_
                    conv => whnf
                    have hds := do_same false false false g (mvReq cl n a b d)
                    refine ⟨fun hz => ?_, fun hz => ?_⟩ <;> conv => whnf
                    · have hgo : goes g (mvReq cl n a b d) = true := by unfold goes; rw [hR, hds]; simpa using hz
                      refine ⟨by simp, room (by simp; omega) rfl, room' (by simp; omega), ?_⟩
                      conv => whnf
                      have happ : (q2 :: qs2).map encReq ++ [encReq (mvReq cl n a b d)] = (q2 :: (qs2 ++ [mvReq cl n a b d])).map encReq := by simp
                      have hgrow : ((q2 :: qs2).map encReq).length + 1 = (qs2 ++ [mvReq cl n a b d]).length + 1 := by simp
                      exact ⟨⟨⟨d + 1, (q2 :: (qs2 ++ [mvReq cl n a b d]))⟩, ⟨by show d + 1 ≤ 11; omega, by show (q2 :: (qs2 ++ [mvReq cl n a b d])) = cur g cl n a b (d + 1); rw [cur_y, ← hes2, mv1, hgo]; rfl⟩⟩, by show 11 - (d + 1) < 11 - d; omega, ⟨(weakSl_cons (congrArg (fun z => V.osl 72 5 z) happ) rfl (weakSl_cons rfl rfl (weakSl_cons rfl rfl (weakSl_cons rfl rfl (weakSl_cons rfl rfl (weakSl_cons rfl rfl (weakSl_cons (stepB d (by omega)) rfl weakSl_nil))))))), (weakHp_cons rfl rfl (weakHp_cons (congrArg (fun z => Obj.grow 5 z) hgrow) rfl weakHp_nil)), rfl⟩⟩
                    · exact ⟨⟨⟨d + 1, (q2 :: qs2)⟩, hsame (by unfold goes; rw [hR, hds]; simpa using hz)⟩, by show 11 - (d + 1) < 11 - d; omega, ⟨(weakSl_cons rfl rfl (weakSl_cons rfl rfl (weakSl_cons rfl rfl (weakSl_cons rfl rfl (weakSl_cons rfl rfl (weakSl_cons rfl rfl (weakSl_cons (stepB d (by omega)) rfl weakSl_nil))))))), (weakHp_cons rfl rfl (weakHp_cons rfl rfl weakHp_nil)), rfl⟩⟩
                  · exact ⟨⟨⟨d + 1, (q2 :: qs2)⟩, hsame (by unfold goes; rw [hR]; rfl)⟩, by show 11 - (d + 1) < 11 - d; omega, ⟨(weakSl_cons rfl rfl (weakSl_cons rfl rfl (weakSl_cons rfl rfl (weakSl_cons rfl rfl (weakSl_cons rfl rfl (weakSl_cons rfl rfl (weakSl_cons (stepB d (by omega)) rfl weakSl_nil))))))), (weakHp_cons rfl rfl (weakHp_cons rfl rfl weakHp_nil)), rfl⟩⟩
                · have hge : ¬ (d : Int) - 1 ≤ 9 := hge
                  have hd11 : d = 11 := by omega
                  exact ⟨⟨⟨b + 1, (q2 :: qs2)⟩, ⟨by show b + 1 ≤ 6; omega, by show (q2 :: qs2) = cur g cl n a (b + 1) 0; rw [cur_x, ← hd11]; exact hes2⟩⟩, by show 6 - (b + 1) < 6 - b; omega, ⟨(weakSl_cons rfl rfl (weakSl_cons rfl rfl (weakSl_cons rfl rfl (weakSl_cons rfl rfl (weakSl_cons rfl rfl (weakSl_cons (stepB b (by omega)) rfl weakSl_nil)))))), (weakHp_cons rfl rfl (weakHp_cons rfl rfl weakHp_nil)), rfl⟩⟩
            · have hge : ¬ (b : Int) - 1 ≤ 4 := hge
              have hb6 : b = 6 := by omega
              exact ⟨⟨⟨a + 1, []⟩, ⟨by show a + 1 ≤ 5; omega, by show [] = cur g cl n (a + 1) 0 0; rw [cur_o, ← hb6]; exact hes1⟩⟩, by show 5 - (a + 1) < 5 - a; omega, ⟨(weakSl_cons rfl rfl (weakSl_cons rfl rfl (weakSl_cons rfl rfl (weakSl_cons rfl rfl (weakSl_cons (stepA a (by omega)) rfl weakSl_nil))))), (weakHp_cons rfl rfl weakHp_nil), rfl⟩⟩
          | cons q1 qs1 =>
            conv => whnf
            refine ⟨fun hlt => ?_, fun hge => ?_⟩ <;> conv => whnf
            · have hlt : (b : Int) - 1 ≤ 4 := hlt
              refine ⟨{ x : MIx // MvInv 11 (cur g cl n a b) x }, fun x => MS 72 (.box [.d (dEnts fa g.ents), .d (dInts fb g.floor), .d (dInts fc g.last)]) [(1, vi cl), (2, .ref 2 0 0 0), (6, vi n), (7, vi ((a : Int) + 1)), (8, vi ((b : Int) - 1)), (9, vi ((x.1.i : Int) - 1))] x.1.es, fun x => 11 - x.1.i, ⟨⟨0, (q1 :: qs1)⟩, ⟨by simp, hes1⟩⟩, ?_, ?_⟩
              · exact ⟨(weakSl_cons rfl rfl (weakSl_cons rfl rfl (weakSl_cons rfl rfl (weakSl_cons rfl rfl (weakSl_cons rfl rfl (weakSl_cons rfl rfl (weakSl_cons rfl rfl weakSl_nil))))))), (weakHp_cons rfl rfl (weakHp_cons rfl rfl weakHp_nil)), rfl⟩
              rintro ⟨⟨d, es2⟩, hinv2⟩
              have hd : d ≤ 11 := hinv2.i
              have hes2 : es2 = cur g cl n a b d := hinv2.es
              cases es2 with
              | nil =>
                conv => whnf
                refine ⟨fun hlt => ?_, fun hge => ?_⟩ <;> conv => whnf
                · have hlt : (d : Int) - 1 ≤ 9 := hlt
                  have hsame := (fun hgo : goes g (mvReq cl n a b d) = false => (⟨by show d + 1 ≤ 11; omega, by show [] = cur g cl n a b (d + 1); rw [cur_y, ← hes2, mv1, hgo]; simp⟩ : MvInv 11 (cur g cl n a b) ⟨d + 1, []⟩))
                  refine call_bool (l1Ok_ok (mvReq cl n a b d)) (fun hR => ?_) (fun hR => ?_) <;> conv => whnf
                  · have hfit : ReqIn (mvReq cl n a b d) := ⟨⟨by simp only [mvReq]; omega, by simp only [mvReq]; omega⟩, .inr ⟨hc1, hc4⟩⟩
                    refine drawn_eq (copy_ok fa fb fc g (by omega) (by omega) (by omega)) ?_
                    conv => whnf
                    refine drawn_eq (do_ok ⟨false, false, false, g⟩ (mvReq cl n a b d) (good_fit hg) (good_life hg) hfit) ?_
                    conv => whnf
                    have hds := do_same false false false g (mvReq cl n a b d)
                    refine ⟨fun hz => ?_, fun hz => ?_⟩ <;> conv => whnf
                    · have hgo : goes g (mvReq cl n a b d) = true := by unfold goes; rw [hR, hds]; simpa using hz
                      refine ⟨room (by simp) rfl, room' (by simp), ?_⟩
                      conv => whnf
                      exact ⟨⟨⟨d + 1, [mvReq cl n a b d]⟩, ⟨by show d + 1 ≤ 11; omega, by show [mvReq cl n a b d] = cur g cl n a b (d + 1); rw [cur_y, ← hes2, mv1, hgo]; rfl⟩⟩, by show 11 - (d + 1) < 11 - d; omega, ⟨(weakSl_cons rfl rfl (weakSl_cons rfl rfl (weakSl_cons rfl rfl (weakSl_cons rfl rfl (weakSl_cons rfl rfl (weakSl_cons rfl rfl (weakSl_cons (stepB d (by omega)) rfl weakSl_nil))))))), (weakHp_cons rfl rfl (weakHp_cons rfl rfl weakHp_nil)), rfl⟩⟩
                    · exact ⟨⟨⟨d + 1, []⟩, hsame (by unfold goes; rw [hR, hds]; simpa using hz)⟩, by show 11 - (d + 1) < 11 - d; omega, ⟨(weakSl_cons rfl rfl (weakSl_cons rfl rfl (weakSl_cons rfl rfl (weakSl_cons rfl rfl (weakSl_cons rfl rfl (weakSl_cons rfl rfl (weakSl_cons (stepB d (by omega)) rfl weakSl_nil))))))), (weakHp_cons rfl rfl weakHp_nil), rfl⟩⟩
                  · exact ⟨⟨⟨d + 1, []⟩, hsame (by unfold goes; rw [hR]; rfl)⟩, by show 11 - (d + 1) < 11 - d; omega, ⟨(weakSl_cons rfl rfl (weakSl_cons rfl rfl (weakSl_cons rfl rfl (weakSl_cons rfl rfl (weakSl_cons rfl rfl (weakSl_cons rfl rfl (weakSl_cons (stepB d (by omega)) rfl weakSl_nil))))))), (weakHp_cons rfl rfl weakHp_nil), rfl⟩⟩
                · have hge : ¬ (d : Int) - 1 ≤ 9 := hge
                  have hd11 : d = 11 := by omega
                  exact ⟨⟨⟨b + 1, []⟩, ⟨by show b + 1 ≤ 6; omega, by show [] = cur g cl n a (b + 1) 0; rw [cur_x, ← hd11]; exact hes2⟩⟩, by show 6 - (b + 1) < 6 - b; omega, ⟨(weakSl_cons rfl rfl (weakSl_cons rfl rfl (weakSl_cons rfl rfl (weakSl_cons rfl rfl (weakSl_cons rfl rfl (weakSl_cons (stepB b (by omega)) rfl weakSl_nil)))))), (weakHp_cons rfl rfl weakHp_nil), rfl⟩⟩
              | cons q2 qs2 =>
                conv => whnf
                have hlq : (q2 :: qs2).length ≤ 500 := by rw [hes2]; exact cur_len (by omega) (by omega) (by omega)
                simp only [List.length_cons] at hlq
                refine ⟨fun hlt => ?_, fun hge => ?_⟩ <;> conv => whnf
                · have hlt : (d : Int) - 1 ≤ 9 := hlt
                  have hsame := (fun hgo : goes g (mvReq cl n a b d) = false => (⟨by show d + 1 ≤ 11; omega, by show (q2 :: qs2) = cur g cl n a b (d + 1); rw [cur_y, ← hes2, mv1, hgo]; simp⟩ : MvInv 11 (cur g cl n a b) ⟨d + 1, (q2 :: qs2)⟩))
                  refine call_bool (l1Ok_ok (mvReq cl n a b d)) (fun hR => ?_) (fun hR => ?_) <;> conv => whnf
                  · have hfit : ReqIn (mvReq cl n a b d) := ⟨⟨by simp only [mvReq]; omega, by simp only [mvReq]; omega⟩, .inr ⟨hc1, hc4⟩⟩
                    refine drawn_eq (copy_ok fa fb fc g (by omega) (by omega) (by omega)) ?_
                    conv => whnf
                    refine drawn_eq (do_ok ⟨false, false, false, g⟩ (mvReq cl n a b d) (good_fit hg) (good_life hg) hfit) ?_
                    conv => whnf
                    have hds := do_same false false false g (mvReq cl n a b d)
                    refine ⟨fun hz => ?_, fun hz => ?_⟩ <;> conv => whnf
                    · have hgo : goes g (mvReq cl n a b d) = true := by unfold goes; rw [hR, hds]; simpa using hz
                      refine ⟨by simp, room (by simp; omega) rfl, room' (by simp; omega), ?_⟩
                      conv => whnf
                      have happ : (q2 :: qs2).map encReq ++ [encReq (mvReq cl n a b d)] = (q2 :: (qs2 ++ [mvReq cl n a b d])).map encReq := by simp
                      have hgrow : ((q2 :: qs2).map encReq).length + 1 = (qs2 ++ [mvReq cl n a b d]).length + 1 := by simp
                      exact ⟨⟨⟨d + 1, (q2 :: (qs2 ++ [mvReq cl n a b d]))⟩, ⟨by show d + 1 ≤ 11; omega, by show (q2 :: (qs2 ++ [mvReq cl n a b d])) = cur g cl n a b (d + 1); rw [cur_y, ← hes2, mv1, hgo]; rfl⟩⟩, by show 11 - (d + 1) < 11 - d; omega, ⟨(weakSl_cons (congrArg (fun z => V.osl 72 5 z) happ) rfl (weakSl_cons rfl rfl (weakSl_cons rfl rfl (weakSl_cons rfl rfl (weakSl_cons rfl rfl (weakSl_cons rfl rfl (weakSl_cons (stepB d (by omega)) rfl weakSl_nil))))))), (weakHp_cons rfl rfl (weakHp_cons (congrArg (fun z => Obj.grow 5 z) hgrow) rfl weakHp_nil)), rfl⟩⟩
                    · exact ⟨⟨⟨d + 1, (q2 :: qs2)⟩, hsame (by unfold goes; rw [hR, hds]; simpa using hz)⟩, by show 11 - (d + 1) < 11 - d; omega, ⟨(weakSl_cons rfl rfl (weakSl_cons rfl rfl (weakSl_cons rfl rfl (weakSl_cons rfl rfl (weakSl_cons rfl rfl (weakSl_cons rfl rfl (weakSl_cons (stepB d (by omega)) rfl weakSl_nil))))))), (weakHp_cons rfl rfl (weakHp_cons rfl rfl weakHp_nil)), rfl⟩⟩
                  · exact ⟨⟨⟨d + 1, (q2 :: qs2)⟩, hsame (by unfold goes; rw [hR]; rfl)⟩, by show 11 - (d + 1) < 11 - d; omega, ⟨(weakSl_cons rfl rfl (weakSl_cons rfl rfl (weakSl_cons rfl rfl (weakSl_cons rfl rfl (weakSl_cons rfl rfl (weakSl_cons rfl rfl (weakSl_cons (stepB d (by omega)) rfl weakSl_nil))))))), (weakHp_cons rfl rfl (weakHp_cons rfl rfl weakHp_nil)), rfl⟩⟩
                · have hge : ¬ (d : Int) - 1 ≤ 9 := hge
                  have hd11 : d = 11 := by omega
                  exact ⟨⟨⟨b + 1, (q2 :: qs2)⟩, ⟨by show b + 1 ≤ 6; omega, by show (q2 :: qs2) = cur g cl n a (b + 1) 0; rw [cur_x, ← hd11]; exact hes2⟩⟩, by show 6 - (b + 1) < 6 - b; omega, ⟨(weakSl_cons rfl rfl (weakSl_cons rfl rfl (weakSl_cons rfl rfl (weakSl_cons rfl rfl (weakSl_cons rfl rfl (weakSl_cons (stepB b (by omega)) rfl weakSl_nil)))))), (weakHp_cons rfl rfl (weakHp_cons rfl rfl weakHp_nil)), rfl⟩⟩
            · have hge : ¬ (b : Int) - 1 ≤ 4 := hge
              have hb6 : b = 6 := by omega
              exact ⟨⟨⟨a + 1, (q1 :: qs1)⟩, ⟨by show a + 1 ≤ 5; omega, by show (q1 :: qs1) = cur g cl n (a + 1) 0 0; rw [cur_o, ← hb6]; exact hes1⟩⟩, by show 5 - (a + 1) < 5 - a; omega, ⟨(weakSl_cons rfl rfl (weakSl_cons rfl rfl (weakSl_cons rfl rfl (weakSl_cons rfl rfl (weakSl_cons (stepA a (by omega)) rfl weakSl_nil))))), (weakHp_cons rfl rfl (weakHp_cons rfl rfl weakHp_nil)), rfl⟩⟩
        · have hge : ¬ (a : Int) + 1 ≤ 5 := hge
          have ha5 : a = 5 := by omega
          have hes5 : (q0 :: qs0) = cur g cl n 5 0 0 := by rw [← ha5]; exact hes0
          refine (?_ : V.d _ = seeMvS g cl)
          rw [seeMvS, if_pos hyes, ← hn, ← hes5]
          rfl
    · exact no (fun h => by have := h.2.1; rw [hin] at this; simp at this) rfl
  · exact no (fun h => by have := h.1; rw [hok] at this; simp at this) rfl
end Go.Proofs.Ytnnmkenloijkcaa
