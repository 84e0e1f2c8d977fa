/- The asks that are drawn. -/
import Derived.Test.YtnnmkenloijkcaaDrawB
set_option linter.unusedVariables false
set_option maxRecDepth 10000
namespace Go.Proofs.Ytnnmkenloijkcaa
open Go Eng

theorem req_use {full : Bool} {bs : List Int} (hb : Bytes bs) {p : Int} (h0 : 0 ≤ p) (h1 : p ≤ 1099511627000) {s : St} (hs : s.hp 1000 = .box (rdC full bs p)) {K : HP → V → HP → Prop}
    (k : ∀ q p', (p ≤ p' ∧ p' ≤ p + 10) → (1 ≤ q.client ∧ q.client ≤ 3 ∧ 1 ≤ q.num ∧ q.num ≤ 6 ∧ -1 ≤ q.x ∧ q.x ≤ 3 ∧ -1 ≤ q.y ∧ q.y ≤ 3 ∧ (q.op ≠ 2 → 0 ≤ q.y)) → K (Rd 1000 full bs p) (vReq q) (Rd 1000 full bs p')) :
    ∃ hin φ, HCalls Try.prog G0 74 (hpOf hin) [.ref 1000 0 0 0] φ ∧ weakHp s (hin.map (·.1)) hin ∧ okVs (hin.map (·.1)) [.ref 1000 0 0 0] = true ∧ ∀ r l, φ r l → K hin r l :=
  ⟨_, _, req_ok full bs hb p h0 h1, ⟨hs, rfl, trivial⟩, rfl, fun r l ⟨q, p', e1, e2, h3, h4⟩ => by subst e1; subst e2; exact k q p' h3 h4⟩

structure DIn where
  n : Nat
  p : Int
  rows : List (List D)
  nums : List Int
structure DInv (p : Int) (x : DIn) : Prop where
  n : x.rows.length + x.n ≤ 40
  p : p ≤ x.p ∧ x.p ≤ p + 15 * x.rows.length + 1
  list : ∃ list : List Req, x.rows = list.map encReq ∧ ∀ q ∈ list, ReqOk q
  len : x.nums.length = 3
  nums : ∀ m ∈ x.nums, 0 ≤ m ∧ m ≤ 30
def DI (full : Bool) (bs : List Int) (x : DIn) : SL :=
  match x.rows with
  | [] => ⟨[(0, .ref 1000 0 0 0), (5, .d (.slc true 5 [])), (6, .own 11), (7, vi x.n)], [(1000, .box (rdC full bs x.p)), (11, .arr true 1 (x.nums.map encI))]⟩
  | r :: rs => ⟨[(0, .ref 1000 0 0 0), (5, .osl 66 5 (r :: rs)), (6, .own 11), (7, vi x.n)], [(1000, .box (rdC full bs x.p)), (11, .arr true 1 (x.nums.map encI)), (66, .grow 5 (rs.length + 1))]⟩

theorem reqOk0 : ReqOk Req0 := ⟨by simp [Req0], by simp [Req0], .inl (by simp [reqNone, Req0])⟩
theorem reqOkJ {q : Req} (hq : 1 ≤ q.client ∧ q.client ≤ 3 ∧ 1 ≤ q.num ∧ q.num ≤ 6 ∧ -1 ≤ q.x ∧ q.x ≤ 3 ∧ -1 ≤ q.y ∧ q.y ≤ 3 ∧ (q.op ≠ 2 → 0 ≤ q.y)) : ReqOk ⟨q.client, 1, 1, 0, 0⟩ :=
  ⟨by simp, by simp, .inr ⟨hq.1, by show q.client ≤ 4; omega, by simp, by simp⟩⟩
theorem reqOkN {q : Req} (hq : 1 ≤ q.client ∧ q.client ≤ 3 ∧ 1 ≤ q.num ∧ q.num ≤ 6 ∧ -1 ≤ q.x ∧ q.x ≤ 3 ∧ -1 ≤ q.y ∧ q.y ≤ 3 ∧ (q.op ≠ 2 → 0 ≤ q.y)) {n : Int} (hn : n ≤ 30) : ReqOk ⟨q.client, n, q.op, q.x, q.y⟩ :=
  ⟨by dsimp only; omega, by dsimp only; omega, .inr ⟨hq.1, by show q.client ≤ 4; omega, hn, hq.2.2.2.2.2.2.2.2⟩⟩
theorem reqOkQ {q : Req} (hq : 1 ≤ q.client ∧ q.client ≤ 3 ∧ 1 ≤ q.num ∧ q.num ≤ 6 ∧ -1 ≤ q.x ∧ q.x ≤ 3 ∧ -1 ≤ q.y ∧ q.y ≤ 3 ∧ (q.op ≠ 2 → 0 ≤ q.y)) : ReqOk q := reqOkN hq (by omega)
theorem dnext {p : Int} {full : Bool} {bs : List Int} {x : DIn} (hx : DInv p x) (hn : 0 < x.n) {s : St} {q : Req} {p' : Int} {nums : List Int} (hp : x.p ≤ p' ∧ p' ≤ x.p + 15) (hq : ReqOk q) (hl : nums.length = 3) (hm : ∀ m ∈ nums, 0 ≤ m ∧ m ≤ 30)
    (h0 : s.sl 0 = .ref 1000 0 0 0) (h5 : s.sl 5 = .osl 66 5 (x.rows ++ [encReq q])) (h6 : s.sl 6 = .own 11) (h7 : s.sl 7 = vi (IntKind.i64.wrap ((x.n : Int) - 1)))
    (g0 : s.hp 1000 = .box (rdC full bs p')) {rn : List (List D)} (e1 : rn = nums.map encI) (g1 : s.hp 11 = .arr true 1 rn) (g2 : s.hp 66 = .grow 5 (x.rows.length + 1)) :
    ∃ y : { x : DIn // DInv p x }, y.1.n < x.n ∧ Weak [1000] s (DI full bs y.1) := by
  have hxn := hx.n
  refine ⟨⟨⟨x.n - 1, p', x.rows ++ [encReq q], nums⟩, by simp; omega, by have := hx.p; simp; omega, ?_, hl, hm⟩, by simp; omega, ?_⟩
  · obtain ⟨l, h1, h2⟩ := hx.list
    refine ⟨l ++ [q], by simp [h1], fun r hr => ?_⟩
    rcases List.mem_append.1 hr with hr | hr
    · exact h2 r hr
    · simp at hr; subst hr; exact hq
  · have hw : vi (IntKind.i64.wrap ((x.n : Int) - 1)) = vi ((x.n - 1 : Nat) : Int) := congrArg vi (by rw [wrap_id (by omega) (by omega)]; omega)
    rw [hw] at h7
    have : ∃ r rs, x.rows ++ [encReq q] = r :: rs ∧ rs.length = x.rows.length := by
      cases x.rows with
      | nil => exact ⟨_, _, rfl, rfl⟩
      | cons r rs => exact ⟨r, rs ++ [encReq q], rfl, by simp⟩
    obtain ⟨r, rs, e, el⟩ := this
    rw [e] at h5
    unfold DI
    simp only [e]
    rw [← el] at g2
    subst e1
    exact ⟨weakSl_cons h0 rfl (weakSl_cons h5 rfl (weakSl_cons h6 rfl (weakSl_cons h7 rfl weakSl_nil))), weakHp_cons g0 rfl (weakHp_cons g1 rfl (weakHp_cons g2 rfl weakHp_nil)), rfl⟩

theorem reqs_ok (full : Bool) (bs : List Int) (hb : Bytes bs) (p : Int) (h0 : 0 ≤ p) (h1 : p ≤ 1099511620000) (most : Int) (m0 : 0 ≤ most) (m1 : most ≤ 40) : HCalls Try.prog G0 86 (hpOf (Rd 1000 full bs p)) [.ref 1000 0 0 0, vi most]
    (fun r l => ∃ (f : Bool) (list : List Req) (p' : Int), r = .d (.slc f 5 (list.map encReq)) ∧ l = Rd 1000 full bs p' ∧ (p ≤ p' ∧ p' ≤ p + 1000) ∧ ∀ q ∈ list, ReqOk q) := by
  refine hspec tabOk Try.func86 (by kernel_rfl) false [11] [45, 74] rfl ?_
  conv => whnf
  refine hcall_box (pick_ok full bs hb p _ h0 (by omega) 1000) rfl rfl rfl ⟨⟨trivial, trivial⟩, ?_⟩
  conv => whnf
  have wm : IntKind.i64.wrap (most + 1) = most + 1 := wrap_id (by omega) (by omega)
  have k1 := pick_range (n := most + 1) hb h0 (by omega)
  have hn0 : ((pickF bs p (most + 1)).toNat : Int) = pickF bs p (most + 1) := by omega
  refine ⟨{ x : DIn // DInv p x }, fun x => DI full bs x.1, fun x => x.1.n, ⟨⟨(pickF bs p (most + 1)).toNat, p + 1, [], [0, 0, 0]⟩, by simp; omega, by simp; omega, ⟨[], rfl, by simp⟩, rfl, by simp⟩, ?_, ?_⟩
  · refine ⟨?_, ?_, rfl⟩ <;> repeat' (first | exact weakSl_nil | exact weakHp_nil | refine weakSl_cons ?_ rfl ?_ | refine weakHp_cons ?_ rfl ?_)
    · rfl
    · rfl
    · rfl
    · exact congrArg vi (by rw [wm]; exact hn0.symm)
    · rfl
    · rfl
  have fin : ∀ (x : DIn) (s : St) (f0 : Bool), DInv p x → s.hp 1000 = .box (rdC full bs x.p) → ∃ l, HRest s [1000] l ∧ ∃ (f : Bool) (list : List Req) (p' : Int), V.d (.slc f0 5 x.rows) = .d (.slc f 5 (list.map encReq)) ∧ l = Rd 1000 full bs p' ∧ (p ≤ p' ∧ p' ≤ p + 1000) ∧ ∀ q ∈ list, ReqOk q := fun x s f0 hx hs => by
    obtain ⟨list, e1, e2⟩ := hx.list
    have := hx.p
    have := hx.n
    exact ⟨Rd 1000 full bs x.p, ⟨weakHp_cons hs rfl weakHp_nil, rfl, rfl⟩, f0, list, x.p, by rw [e1], rfl, by omega, e2⟩
  rintro ⟨⟨n, p', rows, nums⟩, hinv⟩
  cases rows with
  | nil =>
    conv => whnf
    refine ⟨fun hn => ?_, fun hn => ?_⟩ <;> conv => whnf
    · have hn' : 0 < n := by have hh : (0 : Int) < n := hn; omega
      have hxn := hinv.n
      have hxp := hinv.p
      have hlen : nums.length = 3 := hinv.len
      have hnums : ∀ m ∈ nums, 0 ≤ m ∧ m ≤ 30 := hinv.nums
      simp only [List.length_nil, List.length_cons] at hxn hxp
      refine req_use hb (p := p') (by omega) (by omega) rfl (fun q p1 hp1 hq => ?_)
      refine ⟨⟨trivial, trivial⟩, ?_⟩
      conv => whnf
      have wc : IntKind.i64.wrap (q.client - 1) = q.client - 1 := wrap_id (by omega) (by omega)
      have hold := hnums _ (intAt_mem (l := nums) (k := q.client - 1) (by omega))
      have wn : IntKind.i64.wrap (intAt nums (q.client - 1) + 1) = intAt nums (q.client - 1) + 1 := wrap_id (by omega) (by omega)
      refine ⟨by rw [wc]; omega, by rw [wc]; simp; omega, ?_⟩
      conv => whnf
      refine ⟨encI (intAt nums (q.client - 1)), by rw [wc]; exact intAt_row (l := nums) (by omega) (by omega), ?_⟩
      conv => whnf
      refine ⟨fun h30 => ?_, fun h30 => ?_⟩ <;> conv => whnf
      · refine hcall_box (pick_ok full bs hb _ _ (by omega) (by omega) 1000) rfl rfl rfl ⟨⟨trivial, trivial⟩, ?_⟩
        conv => whnf
        refine ⟨fun h8 => ?_, fun h8 => ?_⟩ <;> conv => whnf
        · refine ⟨by rw [wc]; omega, by rw [wc]; simp; omega, ?_⟩
          conv => whnf
          refine ⟨encI (intAt nums (q.client - 1)), by rw [wc]; exact intAt_row (l := nums) (by omega) (by omega), ?_⟩
          conv => whnf
          refine ⟨by rw [wc]; omega, by rw [wc]; simp; omega, ?_⟩
          conv => whnf
          refine ⟨encI (intAt nums (q.client - 1)), by rw [wc]; exact intAt_row (l := nums) (by omega) (by omega), ?_⟩
          conv => whnf
          have hrow : (nums.map encI).set (IntKind.i64.wrap (q.client - 1)).toNat (encI (IntKind.i64.wrap (intAt nums (q.client - 1) + 1))) = (nums.set (q.client - 1).toNat (intAt nums (q.client - 1) + 1)).map encI := by rw [wc, wn]; exact set_row rfl
          have hset : ∀ m ∈ nums.set (q.client - 1).toNat (intAt nums (q.client - 1) + 1), 0 ≤ m ∧ m ≤ 30 := fun m hm => by
            rcases mem_set hm with rfl | hm
            · omega
            · exact hnums m hm
          refine ⟨by rw [wc]; omega, by rw [wc]; simp; omega, ?_⟩
          conv => whnf
          refine ⟨encI (intAt nums (q.client - 1) + 1), by rw [wc, wn]; exact set_get (l := nums) rfl (by omega), ?_⟩
          conv => whnf
          refine ⟨fun hpos => ?_, fun hpos => ?_⟩ <;> conv => whnf
          · refine ⟨by rw [wc]; omega, by rw [wc]; simp; omega, ?_⟩
            conv => whnf
            refine ⟨encI (intAt nums (q.client - 1) + 1), by rw [wc, wn]; exact set_get (l := nums) rfl (by omega), ?_⟩
            conv => whnf
            refine ⟨fun hone => ?_, fun hone => ?_⟩ <;> conv => whnf
            · refine hcall_box (pick_ok full bs hb _ _ (by omega) (by omega) 1000) rfl rfl rfl ⟨⟨trivial, trivial⟩, ?_⟩
              conv => whnf
              refine ⟨fun h12 => ?_, fun h12 => ?_⟩ <;> conv => whnf
              · refine ⟨room (by simp) rfl, room' (by simp), ?_⟩
                conv => whnf
                exact dnext (q := Req0) hinv hn' (p' := (p1 + 1) + 1) (by dsimp only; omega) reqOk0 (nums := nums.set (q.client - 1).toNat (intAt nums (q.client - 1) + 1)) (by simp [hlen]) hset rfl rfl rfl rfl rfl hrow rfl rfl
              · refine ⟨room (by simp) rfl, room' (by simp), ?_⟩
                conv => whnf
                exact dnext (q := ⟨q.client, 1, 1, 0, 0⟩) hinv hn' (p' := (p1 + 1) + 1) (by dsimp only; omega) (reqOkJ hq) (nums := nums.set (q.client - 1).toNat (intAt nums (q.client - 1) + 1)) (by simp [hlen]) hset rfl rfl rfl rfl rfl hrow rfl rfl
            · refine hcall_box (pick_ok full bs hb _ _ (by omega) (by omega) 1000) rfl rfl rfl ⟨⟨trivial, trivial⟩, ?_⟩
              conv => whnf
              refine ⟨fun h12 => ?_, fun h12 => ?_⟩ <;> conv => whnf
              · refine ⟨room (by simp) rfl, room' (by simp), ?_⟩
                conv => whnf
                exact dnext (q := Req0) hinv hn' (p' := (p1 + 1) + 1) (by dsimp only; omega) reqOk0 (nums := nums.set (q.client - 1).toNat (intAt nums (q.client - 1) + 1)) (by simp [hlen]) hset rfl rfl rfl rfl rfl hrow rfl rfl
              · refine ⟨room (by simp) rfl, room' (by simp), ?_⟩
                conv => whnf
                exact dnext (q := ⟨q.client, (intAt nums (q.client - 1) + 1), q.op, q.x, q.y⟩) hinv hn' (p' := (p1 + 1) + 1) (by dsimp only; omega) (reqOkN hq (by omega)) (nums := nums.set (q.client - 1).toNat (intAt nums (q.client - 1) + 1)) (by simp [hlen]) hset rfl rfl rfl rfl rfl hrow rfl rfl
          · refine ⟨fun hone => ?_, fun hone => ?_⟩ <;> conv => whnf
            · refine hcall_box (pick_ok full bs hb _ _ (by omega) (by omega) 1000) rfl rfl rfl ⟨⟨trivial, trivial⟩, ?_⟩
              conv => whnf
              refine ⟨fun h12 => ?_, fun h12 => ?_⟩ <;> conv => whnf
              · refine ⟨room (by simp) rfl, room' (by simp), ?_⟩
                conv => whnf
                exact dnext (q := Req0) hinv hn' (p' := (p1 + 1) + 1) (by dsimp only; omega) reqOk0 (nums := nums.set (q.client - 1).toNat (intAt nums (q.client - 1) + 1)) (by simp [hlen]) hset rfl rfl rfl rfl rfl hrow rfl rfl
              · refine ⟨room (by simp) rfl, room' (by simp), ?_⟩
                conv => whnf
                exact dnext (q := ⟨q.client, 1, 1, 0, 0⟩) hinv hn' (p' := (p1 + 1) + 1) (by dsimp only; omega) (reqOkJ hq) (nums := nums.set (q.client - 1).toNat (intAt nums (q.client - 1) + 1)) (by simp [hlen]) hset rfl rfl rfl rfl rfl hrow rfl rfl
            · refine hcall_box (pick_ok full bs hb _ _ (by omega) (by omega) 1000) rfl rfl rfl ⟨⟨trivial, trivial⟩, ?_⟩
              conv => whnf
              refine ⟨fun h12 => ?_, fun h12 => ?_⟩ <;> conv => whnf
              · refine ⟨room (by simp) rfl, room' (by simp), ?_⟩
                conv => whnf
                exact dnext (q := Req0) hinv hn' (p' := (p1 + 1) + 1) (by dsimp only; omega) reqOk0 (nums := nums.set (q.client - 1).toNat (intAt nums (q.client - 1) + 1)) (by simp [hlen]) hset rfl rfl rfl rfl rfl hrow rfl rfl
              · refine ⟨room (by simp) rfl, room' (by simp), ?_⟩
                conv => whnf
                exact dnext (q := q) hinv hn' (p' := (p1 + 1) + 1) (by dsimp only; omega) (reqOkQ hq) (nums := nums.set (q.client - 1).toNat (intAt nums (q.client - 1) + 1)) (by simp [hlen]) hset rfl rfl rfl rfl rfl hrow rfl rfl
        · skip
          refine ⟨by rw [wc]; omega, by rw [wc]; simp; omega, ?_⟩
          conv => whnf
          refine ⟨encI (intAt nums (q.client - 1)), by rw [wc]; exact intAt_row (l := nums) (by omega) (by omega), ?_⟩
          conv => whnf
          refine ⟨fun hpos => ?_, fun hpos => ?_⟩ <;> conv => whnf
          · refine ⟨by rw [wc]; omega, by rw [wc]; simp; omega, ?_⟩
            conv => whnf
            refine ⟨encI (intAt nums (q.client - 1)), by rw [wc]; exact intAt_row (l := nums) (by omega) (by omega), ?_⟩
            conv => whnf
            refine ⟨fun hone => ?_, fun hone => ?_⟩ <;> conv => whnf
            · refine hcall_box (pick_ok full bs hb _ _ (by omega) (by omega) 1000) rfl rfl rfl ⟨⟨trivial, trivial⟩, ?_⟩
              conv => whnf
              refine ⟨fun h12 => ?_, fun h12 => ?_⟩ <;> conv => whnf
              · refine ⟨room (by simp) rfl, room' (by simp), ?_⟩
                conv => whnf
                exact dnext (q := Req0) hinv hn' (p' := (p1 + 1) + 1) (by dsimp only; omega) reqOk0 (nums := nums) hlen hnums rfl rfl rfl rfl rfl rfl rfl rfl
              · refine ⟨room (by simp) rfl, room' (by simp), ?_⟩
                conv => whnf
                exact dnext (q := ⟨q.client, 1, 1, 0, 0⟩) hinv hn' (p' := (p1 + 1) + 1) (by dsimp only; omega) (reqOkJ hq) (nums := nums) hlen hnums rfl rfl rfl rfl rfl rfl rfl rfl
            · refine hcall_box (pick_ok full bs hb _ _ (by omega) (by omega) 1000) rfl rfl rfl ⟨⟨trivial, trivial⟩, ?_⟩
              conv => whnf
              refine ⟨fun h12 => ?_, fun h12 => ?_⟩ <;> conv => whnf
              · refine ⟨room (by simp) rfl, room' (by simp), ?_⟩
                conv => whnf
                exact dnext (q := Req0) hinv hn' (p' := (p1 + 1) + 1) (by dsimp only; omega) reqOk0 (nums := nums) hlen hnums rfl rfl rfl rfl rfl rfl rfl rfl
              · refine ⟨room (by simp) rfl, room' (by simp), ?_⟩
                conv => whnf
                exact dnext (q := ⟨q.client, (intAt nums (q.client - 1)), q.op, q.x, q.y⟩) hinv hn' (p' := (p1 + 1) + 1) (by dsimp only; omega) (reqOkN hq (by omega)) (nums := nums) hlen hnums rfl rfl rfl rfl rfl rfl rfl rfl
          · refine ⟨fun hone => ?_, fun hone => ?_⟩ <;> conv => whnf
            · refine hcall_box (pick_ok full bs hb _ _ (by omega) (by omega) 1000) rfl rfl rfl ⟨⟨trivial, trivial⟩, ?_⟩
              conv => whnf
              refine ⟨fun h12 => ?_, fun h12 => ?_⟩ <;> conv => whnf
              · refine ⟨room (by simp) rfl, room' (by simp), ?_⟩
                conv => whnf
                exact dnext (q := Req0) hinv hn' (p' := (p1 + 1) + 1) (by dsimp only; omega) reqOk0 (nums := nums) hlen hnums rfl rfl rfl rfl rfl rfl rfl rfl
              · refine ⟨room (by simp) rfl, room' (by simp), ?_⟩
                conv => whnf
                exact dnext (q := ⟨q.client, 1, 1, 0, 0⟩) hinv hn' (p' := (p1 + 1) + 1) (by dsimp only; omega) (reqOkJ hq) (nums := nums) hlen hnums rfl rfl rfl rfl rfl rfl rfl rfl
            · refine hcall_box (pick_ok full bs hb _ _ (by omega) (by omega) 1000) rfl rfl rfl ⟨⟨trivial, trivial⟩, ?_⟩
              conv => whnf
              refine ⟨fun h12 => ?_, fun h12 => ?_⟩ <;> conv => whnf
              · refine ⟨room (by simp) rfl, room' (by simp), ?_⟩
                conv => whnf
                exact dnext (q := Req0) hinv hn' (p' := (p1 + 1) + 1) (by dsimp only; omega) reqOk0 (nums := nums) hlen hnums rfl rfl rfl rfl rfl rfl rfl rfl
              · refine ⟨room (by simp) rfl, room' (by simp), ?_⟩
                conv => whnf
                exact dnext (q := q) hinv hn' (p' := (p1 + 1) + 1) (by dsimp only; omega) (reqOkQ hq) (nums := nums) hlen hnums rfl rfl rfl rfl rfl rfl rfl rfl
      · skip
        refine ⟨by rw [wc]; omega, by rw [wc]; simp; omega, ?_⟩
        conv => whnf
        refine ⟨encI (intAt nums (q.client - 1)), by rw [wc]; exact intAt_row (l := nums) (by omega) (by omega), ?_⟩
        conv => whnf
        refine ⟨fun hpos => ?_, fun hpos => ?_⟩ <;> conv => whnf
        · refine ⟨by rw [wc]; omega, by rw [wc]; simp; omega, ?_⟩
          conv => whnf
          refine ⟨encI (intAt nums (q.client - 1)), by rw [wc]; exact intAt_row (l := nums) (by omega) (by omega), ?_⟩
          conv => whnf
          refine ⟨fun hone => ?_, fun hone => ?_⟩ <;> conv => whnf
          · refine hcall_box (pick_ok full bs hb _ _ (by omega) (by omega) 1000) rfl rfl rfl ⟨⟨trivial, trivial⟩, ?_⟩
            conv => whnf
            refine ⟨fun h12 => ?_, fun h12 => ?_⟩ <;> conv => whnf
            · refine ⟨room (by simp) rfl, room' (by simp), ?_⟩
              conv => whnf
              exact dnext (q := Req0) hinv hn' (p' := p1 + 1) (by dsimp only; omega) reqOk0 (nums := nums) hlen hnums rfl rfl rfl rfl rfl rfl rfl rfl
            · refine ⟨room (by simp) rfl, room' (by simp), ?_⟩
              conv => whnf
              exact dnext (q := ⟨q.client, 1, 1, 0, 0⟩) hinv hn' (p' := p1 + 1) (by dsimp only; omega) (reqOkJ hq) (nums := nums) hlen hnums rfl rfl rfl rfl rfl rfl rfl rfl
          · refine hcall_box (pick_ok full bs hb _ _ (by omega) (by omega) 1000) rfl rfl rfl ⟨⟨trivial, trivial⟩, ?_⟩
            conv => whnf
            refine ⟨fun h12 => ?_, fun h12 => ?_⟩ <;> conv => whnf
            · refine ⟨room (by simp) rfl, room' (by simp), ?_⟩
              conv => whnf
              exact dnext (q := Req0) hinv hn' (p' := p1 + 1) (by dsimp only; omega) reqOk0 (nums := nums) hlen hnums rfl rfl rfl rfl rfl rfl rfl rfl
            · refine ⟨room (by simp) rfl, room' (by simp), ?_⟩
              conv => whnf
              exact dnext (q := ⟨q.client, (intAt nums (q.client - 1)), q.op, q.x, q.y⟩) hinv hn' (p' := p1 + 1) (by dsimp only; omega) (reqOkN hq (by omega)) (nums := nums) hlen hnums rfl rfl rfl rfl rfl rfl rfl rfl
        · refine ⟨fun hone => ?_, fun hone => ?_⟩ <;> conv => whnf
          · refine hcall_box (pick_ok full bs hb _ _ (by omega) (by omega) 1000) rfl rfl rfl ⟨⟨trivial, trivial⟩, ?_⟩
            conv => whnf
            refine ⟨fun h12 => ?_, fun h12 => ?_⟩ <;> conv => whnf
            · refine ⟨room (by simp) rfl, room' (by simp), ?_⟩
              conv => whnf
              exact dnext (q := Req0) hinv hn' (p' := p1 + 1) (by dsimp only; omega) reqOk0 (nums := nums) hlen hnums rfl rfl rfl rfl rfl rfl rfl rfl
            · refine ⟨room (by simp) rfl, room' (by simp), ?_⟩
              conv => whnf
              exact dnext (q := ⟨q.client, 1, 1, 0, 0⟩) hinv hn' (p' := p1 + 1) (by dsimp only; omega) (reqOkJ hq) (nums := nums) hlen hnums rfl rfl rfl rfl rfl rfl rfl rfl
          · refine hcall_box (pick_ok full bs hb _ _ (by omega) (by omega) 1000) rfl rfl rfl ⟨⟨trivial, trivial⟩, ?_⟩
            conv => whnf
            refine ⟨fun h12 => ?_, fun h12 => ?_⟩ <;> conv => whnf
            · refine ⟨room (by simp) rfl, room' (by simp), ?_⟩
              conv => whnf
              exact dnext (q := Req0) hinv hn' (p' := p1 + 1) (by dsimp only; omega) reqOk0 (nums := nums) hlen hnums rfl rfl rfl rfl rfl rfl rfl rfl
            · refine ⟨room (by simp) rfl, room' (by simp), ?_⟩
              conv => whnf
              exact dnext (q := q) hinv hn' (p' := p1 + 1) (by dsimp only; omega) (reqOkQ hq) (nums := nums) hlen hnums rfl rfl rfl rfl rfl rfl rfl rfl
    · refine fin _ _ _ hinv ?_
      rfl
  | cons r rs =>
    conv => whnf
    refine ⟨fun hn => ?_, fun hn => ?_⟩ <;> conv => whnf
    · have hn' : 0 < n := by have hh : (0 : Int) < n := hn; omega
      have hxn := hinv.n
      have hxp := hinv.p
      have hlen : nums.length = 3 := hinv.len
      have hnums : ∀ m ∈ nums, 0 ≤ m ∧ m ≤ 30 := hinv.nums
      simp only [List.length_nil, List.length_cons] at hxn hxp
      refine req_use hb (p := p') (by omega) (by omega) rfl (fun q p1 hp1 hq => ?_)
      refine ⟨⟨trivial, trivial⟩, ?_⟩
      conv => whnf
      have wc : IntKind.i64.wrap (q.client - 1) = q.client - 1 := wrap_id (by omega) (by omega)
      have hold := hnums _ (intAt_mem (l := nums) (k := q.client - 1) (by omega))
      have wn : IntKind.i64.wrap (intAt nums (q.client - 1) + 1) = intAt nums (q.client - 1) + 1 := wrap_id (by omega) (by omega)
      refine ⟨by rw [wc]; omega, by rw [wc]; simp; omega, ?_⟩
      conv => whnf
      refine ⟨encI (intAt nums (q.client - 1)), by rw [wc]; exact intAt_row (l := nums) (by omega) (by omega), ?_⟩
      conv => whnf
      refine ⟨fun h30 => ?_, fun h30 => ?_⟩ <;> conv => whnf
      · refine hcall_box (pick_ok full bs hb _ _ (by omega) (by omega) 1000) rfl rfl rfl ⟨⟨trivial, trivial⟩, ?_⟩
        conv => whnf
        refine ⟨fun h8 => ?_, fun h8 => ?_⟩ <;> conv => whnf
        · refine ⟨by rw [wc]; omega, by rw [wc]; simp; omega, ?_⟩
          conv => whnf
          refine ⟨encI (intAt nums (q.client - 1)), by rw [wc]; exact intAt_row (l := nums) (by omega) (by omega), ?_⟩
          conv => whnf
          refine ⟨by rw [wc]; omega, by rw [wc]; simp; omega, ?_⟩
          conv => whnf
          refine ⟨encI (intAt nums (q.client - 1)), by rw [wc]; exact intAt_row (l := nums) (by omega) (by omega), ?_⟩
          conv => whnf
          have hrow : (nums.map encI).set (IntKind.i64.wrap (q.client - 1)).toNat (encI (IntKind.i64.wrap (intAt nums (q.client - 1) + 1))) = (nums.set (q.client - 1).toNat (intAt nums (q.client - 1) + 1)).map encI := by rw [wc, wn]; exact set_row rfl
          have hset : ∀ m ∈ nums.set (q.client - 1).toNat (intAt nums (q.client - 1) + 1), 0 ≤ m ∧ m ≤ 30 := fun m hm => by
            rcases mem_set hm with rfl | hm
            · omega
            · exact hnums m hm
          refine ⟨by rw [wc]; omega, by rw [wc]; simp; omega, ?_⟩
          conv => whnf
          refine ⟨encI (intAt nums (q.client - 1) + 1), by rw [wc, wn]; exact set_get (l := nums) rfl (by omega), ?_⟩
          conv => whnf
          refine ⟨fun hpos => ?_, fun hpos => ?_⟩ <;> conv => whnf
          · refine ⟨by rw [wc]; omega, by rw [wc]; simp; omega, ?_⟩
            conv => whnf
            refine ⟨encI (intAt nums (q.client - 1) + 1), by rw [wc, wn]; exact set_get (l := nums) rfl (by omega), ?_⟩
            conv => whnf
            refine ⟨fun hone => ?_, fun hone => ?_⟩ <;> conv => whnf
            · refine hcall_box (pick_ok full bs hb _ _ (by omega) (by omega) 1000) rfl rfl rfl ⟨⟨trivial, trivial⟩, ?_⟩
              conv => whnf
              refine ⟨fun h12 => ?_, fun h12 => ?_⟩ <;> conv => whnf
              · refine ⟨by simp, room (by simp; omega) rfl, room' (by simp; omega), ?_⟩
                conv => whnf
                exact dnext (q := Req0) hinv hn' (p' := (p1 + 1) + 1) (by dsimp only; omega) reqOk0 (nums := nums.set (q.client - 1).toNat (intAt nums (q.client - 1) + 1)) (by simp [hlen]) hset rfl rfl rfl rfl rfl hrow rfl rfl
              · refine ⟨by simp, room (by simp; omega) rfl, room' (by simp; omega), ?_⟩
                conv => whnf
                exact dnext (q := ⟨q.client, 1, 1, 0, 0⟩) hinv hn' (p' := (p1 + 1) + 1) (by dsimp only; omega) (reqOkJ hq) (nums := nums.set (q.client - 1).toNat (intAt nums (q.client - 1) + 1)) (by simp [hlen]) hset rfl rfl rfl rfl rfl hrow rfl rfl
            · refine hcall_box (pick_ok full bs hb _ _ (by omega) (by omega) 1000) rfl rfl rfl ⟨⟨trivial, trivial⟩, ?_⟩
              conv => whnf
              refine ⟨fun h12 => ?_, fun h12 => ?_⟩ <;> conv => whnf
              · refine ⟨by simp, room (by simp; omega) rfl, room' (by simp; omega), ?_⟩
                conv => whnf
                exact dnext (q := Req0) hinv hn' (p' := (p1 + 1) + 1) (by dsimp only; omega) reqOk0 (nums := nums.set (q.client - 1).toNat (intAt nums (q.client - 1) + 1)) (by simp [hlen]) hset rfl rfl rfl rfl rfl hrow rfl rfl
              · refine ⟨by simp, room (by simp; omega) rfl, room' (by simp; omega), ?_⟩
                conv => whnf
                exact dnext (q := ⟨q.client, (intAt nums (q.client - 1) + 1), q.op, q.x, q.y⟩) hinv hn' (p' := (p1 + 1) + 1) (by dsimp only; omega) (reqOkN hq (by omega)) (nums := nums.set (q.client - 1).toNat (intAt nums (q.client - 1) + 1)) (by simp [hlen]) hset rfl rfl rfl rfl rfl hrow rfl rfl
          · refine ⟨fun hone => ?_, fun hone => ?_⟩ <;> conv => whnf
            · refine hcall_box (pick_ok full bs hb _ _ (by omega) (by omega) 1000) rfl rfl rfl ⟨⟨trivial, trivial⟩, ?_⟩
              conv => whnf
              refine ⟨fun h12 => ?_, fun h12 => ?_⟩ <;> conv => whnf
              · refine ⟨by simp, room (by simp; omega) rfl, room' (by simp; omega), ?_⟩
                conv => whnf
                exact dnext (q := Req0) hinv hn' (p' := (p1 + 1) + 1) (by dsimp only; omega) reqOk0 (nums := nums.set (q.client - 1).toNat (intAt nums (q.client - 1) + 1)) (by simp [hlen]) hset rfl rfl rfl rfl rfl hrow rfl rfl
              · refine ⟨by simp, room (by simp; omega) rfl, room' (by simp; omega), ?_⟩
                conv => whnf
                exact dnext (q := ⟨q.client, 1, 1, 0, 0⟩) hinv hn' (p' := (p1 + 1) + 1) (by dsimp only; omega) (reqOkJ hq) (nums := nums.set (q.client - 1).toNat (intAt nums (q.client - 1) + 1)) (by simp [hlen]) hset rfl rfl rfl rfl rfl hrow rfl rfl
            · refine hcall_box (pick_ok full bs hb _ _ (by omega) (by omega) 1000) rfl rfl rfl ⟨⟨trivial, trivial⟩, ?_⟩
              conv => whnf
              refine ⟨fun h12 => ?_, fun h12 => ?_⟩ <;> conv => whnf
              · refine ⟨by simp, room (by simp; omega) rfl, room' (by simp; omega), ?_⟩
                conv => whnf
                exact dnext (q := Req0) hinv hn' (p' := (p1 + 1) + 1) (by dsimp only; omega) reqOk0 (nums := nums.set (q.client - 1).toNat (intAt nums (q.client - 1) + 1)) (by simp [hlen]) hset rfl rfl rfl rfl rfl hrow rfl rfl
              · refine ⟨by simp, room (by simp; omega) rfl, room' (by simp; omega), ?_⟩
                conv => whnf
                exact dnext (q := q) hinv hn' (p' := (p1 + 1) + 1) (by dsimp only; omega) (reqOkQ hq) (nums := nums.set (q.client - 1).toNat (intAt nums (q.client - 1) + 1)) (by simp [hlen]) hset rfl rfl rfl rfl rfl hrow rfl rfl
        · skip
          refine ⟨by rw [wc]; omega, by rw [wc]; simp; omega, ?_⟩
          conv => whnf
          refine ⟨encI (intAt nums (q.client - 1)), by rw [wc]; exact intAt_row (l := nums) (by omega) (by omega), ?_⟩
          conv => whnf
          refine ⟨fun hpos => ?_, fun hpos => ?_⟩ <;> conv => whnf
          · refine ⟨by rw [wc]; omega, by rw [wc]; simp; omega, ?_⟩
            conv => whnf
            refine ⟨encI (intAt nums (q.client - 1)), by rw [wc]; exact intAt_row (l := nums) (by omega) (by omega), ?_⟩
            conv => whnf
            refine ⟨fun hone => ?_, fun hone => ?_⟩ <;> conv => whnf
            · refine hcall_box (pick_ok full bs hb _ _ (by omega) (by omega) 1000) rfl rfl rfl ⟨⟨trivial, trivial⟩, ?_⟩
              conv => whnf
              refine ⟨fun h12 => ?_, fun h12 => ?_⟩ <;> conv => whnf
              · refine ⟨by simp, room (by simp; omega) rfl, room' (by simp; omega), ?_⟩
                conv => whnf
                exact dnext (q := Req0) hinv hn' (p' := (p1 + 1) + 1) (by dsimp only; omega) reqOk0 (nums := nums) hlen hnums rfl rfl rfl rfl rfl rfl rfl rfl
              · refine ⟨by simp, room (by simp; omega) rfl, room' (by simp; omega), ?_⟩
                conv => whnf
                exact dnext (q := ⟨q.client, 1, 1, 0, 0⟩) hinv hn' (p' := (p1 + 1) + 1) (by dsimp only; omega) (reqOkJ hq) (nums := nums) hlen hnums rfl rfl rfl rfl rfl rfl rfl rfl
            · refine hcall_box (pick_ok full bs hb _ _ (by omega) (by omega) 1000) rfl rfl rfl ⟨⟨trivial, trivial⟩, ?_⟩
              conv => whnf
              refine ⟨fun h12 => ?_, fun h12 => ?_⟩ <;> conv => whnf
              · refine ⟨by simp, room (by simp; omega) rfl, room' (by simp; omega), ?_⟩
                conv => whnf
                exact dnext (q := Req0) hinv hn' (p' := (p1 + 1) + 1) (by dsimp only; omega) reqOk0 (nums := nums) hlen hnums rfl rfl rfl rfl rfl rfl rfl rfl
              · refine ⟨by simp, room (by simp; omega) rfl, room' (by simp; omega), ?_⟩
                conv => whnf
                exact dnext (q := ⟨q.client, (intAt nums (q.client - 1)), q.op, q.x, q.y⟩) hinv hn' (p' := (p1 + 1) + 1) (by dsimp only; omega) (reqOkN hq (by omega)) (nums := nums) hlen hnums rfl rfl rfl rfl rfl rfl rfl rfl
          · refine ⟨fun hone => ?_, fun hone => ?_⟩ <;> conv => whnf
            · refine hcall_box (pick_ok full bs hb _ _ (by omega) (by omega) 1000) rfl rfl rfl ⟨⟨trivial, trivial⟩, ?_⟩
              conv => whnf
              refine ⟨fun h12 => ?_, fun h12 => ?_⟩ <;> conv => whnf
              · refine ⟨by simp, room (by simp; omega) rfl, room' (by simp; omega), ?_⟩
                conv => whnf
                exact dnext (q := Req0) hinv hn' (p' := (p1 + 1) + 1) (by dsimp only; omega) reqOk0 (nums := nums) hlen hnums rfl rfl rfl rfl rfl rfl rfl rfl
              · refine ⟨by simp, room (by simp; omega) rfl, room' (by simp; omega), ?_⟩
                conv => whnf
                exact dnext (q := ⟨q.client, 1, 1, 0, 0⟩) hinv hn' (p' := (p1 + 1) + 1) (by dsimp only; omega) (reqOkJ hq) (nums := nums) hlen hnums rfl rfl rfl rfl rfl rfl rfl rfl
            · refine hcall_box (pick_ok full bs hb _ _ (by omega) (by omega) 1000) rfl rfl rfl ⟨⟨trivial, trivial⟩, ?_⟩
              conv => whnf
              refine ⟨fun h12 => ?_, fun h12 => ?_⟩ <;> conv => whnf
              · refine ⟨by simp, room (by simp; omega) rfl, room' (by simp; omega), ?_⟩
                conv => whnf
                exact dnext (q := Req0) hinv hn' (p' := (p1 + 1) + 1) (by dsimp only; omega) reqOk0 (nums := nums) hlen hnums rfl rfl rfl rfl rfl rfl rfl rfl
              · refine ⟨by simp, room (by simp; omega) rfl, room' (by simp; omega), ?_⟩
                conv => whnf
                exact dnext (q := q) hinv hn' (p' := (p1 + 1) + 1) (by dsimp only; omega) (reqOkQ hq) (nums := nums) hlen hnums rfl rfl rfl rfl rfl rfl rfl rfl
      · skip
        refine ⟨by rw [wc]; omega, by rw [wc]; simp; omega, ?_⟩
        conv => whnf
        refine ⟨encI (intAt nums (q.client - 1)), by rw [wc]; exact intAt_row (l := nums) (by omega) (by omega), ?_⟩
        conv => whnf
        refine ⟨fun hpos => ?_, fun hpos => ?_⟩ <;> conv => whnf
        · refine ⟨by rw [wc]; omega, by rw [wc]; simp; omega, ?_⟩
          conv => whnf
          refine ⟨encI (intAt nums (q.client - 1)), by rw [wc]; exact intAt_row (l := nums) (by omega) (by omega), ?_⟩
          conv => whnf
          refine ⟨fun hone => ?_, fun hone => ?_⟩ <;> conv => whnf
          · refine hcall_box (pick_ok full bs hb _ _ (by omega) (by omega) 1000) rfl rfl rfl ⟨⟨trivial, trivial⟩, ?_⟩
            conv => whnf
            refine ⟨fun h12 => ?_, fun h12 => ?_⟩ <;> conv => whnf
            · refine ⟨by simp, room (by simp; omega) rfl, room' (by simp; omega), ?_⟩
              conv => whnf
              exact dnext (q := Req0) hinv hn' (p' := p1 + 1) (by dsimp only; omega) reqOk0 (nums := nums) hlen hnums rfl rfl rfl rfl rfl rfl rfl rfl
            · refine ⟨by simp, room (by simp; omega) rfl, room' (by simp; omega), ?_⟩
              conv => whnf
              exact dnext (q := ⟨q.client, 1, 1, 0, 0⟩) hinv hn' (p' := p1 + 1) (by dsimp only; omega) (reqOkJ hq) (nums := nums) hlen hnums rfl rfl rfl rfl rfl rfl rfl rfl
          · refine hcall_box (pick_ok full bs hb _ _ (by omega) (by omega) 1000) rfl rfl rfl ⟨⟨trivial, trivial⟩, ?_⟩
            conv => whnf
            refine ⟨fun h12 => ?_, fun h12 => ?_⟩ <;> conv => whnf
            · refine ⟨by simp, room (by simp; omega) rfl, room' (by simp; omega), ?_⟩
              conv => whnf
              exact dnext (q := Req0) hinv hn' (p' := p1 + 1) (by dsimp only; omega) reqOk0 (nums := nums) hlen hnums rfl rfl rfl rfl rfl rfl rfl rfl
            · refine ⟨by simp, room (by simp; omega) rfl, room' (by simp; omega), ?_⟩
              conv => whnf
              exact dnext (q := ⟨q.client, (intAt nums (q.client - 1)), q.op, q.x, q.y⟩) hinv hn' (p' := p1 + 1) (by dsimp only; omega) (reqOkN hq (by omega)) (nums := nums) hlen hnums rfl rfl rfl rfl rfl rfl rfl rfl
        · refine ⟨fun hone => ?_, fun hone => ?_⟩ <;> conv => whnf
          · refine hcall_box (pick_ok full bs hb _ _ (by omega) (by omega) 1000) rfl rfl rfl ⟨⟨trivial, trivial⟩, ?_⟩
            conv => whnf
            refine ⟨fun h12 => ?_, fun h12 => ?_⟩ <;> conv => whnf
            · refine ⟨by simp, room (by simp; omega) rfl, room' (by simp; omega), ?_⟩
              conv => whnf
              exact dnext (q := Req0) hinv hn' (p' := p1 + 1) (by dsimp only; omega) reqOk0 (nums := nums) hlen hnums rfl rfl rfl rfl rfl rfl rfl rfl
            · refine ⟨by simp, room (by simp; omega) rfl, room' (by simp; omega), ?_⟩
              conv => whnf
              exact dnext (q := ⟨q.client, 1, 1, 0, 0⟩) hinv hn' (p' := p1 + 1) (by dsimp only; omega) (reqOkJ hq) (nums := nums) hlen hnums rfl rfl rfl rfl rfl rfl rfl rfl
          · refine hcall_box (pick_ok full bs hb _ _ (by omega) (by omega) 1000) rfl rfl rfl ⟨⟨trivial, trivial⟩, ?_⟩
            conv => whnf
            refine ⟨fun h12 => ?_, fun h12 => ?_⟩ <;> conv => whnf
            · refine ⟨by simp, room (by simp; omega) rfl, room' (by simp; omega), ?_⟩
              conv => whnf
              exact dnext (q := Req0) hinv hn' (p' := p1 + 1) (by dsimp only; omega) reqOk0 (nums := nums) hlen hnums rfl rfl rfl rfl rfl rfl rfl rfl
            · refine ⟨by simp, room (by simp; omega) rfl, room' (by simp; omega), ?_⟩
              conv => whnf
              exact dnext (q := q) hinv hn' (p' := p1 + 1) (by dsimp only; omega) (reqOkQ hq) (nums := nums) hlen hnums rfl rfl rfl rfl rfl rfl rfl rfl
    · refine fin _ _ _ hinv ?_
      rfl
end Go.Proofs.Ytnnmkenloijkcaa
