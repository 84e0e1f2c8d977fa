/- Parts of the proof, in order: the engine, the contracts of the functions, the laws. -/
import Derived.Test.YtdfneaponidfgaaDoorLC
/- The asks that are drawn. -/
set_option linter.unusedVariables false
set_option linter.unusedSimpArgs false
set_option maxRecDepth 10000
namespace Go.Proofs.YtdfneaponidfgaaDoor
open Go Eng

theorem req_use {full : Bool} {bs : List Int} (hb : Bytes bs) {p : Int} (h0 : 0 ≤ p) (h1 : p ≤ 1099511627000) {s : St} (hs : s.hp 1000 = .box (rdC full bs p)) {K : HP → V → HP → Prop}
    (k : ∀ q p', (p ≤ p' ∧ p' ≤ p + 10) → (1 ≤ q.client ∧ q.client ≤ 3 ∧ 1 ≤ q.num ∧ q.num ≤ 6 ∧ -1 ≤ q.x ∧ q.x ≤ 3 ∧ -1 ≤ q.y ∧ q.y ≤ 3 ∧ (q.op ≠ 2 → 0 ≤ q.y)) → K (Rd 1000 full bs p) (vReq q) (Rd 1000 full bs p')) :
    ∃ hin φ, HCalls Tryd.prog G0 41 (hpOf hin) [.ref 1000 0 0 0] φ ∧ weakHp s (hin.map (·.1)) hin ∧ okVs (hin.map (·.1)) [.ref 1000 0 0 0] = true ∧ ∀ r l, φ r l → K hin r l :=
  ⟨_, _, req_ok full bs hb p h0 h1, ⟨hs, rfl, trivial⟩, rfl, fun r l ⟨q, p', e1, e2, h3, h4⟩ => by subst e1; subst e2; exact k q p' h3 h4⟩

structure DIn where
  n : Nat
  p : Int
  rows : List (List D)
  nums : List Int
structure DInv (p : Int) (x : DIn) : Prop where
  n : x.rows.length + x.n ≤ 40
  p : p ≤ x.p ∧ x.p ≤ p + 15 * x.rows.length + 1
  list : ∃ list : List Req, x.rows = list.map encReq ∧ ∀ q ∈ list, ReqOk q
  len : x.nums.length = 3
  nums : ∀ m ∈ x.nums, 0 ≤ m ∧ m ≤ 30
def DI (full : Bool) (bs : List Int) (x : DIn) : SL :=
  match x.rows with
  | [] => ⟨[(0, .ref 1000 0 0 0), (5, .d (.slc true 5 [])), (6, .own 11), (7, vi x.n)], [(1000, .box (rdC full bs x.p)), (11, .arr true 1 (x.nums.map encI))]⟩
  | r :: rs => ⟨[(0, .ref 1000 0 0 0), (5, .osl 66 5 (r :: rs)), (6, .own 11), (7, vi x.n)], [(1000, .box (rdC full bs x.p)), (11, .arr true 1 (x.nums.map encI)), (66, .grow 5 (rs.length + 1))]⟩

theorem reqOk0 : ReqOk Req0 := ⟨by simp [Req0], by simp [Req0], .inl (by simp [reqNone, Req0])⟩
theorem reqOkJ {q : Req} (hq : 1 ≤ q.client ∧ q.client ≤ 3 ∧ 1 ≤ q.num ∧ q.num ≤ 6 ∧ -1 ≤ q.x ∧ q.x ≤ 3 ∧ -1 ≤ q.y ∧ q.y ≤ 3 ∧ (q.op ≠ 2 → 0 ≤ q.y)) : ReqOk ⟨q.client, 1, 1, 0, 0⟩ :=
  ⟨by simp, by simp, .inr ⟨hq.1, by show q.client ≤ 4; omega, by simp, by simp⟩⟩
theorem reqOkN {q : Req} (hq : 1 ≤ q.client ∧ q.client ≤ 3 ∧ 1 ≤ q.num ∧ q.num ≤ 6 ∧ -1 ≤ q.x ∧ q.x ≤ 3 ∧ -1 ≤ q.y ∧ q.y ≤ 3 ∧ (q.op ≠ 2 → 0 ≤ q.y)) {n : Int} (hn : n ≤ 30) : ReqOk ⟨q.client, n, q.op, q.x, q.y⟩ :=
  ⟨by dsimp only; omega, by dsimp only; omega, .inr ⟨hq.1, by show q.client ≤ 4; omega, hn, hq.2.2.2.2.2.2.2.2⟩⟩
theorem reqOkQ {q : Req} (hq : 1 ≤ q.client ∧ q.client ≤ 3 ∧ 1 ≤ q.num ∧ q.num ≤ 6 ∧ -1 ≤ q.x ∧ q.x ≤ 3 ∧ -1 ≤ q.y ∧ q.y ≤ 3 ∧ (q.op ≠ 2 → 0 ≤ q.y)) : ReqOk q := reqOkN hq (by omega)
theorem dnext {p : Int} {full : Bool} {bs : List Int} {x : DIn} (hx : DInv p x) (hn : 0 < x.n) {s : St} {q : Req} {p' : Int} {nums : List Int} (hp : x.p ≤ p' ∧ p' ≤ x.p + 15) (hq : ReqOk q) (hl : nums.length = 3) (hm : ∀ m ∈ nums, 0 ≤ m ∧ m ≤ 30)
    (h0 : s.sl 0 = .ref 1000 0 0 0) (h5 : s.sl 5 = .osl 66 5 (x.rows ++ [encReq q])) (h6 : s.sl 6 = .own 11) (h7 : s.sl 7 = vi (IntKind.i64.wrap ((x.n : Int) - 1)))
    (g0 : s.hp 1000 = .box (rdC full bs p')) {rn : List (List D)} (e1 : rn = nums.map encI) (g1 : s.hp 11 = .arr true 1 rn) (g2 : s.hp 66 = .grow 5 (x.rows.length + 1)) :
    ∃ y : { x : DIn // DInv p x }, y.1.n < x.n ∧ Weak [1000] s (DI full bs y.1) := by
  have hxn := hx.n
  refine ⟨⟨⟨x.n - 1, p', x.rows ++ [encReq q], nums⟩, by simp; omega, by have := hx.p; simp; omega, ?_, hl, hm⟩, by simp; omega, ?_⟩
  · obtain ⟨l, h1, h2⟩ := hx.list
    refine ⟨l ++ [q], by simp [h1], fun r hr => ?_⟩
    rcases List.mem_append.1 hr with hr | hr
    · exact h2 r hr
    · simp at hr; subst hr; exact hq
  · have hw : vi (IntKind.i64.wrap ((x.n : Int) - 1)) = vi ((x.n - 1 : Nat) : Int) := congrArg vi (by rw [wrap_id (by omega) (by omega)]; omega)
    rw [hw] at h7
    have : ∃ r rs, x.rows ++ [encReq q] = r :: rs ∧ rs.length = x.rows.length := by
      cases x.rows with
      | nil => exact ⟨_, _, rfl, rfl⟩
      | cons r rs => exact ⟨r, rs ++ [encReq q], rfl, by simp⟩
    obtain ⟨r, rs, e, el⟩ := this
    rw [e] at h5
    unfold DI
    simp only [e]
    rw [← el] at g2
    subst e1
    exact ⟨weakSl_cons h0 rfl (weakSl_cons h5 rfl (weakSl_cons h6 rfl (weakSl_cons h7 rfl weakSl_nil))), weakHp_cons g0 rfl (weakHp_cons g1 rfl (weakHp_cons g2 rfl weakHp_nil)), rfl⟩

theorem reqs_ok (full : Bool) (bs : List Int) (hb : Bytes bs) (p : Int) (h0 : 0 ≤ p) (h1 : p ≤ 1099511620000) (most : Int) (m0 : 0 ≤ most) (m1 : most ≤ 40) : HCalls Tryd.prog G0 27 (hpOf (Rd 1000 full bs p)) [.ref 1000 0 0 0, vi most]
    (fun r l => ∃ (f : Bool) (list : List Req) (p' : Int), r = .d (.slc f 5 (list.map encReq)) ∧ l = Rd 1000 full bs p' ∧ (p ≤ p' ∧ p' ≤ p + 1000) ∧ ∀ q ∈ list, ReqOk q) := by
  refine hspec tabOk Tryd.func27 (by kernel_rfl) false [11] [28, 41] rfl ?_
  conv => whnf
  refine hcall_box (pick_ok full bs hb p _ h0 (by omega) 1000) rfl rfl rfl ⟨⟨trivial, trivial⟩, ?_⟩
  conv => whnf
  have wm : IntKind.i64.wrap (most + 1) = most + 1 := wrap_id (by omega) (by omega)
  have k1 := pick_range (n := most + 1) hb h0 (by omega)
  have hn0 : ((pickF bs p (most + 1)).toNat : Int) = pickF bs p (most + 1) := by omega
  refine ⟨{ x : DIn // DInv p x }, fun x => DI full bs x.1, fun x => x.1.n, ⟨⟨(pickF bs p (most + 1)).toNat, p + 1, [], [0, 0, 0]⟩, by simp; omega, by simp; omega, ⟨[], rfl, by simp⟩, rfl, by simp⟩, ?_, ?_⟩
  · refine ⟨?_, ?_, rfl⟩ <;> repeat' (first | exact weakSl_nil | exact weakHp_nil | refine weakSl_cons ?_ rfl ?_ | refine weakHp_cons ?_ rfl ?_)
    · rfl
    · rfl
    · rfl
    · exact congrArg vi (by rw [wm]; exact hn0.symm)
    · rfl
    · rfl
  have fin : ∀ (x : DIn) (s : St) (f0 : Bool), DInv p x → s.hp 1000 = .box (rdC full bs x.p) → ∃ l, HRest s [1000] l ∧ ∃ (f : Bool) (list : List Req) (p' : Int), V.d (.slc f0 5 x.rows) = .d (.slc f 5 (list.map encReq)) ∧ l = Rd 1000 full bs p' ∧ (p ≤ p' ∧ p' ≤ p + 1000) ∧ ∀ q ∈ list, ReqOk q := fun x s f0 hx hs => by
    obtain ⟨list, e1, e2⟩ := hx.list
    have := hx.p
    have := hx.n
    exact ⟨Rd 1000 full bs x.p, ⟨weakHp_cons hs rfl weakHp_nil, rfl, rfl⟩, f0, list, x.p, by rw [e1], rfl, by omega, e2⟩
  rintro ⟨⟨n, p', rows, nums⟩, hinv⟩
  cases rows with
  | nil =>
    conv => whnf
    refine ⟨fun hn => ?_, fun hn => ?_⟩ <;> conv => whnf
    · have hn' : 0 < n := by have hh : (0 : Int) < n := hn; omega
      have hxn := hinv.n
      have hxp := hinv.p
      have hlen : nums.length = 3 := hinv.len
      have hnums : ∀ m ∈ nums, 0 ≤ m ∧ m ≤ 30 := hinv.nums
      simp only [List.length_nil, List.length_cons] at hxn hxp
      refine req_use hb (p := p') (by omega) (by omega) rfl (fun q p1 hp1 hq => ?_)
      refine ⟨⟨trivial, trivial⟩, ?_⟩
      conv => whnf
      have wc : IntKind.i64.wrap (q.client - 1) = q.client - 1 := wrap_id (by omega) (by omega)
      have hold := hnums _ (intAt_mem (l := nums) (k := q.client - 1) (by omega))
      have wn : IntKind.i64.wrap (intAt nums (q.client - 1) + 1) = intAt nums (q.client - 1) + 1 := wrap_id (by omega) (by omega)
      refine ⟨by rw [wc]; omega, by rw [wc]; simp; omega, ?_⟩
      conv => whnf
      refine ⟨encI (intAt nums (q.client - 1)), by rw [wc]; exact intAt_row (l := nums) (by omega) (by omega), ?_⟩
      conv => whnf
      refine ⟨fun h30 => ?_, fun h30 => ?_⟩ <;> conv => whnf
      · refine hcall_box (pick_ok full bs hb _ _ (by omega) (by omega) 1000) rfl rfl rfl ⟨⟨trivial, trivial⟩, ?_⟩
        conv => whnf
        refine ⟨fun h8 => ?_, fun h8 => ?_⟩ <;> conv => whnf
        · refine ⟨by rw [wc]; omega, by rw [wc]; simp; omega, ?_⟩
          conv => whnf
          refine ⟨encI (intAt nums (q.client - 1)), by rw [wc]; exact intAt_row (l := nums) (by omega) (by omega), ?_⟩
          conv => whnf
          refine ⟨by rw [wc]; omega, by rw [wc]; simp; omega, ?_⟩
          conv => whnf
          refine ⟨encI (intAt nums (q.client - 1)), by rw [wc]; exact intAt_row (l := nums) (by omega) (by omega), ?_⟩
          conv => whnf
          have hrow : (nums.map encI).set (IntKind.i64.wrap (q.client - 1)).toNat (encI (IntKind.i64.wrap (intAt nums (q.client - 1) + 1))) = (nums.set (q.client - 1).toNat (intAt nums (q.client - 1) + 1)).map encI := by rw [wc, wn]; exact set_row rfl
          have hset : ∀ m ∈ nums.set (q.client - 1).toNat (intAt nums (q.client - 1) + 1), 0 ≤ m ∧ m ≤ 30 := fun m hm => by
            rcases mem_set hm with rfl | hm
            · omega
            · exact hnums m hm
          refine ⟨by rw [wc]; omega, by rw [wc]; simp; omega, ?_⟩
          conv => whnf
          refine ⟨encI (intAt nums (q.client - 1) + 1), by rw [wc, wn]; exact set_get (l := nums) rfl (by omega), ?_⟩
          conv => whnf
          refine ⟨fun hpos => ?_, fun hpos => ?_⟩ <;> conv => whnf
          · refine ⟨by rw [wc]; omega, by rw [wc]; simp; omega, ?_⟩
            conv => whnf
            refine ⟨encI (intAt nums (q.client - 1) + 1), by rw [wc, wn]; exact set_get (l := nums) rfl (by omega), ?_⟩
            conv => whnf
            refine ⟨fun hone => ?_, fun hone => ?_⟩ <;> conv => whnf
            · refine hcall_box (pick_ok full bs hb _ _ (by omega) (by omega) 1000) rfl rfl rfl ⟨⟨trivial, trivial⟩, ?_⟩
              conv => whnf
              refine ⟨fun h12 => ?_, fun h12 => ?_⟩ <;> conv => whnf
              · refine ⟨room (by simp) rfl, room' (by simp), ?_⟩
                conv => whnf
                exact dnext (q := Req0) hinv hn' (p' := (p1 + 1) + 1) (by dsimp only; omega) reqOk0 (nums := nums.set (q.client - 1).toNat (intAt nums (q.client - 1) + 1)) (by simp [hlen]) hset rfl rfl rfl rfl rfl hrow rfl rfl
              · refine ⟨room (by simp) rfl, room' (by simp), ?_⟩
                conv => whnf
                exact dnext (q := ⟨q.client, 1, 1, 0, 0⟩) hinv hn' (p' := (p1 + 1) + 1) (by dsimp only; omega) (reqOkJ hq) (nums := nums.set (q.client - 1).toNat (intAt nums (q.client - 1) + 1)) (by simp [hlen]) hset rfl rfl rfl rfl rfl hrow rfl rfl
            · refine hcall_box (pick_ok full bs hb _ _ (by omega) (by omega) 1000) rfl rfl rfl ⟨⟨trivial, trivial⟩, ?_⟩
              conv => whnf
              refine ⟨fun h12 => ?_, fun h12 => ?_⟩ <;> conv => whnf
              · refine ⟨room (by simp) rfl, room' (by simp), ?_⟩
                conv => whnf
                exact dnext (q := Req0) hinv hn' (p' := (p1 + 1) + 1) (by dsimp only; omega) reqOk0 (nums := nums.set (q.client - 1).toNat (intAt nums (q.client - 1) + 1)) (by simp [hlen]) hset rfl rfl rfl rfl rfl hrow rfl rfl
              · refine ⟨room (by simp) rfl, room' (by simp), ?_⟩
                conv => whnf
                exact dnext (q := ⟨q.client, (intAt nums (q.client - 1) + 1), q.op, q.x, q.y⟩) hinv hn' (p' := (p1 + 1) + 1) (by dsimp only; omega) (reqOkN hq (by omega)) (nums := nums.set (q.client - 1).toNat (intAt nums (q.client - 1) + 1)) (by simp [hlen]) hset rfl rfl rfl rfl rfl hrow rfl rfl
          · refine ⟨fun hone => ?_, fun hone => ?_⟩ <;> conv => whnf
            · refine hcall_box (pick_ok full bs hb _ _ (by omega) (by omega) 1000) rfl rfl rfl ⟨⟨trivial, trivial⟩, ?_⟩
              conv => whnf
              refine ⟨fun h12 => ?_, fun h12 => ?_⟩ <;> conv => whnf
              · refine ⟨room (by simp) rfl, room' (by simp), ?_⟩
                conv => whnf
                exact dnext (q := Req0) hinv hn' (p' := (p1 + 1) + 1) (by dsimp only; omega) reqOk0 (nums := nums.set (q.client - 1).toNat (intAt nums (q.client - 1) + 1)) (by simp [hlen]) hset rfl rfl rfl rfl rfl hrow rfl rfl
              · refine ⟨room (by simp) rfl, room' (by simp), ?_⟩
                conv => whnf
                exact dnext (q := ⟨q.client, 1, 1, 0, 0⟩) hinv hn' (p' := (p1 + 1) + 1) (by dsimp only; omega) (reqOkJ hq) (nums := nums.set (q.client - 1).toNat (intAt nums (q.client - 1) + 1)) (by simp [hlen]) hset rfl rfl rfl rfl rfl hrow rfl rfl
            · refine hcall_box (pick_ok full bs hb _ _ (by omega) (by omega) 1000) rfl rfl rfl ⟨⟨trivial, trivial⟩, ?_⟩
              conv => whnf
              refine ⟨fun h12 => ?_, fun h12 => ?_⟩ <;> conv => whnf
              · refine ⟨room (by simp) rfl, room' (by simp), ?_⟩
                conv => whnf
                exact dnext (q := Req0) hinv hn' (p' := (p1 + 1) + 1) (by dsimp only; omega) reqOk0 (nums := nums.set (q.client - 1).toNat (intAt nums (q.client - 1) + 1)) (by simp [hlen]) hset rfl rfl rfl rfl rfl hrow rfl rfl
              · refine ⟨room (by simp) rfl, room' (by simp), ?_⟩
                conv => whnf
                exact dnext (q := q) hinv hn' (p' := (p1 + 1) + 1) (by dsimp only; omega) (reqOkQ hq) (nums := nums.set (q.client - 1).toNat (intAt nums (q.client - 1) + 1)) (by simp [hlen]) hset rfl rfl rfl rfl rfl hrow rfl rfl
        · skip
          refine ⟨by rw [wc]; omega, by rw [wc]; simp; omega, ?_⟩
          conv => whnf
          refine ⟨encI (intAt nums (q.client - 1)), by rw [wc]; exact intAt_row (l := nums) (by omega) (by omega), ?_⟩
          conv => whnf
          refine ⟨fun hpos => ?_, fun hpos => ?_⟩ <;> conv => whnf
          · refine ⟨by rw [wc]; omega, by rw [wc]; simp; omega, ?_⟩
            conv => whnf
            refine ⟨encI (intAt nums (q.client - 1)), by rw [wc]; exact intAt_row (l := nums) (by omega) (by omega), ?_⟩
            conv => whnf
            refine ⟨fun hone => ?_, fun hone => ?_⟩ <;> conv => whnf
            · refine hcall_box (pick_ok full bs hb _ _ (by omega) (by omega) 1000) rfl rfl rfl ⟨⟨trivial, trivial⟩, ?_⟩
              conv => whnf
              refine ⟨fun h12 => ?_, fun h12 => ?_⟩ <;> conv => whnf
              · refine ⟨room (by simp) rfl, room' (by simp), ?_⟩
                conv => whnf
                exact dnext (q := Req0) hinv hn' (p' := (p1 + 1) + 1) (by dsimp only; omega) reqOk0 (nums := nums) hlen hnums rfl rfl rfl rfl rfl rfl rfl rfl
              · refine ⟨room (by simp) rfl, room' (by simp), ?_⟩
                conv => whnf
                exact dnext (q := ⟨q.client, 1, 1, 0, 0⟩) hinv hn' (p' := (p1 + 1) + 1) (by dsimp only; omega) (reqOkJ hq) (nums := nums) hlen hnums rfl rfl rfl rfl rfl rfl rfl rfl
            · refine hcall_box (pick_ok full bs hb _ _ (by omega) (by omega) 1000) rfl rfl rfl ⟨⟨trivial, trivial⟩, ?_⟩
              conv => whnf
              refine ⟨fun h12 => ?_, fun h12 => ?_⟩ <;> conv => whnf
              · refine ⟨room (by simp) rfl, room' (by simp), ?_⟩
                conv => whnf
                exact dnext (q := Req0) hinv hn' (p' := (p1 + 1) + 1) (by dsimp only; omega) reqOk0 (nums := nums) hlen hnums rfl rfl rfl rfl rfl rfl rfl rfl
              · refine ⟨room (by simp) rfl, room' (by simp), ?_⟩
                conv => whnf
                exact dnext (q := ⟨q.client, (intAt nums (q.client - 1)), q.op, q.x, q.y⟩) hinv hn' (p' := (p1 + 1) + 1) (by dsimp only; omega) (reqOkN hq (by omega)) (nums := nums) hlen hnums rfl rfl rfl rfl rfl rfl rfl rfl
          · refine ⟨fun hone => ?_, fun hone => ?_⟩ <;> conv => whnf
            · refine hcall_box (pick_ok full bs hb _ _ (by omega) (by omega) 1000) rfl rfl rfl ⟨⟨trivial, trivial⟩, ?_⟩
              conv => whnf
              refine ⟨fun h12 => ?_, fun h12 => ?_⟩ <;> conv => whnf
              · refine ⟨room (by simp) rfl, room' (by simp), ?_⟩
                conv => whnf
                exact dnext (q := Req0) hinv hn' (p' := (p1 + 1) + 1) (by dsimp only; omega) reqOk0 (nums := nums) hlen hnums rfl rfl rfl rfl rfl rfl rfl rfl
              · refine ⟨room (by simp) rfl, room' (by simp), ?_⟩
                conv => whnf
                exact dnext (q := ⟨q.client, 1, 1, 0, 0⟩) hinv hn' (p' := (p1 + 1) + 1) (by dsimp only; omega) (reqOkJ hq) (nums := nums) hlen hnums rfl rfl rfl rfl rfl rfl rfl rfl
            · refine hcall_box (pick_ok full bs hb _ _ (by omega) (by omega) 1000) rfl rfl rfl ⟨⟨trivial, trivial⟩, ?_⟩
              conv => whnf
              refine ⟨fun h12 => ?_, fun h12 => ?_⟩ <;> conv => whnf
              · refine ⟨room (by simp) rfl, room' (by simp), ?_⟩
                conv => whnf
                exact dnext (q := Req0) hinv hn' (p' := (p1 + 1) + 1) (by dsimp only; omega) reqOk0 (nums := nums) hlen hnums rfl rfl rfl rfl rfl rfl rfl rfl
              · refine ⟨room (by simp) rfl, room' (by simp), ?_⟩
                conv => whnf
                exact dnext (q := q) hinv hn' (p' := (p1 + 1) + 1) (by dsimp only; omega) (reqOkQ hq) (nums := nums) hlen hnums rfl rfl rfl rfl rfl rfl rfl rfl
      · skip
        refine ⟨by rw [wc]; omega, by rw [wc]; simp; omega, ?_⟩
        conv => whnf
        refine ⟨encI (intAt nums (q.client - 1)), by rw [wc]; exact intAt_row (l := nums) (by omega) (by omega), ?_⟩
        conv => whnf
        refine ⟨fun hpos => ?_, fun hpos => ?_⟩ <;> conv => whnf
        · refine ⟨by rw [wc]; omega, by rw [wc]; simp; omega, ?_⟩
          conv => whnf
          refine ⟨encI (intAt nums (q.client - 1)), by rw [wc]; exact intAt_row (l := nums) (by omega) (by omega), ?_⟩
          conv => whnf
          refine ⟨fun hone => ?_, fun hone => ?_⟩ <;> conv => whnf
          · refine hcall_box (pick_ok full bs hb _ _ (by omega) (by omega) 1000) rfl rfl rfl ⟨⟨trivial, trivial⟩, ?_⟩
            conv => whnf
            refine ⟨fun h12 => ?_, fun h12 => ?_⟩ <;> conv => whnf
            · refine ⟨room (by simp) rfl, room' (by simp), ?_⟩
              conv => whnf
              exact dnext (q := Req0) hinv hn' (p' := p1 + 1) (by dsimp only; omega) reqOk0 (nums := nums) hlen hnums rfl rfl rfl rfl rfl rfl rfl rfl
            · refine ⟨room (by simp) rfl, room' (by simp), ?_⟩
              conv => whnf
              exact dnext (q := ⟨q.client, 1, 1, 0, 0⟩) hinv hn' (p' := p1 + 1) (by dsimp only; omega) (reqOkJ hq) (nums := nums) hlen hnums rfl rfl rfl rfl rfl rfl rfl rfl
          · refine hcall_box (pick_ok full bs hb _ _ (by omega) (by omega) 1000) rfl rfl rfl ⟨⟨trivial, trivial⟩, ?_⟩
            conv => whnf
            refine ⟨fun h12 => ?_, fun h12 => ?_⟩ <;> conv => whnf
            · refine ⟨room (by simp) rfl, room' (by simp), ?_⟩
              conv => whnf
              exact dnext (q := Req0) hinv hn' (p' := p1 + 1) (by dsimp only; omega) reqOk0 (nums := nums) hlen hnums rfl rfl rfl rfl rfl rfl rfl rfl
            · refine ⟨room (by simp) rfl, room' (by simp), ?_⟩
              conv => whnf
              exact dnext (q := ⟨q.client, (intAt nums (q.client - 1)), q.op, q.x, q.y⟩) hinv hn' (p' := p1 + 1) (by dsimp only; omega) (reqOkN hq (by omega)) (nums := nums) hlen hnums rfl rfl rfl rfl rfl rfl rfl rfl
        · refine ⟨fun hone => ?_, fun hone => ?_⟩ <;> conv => whnf
          · refine hcall_box (pick_ok full bs hb _ _ (by omega) (by omega) 1000) rfl rfl rfl ⟨⟨trivial, trivial⟩, ?_⟩
            conv => whnf
            refine ⟨fun h12 => ?_, fun h12 => ?_⟩ <;> conv => whnf
            · refine ⟨room (by simp) rfl, room' (by simp), ?_⟩
              conv => whnf
              exact dnext (q := Req0) hinv hn' (p' := p1 + 1) (by dsimp only; omega) reqOk0 (nums := nums) hlen hnums rfl rfl rfl rfl rfl rfl rfl rfl
            · refine ⟨room (by simp) rfl, room' (by simp), ?_⟩
              conv => whnf
              exact dnext (q := ⟨q.client, 1, 1, 0, 0⟩) hinv hn' (p' := p1 + 1) (by dsimp only; omega) (reqOkJ hq) (nums := nums) hlen hnums rfl rfl rfl rfl rfl rfl rfl rfl
          · refine hcall_box (pick_ok full bs hb _ _ (by omega) (by omega) 1000) rfl rfl rfl ⟨⟨trivial, trivial⟩, ?_⟩
            conv => whnf
            refine ⟨fun h12 => ?_, fun h12 => ?_⟩ <;> conv => whnf
            · refine ⟨room (by simp) rfl, room' (by simp), ?_⟩
              conv => whnf
              exact dnext (q := Req0) hinv hn' (p' := p1 + 1) (by dsimp only; omega) reqOk0 (nums := nums) hlen hnums rfl rfl rfl rfl rfl rfl rfl rfl
            · refine ⟨room (by simp) rfl, room' (by simp), ?_⟩
              conv => whnf
              exact dnext (q := q) hinv hn' (p' := p1 + 1) (by dsimp only; omega) (reqOkQ hq) (nums := nums) hlen hnums rfl rfl rfl rfl rfl rfl rfl rfl
    · refine fin _ _ _ hinv ?_
      rfl
  | cons r rs =>
    conv => whnf
    refine ⟨fun hn => ?_, fun hn => ?_⟩ <;> conv => whnf
    · have hn' : 0 < n := by have hh : (0 : Int) < n := hn; omega
      have hxn := hinv.n
      have hxp := hinv.p
      have hlen : nums.length = 3 := hinv.len
      have hnums : ∀ m ∈ nums, 0 ≤ m ∧ m ≤ 30 := hinv.nums
      simp only [List.length_nil, List.length_cons] at hxn hxp
      refine req_use hb (p := p') (by omega) (by omega) rfl (fun q p1 hp1 hq => ?_)
      refine ⟨⟨trivial, trivial⟩, ?_⟩
      conv => whnf
      have wc : IntKind.i64.wrap (q.client - 1) = q.client - 1 := wrap_id (by omega) (by omega)
      have hold := hnums _ (intAt_mem (l := nums) (k := q.client - 1) (by omega))
      have wn : IntKind.i64.wrap (intAt nums (q.client - 1) + 1) = intAt nums (q.client - 1) + 1 := wrap_id (by omega) (by omega)
      refine ⟨by rw [wc]; omega, by rw [wc]; simp; omega, ?_⟩
      conv => whnf
      refine ⟨encI (intAt nums (q.client - 1)), by rw [wc]; exact intAt_row (l := nums) (by omega) (by omega), ?_⟩
      conv => whnf
      refine ⟨fun h30 => ?_, fun h30 => ?_⟩ <;> conv => whnf
      · refine hcall_box (pick_ok full bs hb _ _ (by omega) (by omega) 1000) rfl rfl rfl ⟨⟨trivial, trivial⟩, ?_⟩
        conv => whnf
        refine ⟨fun h8 => ?_, fun h8 => ?_⟩ <;> conv => whnf
        · refine ⟨by rw [wc]; omega, by rw [wc]; simp; omega, ?_⟩
          conv => whnf
          refine ⟨encI (intAt nums (q.client - 1)), by rw [wc]; exact intAt_row (l := nums) (by omega) (by omega), ?_⟩
          conv => whnf
          refine ⟨by rw [wc]; omega, by rw [wc]; simp; omega, ?_⟩
          conv => whnf
          refine ⟨encI (intAt nums (q.client - 1)), by rw [wc]; exact intAt_row (l := nums) (by omega) (by omega), ?_⟩
          conv => whnf
          have hrow : (nums.map encI).set (IntKind.i64.wrap (q.client - 1)).toNat (encI (IntKind.i64.wrap (intAt nums (q.client - 1) + 1))) = (nums.set (q.client - 1).toNat (intAt nums (q.client - 1) + 1)).map encI := by rw [wc, wn]; exact set_row rfl
          have hset : ∀ m ∈ nums.set (q.client - 1).toNat (intAt nums (q.client - 1) + 1), 0 ≤ m ∧ m ≤ 30 := fun m hm => by
            rcases mem_set hm with rfl | hm
            · omega
            · exact hnums m hm
          refine ⟨by rw [wc]; omega, by rw [wc]; simp; omega, ?_⟩
          conv => whnf
          refine ⟨encI (intAt nums (q.client - 1) + 1), by rw [wc, wn]; exact set_get (l := nums) rfl (by omega), ?_⟩
          conv => whnf
          refine ⟨fun hpos => ?_, fun hpos => ?_⟩ <;> conv => whnf
          · refine ⟨by rw [wc]; omega, by rw [wc]; simp; omega, ?_⟩
            conv => whnf
            refine ⟨encI (intAt nums (q.client - 1) + 1), by rw [wc, wn]; exact set_get (l := nums) rfl (by omega), ?_⟩
            conv => whnf
            refine ⟨fun hone => ?_, fun hone => ?_⟩ <;> conv => whnf
            · refine hcall_box (pick_ok full bs hb _ _ (by omega) (by omega) 1000) rfl rfl rfl ⟨⟨trivial, trivial⟩, ?_⟩
              conv => whnf
              refine ⟨fun h12 => ?_, fun h12 => ?_⟩ <;> conv => whnf
              · refine ⟨by simp, room (by simp; omega) rfl, room' (by simp; omega), ?_⟩
                conv => whnf
                exact dnext (q := Req0) hinv hn' (p' := (p1 + 1) + 1) (by dsimp only; omega) reqOk0 (nums := nums.set (q.client - 1).toNat (intAt nums (q.client - 1) + 1)) (by simp [hlen]) hset rfl rfl rfl rfl rfl hrow rfl rfl
              · refine ⟨by simp, room (by simp; omega) rfl, room' (by simp; omega), ?_⟩
                conv => whnf
                exact dnext (q := ⟨q.client, 1, 1, 0, 0⟩) hinv hn' (p' := (p1 + 1) + 1) (by dsimp only; omega) (reqOkJ hq) (nums := nums.set (q.client - 1).toNat (intAt nums (q.client - 1) + 1)) (by simp [hlen]) hset rfl rfl rfl rfl rfl hrow rfl rfl
            · refine hcall_box (pick_ok full bs hb _ _ (by omega) (by omega) 1000) rfl rfl rfl ⟨⟨trivial, trivial⟩, ?_⟩
              conv => whnf
              refine ⟨fun h12 => ?_, fun h12 => ?_⟩ <;> conv => whnf
              · refine ⟨by simp, room (by simp; omega) rfl, room' (by simp; omega), ?_⟩
                conv => whnf
                exact dnext (q := Req0) hinv hn' (p' := (p1 + 1) + 1) (by dsimp only; omega) reqOk0 (nums := nums.set (q.client - 1).toNat (intAt nums (q.client - 1) + 1)) (by simp [hlen]) hset rfl rfl rfl rfl rfl hrow rfl rfl
              · refine ⟨by simp, room (by simp; omega) rfl, room' (by simp; omega), ?_⟩
                conv => whnf
                exact dnext (q := ⟨q.client, (intAt nums (q.client - 1) + 1), q.op, q.x, q.y⟩) hinv hn' (p' := (p1 + 1) + 1) (by dsimp only; omega) (reqOkN hq (by omega)) (nums := nums.set (q.client - 1).toNat (intAt nums (q.client - 1) + 1)) (by simp [hlen]) hset rfl rfl rfl rfl rfl hrow rfl rfl
          · refine ⟨fun hone => ?_, fun hone => ?_⟩ <;> conv => whnf
            · refine hcall_box (pick_ok full bs hb _ _ (by omega) (by omega) 1000) rfl rfl rfl ⟨⟨trivial, trivial⟩, ?_⟩
              conv => whnf
              refine ⟨fun h12 => ?_, fun h12 => ?_⟩ <;> conv => whnf
              · refine ⟨by simp, room (by simp; omega) rfl, room' (by simp; omega), ?_⟩
                conv => whnf
                exact dnext (q := Req0) hinv hn' (p' := (p1 + 1) + 1) (by dsimp only; omega) reqOk0 (nums := nums.set (q.client - 1).toNat (intAt nums (q.client - 1) + 1)) (by simp [hlen]) hset rfl rfl rfl rfl rfl hrow rfl rfl
              · refine ⟨by simp, room (by simp; omega) rfl, room' (by simp; omega), ?_⟩
                conv => whnf
                exact dnext (q := ⟨q.client, 1, 1, 0, 0⟩) hinv hn' (p' := (p1 + 1) + 1) (by dsimp only; omega) (reqOkJ hq) (nums := nums.set (q.client - 1).toNat (intAt nums (q.client - 1) + 1)) (by simp [hlen]) hset rfl rfl rfl rfl rfl hrow rfl rfl
            · refine hcall_box (pick_ok full bs hb _ _ (by omega) (by omega) 1000) rfl rfl rfl ⟨⟨trivial, trivial⟩, ?_⟩
              conv => whnf
              refine ⟨fun h12 => ?_, fun h12 => ?_⟩ <;> conv => whnf
              · refine ⟨by simp, room (by simp; omega) rfl, room' (by simp; omega), ?_⟩
                conv => whnf
                exact dnext (q := Req0) hinv hn' (p' := (p1 + 1) + 1) (by dsimp only; omega) reqOk0 (nums := nums.set (q.client - 1).toNat (intAt nums (q.client - 1) + 1)) (by simp [hlen]) hset rfl rfl rfl rfl rfl hrow rfl rfl
              · refine ⟨by simp, room (by simp; omega) rfl, room' (by simp; omega), ?_⟩
                conv => whnf
                exact dnext (q := q) hinv hn' (p' := (p1 + 1) + 1) (by dsimp only; omega) (reqOkQ hq) (nums := nums.set (q.client - 1).toNat (intAt nums (q.client - 1) + 1)) (by simp [hlen]) hset rfl rfl rfl rfl rfl hrow rfl rfl
        · skip
          refine ⟨by rw [wc]; omega, by rw [wc]; simp; omega, ?_⟩
          conv => whnf
          refine ⟨encI (intAt nums (q.client - 1)), by rw [wc]; exact intAt_row (l := nums) (by omega) (by omega), ?_⟩
          conv => whnf
          refine ⟨fun hpos => ?_, fun hpos => ?_⟩ <;> conv => whnf
          · refine ⟨by rw [wc]; omega, by rw [wc]; simp; omega, ?_⟩
            conv => whnf
            refine ⟨encI (intAt nums (q.client - 1)), by rw [wc]; exact intAt_row (l := nums) (by omega) (by omega), ?_⟩
            conv => whnf
            refine ⟨fun hone => ?_, fun hone => ?_⟩ <;> conv => whnf
            · refine hcall_box (pick_ok full bs hb _ _ (by omega) (by omega) 1000) rfl rfl rfl ⟨⟨trivial, trivial⟩, ?_⟩
              conv => whnf
              refine ⟨fun h12 => ?_, fun h12 => ?_⟩ <;> conv => whnf
              · refine ⟨by simp, room (by simp; omega) rfl, room' (by simp; omega), ?_⟩
                conv => whnf
                exact dnext (q := Req0) hinv hn' (p' := (p1 + 1) + 1) (by dsimp only; omega) reqOk0 (nums := nums) hlen hnums rfl rfl rfl rfl rfl rfl rfl rfl
              · refine ⟨by simp, room (by simp; omega) rfl, room' (by simp; omega), ?_⟩
                conv => whnf
                exact dnext (q := ⟨q.client, 1, 1, 0, 0⟩) hinv hn' (p' := (p1 + 1) + 1) (by dsimp only; omega) (reqOkJ hq) (nums := nums) hlen hnums rfl rfl rfl rfl rfl rfl rfl rfl
            · refine hcall_box (pick_ok full bs hb _ _ (by omega) (by omega) 1000) rfl rfl rfl ⟨⟨trivial, trivial⟩, ?_⟩
              conv => whnf
              refine ⟨fun h12 => ?_, fun h12 => ?_⟩ <;> conv => whnf
              · refine ⟨by simp, room (by simp; omega) rfl, room' (by simp; omega), ?_⟩
                conv => whnf
                exact dnext (q := Req0) hinv hn' (p' := (p1 + 1) + 1) (by dsimp only; omega) reqOk0 (nums := nums) hlen hnums rfl rfl rfl rfl rfl rfl rfl rfl
              · refine ⟨by simp, room (by simp; omega) rfl, room' (by simp; omega), ?_⟩
                conv => whnf
                exact dnext (q := ⟨q.client, (intAt nums (q.client - 1)), q.op, q.x, q.y⟩) hinv hn' (p' := (p1 + 1) + 1) (by dsimp only; omega) (reqOkN hq (by omega)) (nums := nums) hlen hnums rfl rfl rfl rfl rfl rfl rfl rfl
          · refine ⟨fun hone => ?_, fun hone => ?_⟩ <;> conv => whnf
            · refine hcall_box (pick_ok full bs hb _ _ (by omega) (by omega) 1000) rfl rfl rfl ⟨⟨trivial, trivial⟩, ?_⟩
              conv => whnf
              refine ⟨fun h12 => ?_, fun h12 => ?_⟩ <;> conv => whnf
              · refine ⟨by simp, room (by simp; omega) rfl, room' (by simp; omega), ?_⟩
                conv => whnf
                exact dnext (q := Req0) hinv hn' (p' := (p1 + 1) + 1) (by dsimp only; omega) reqOk0 (nums := nums) hlen hnums rfl rfl rfl rfl rfl rfl rfl rfl
              · refine ⟨by simp, room (by simp; omega) rfl, room' (by simp; omega), ?_⟩
                conv => whnf
                exact dnext (q := ⟨q.client, 1, 1, 0, 0⟩) hinv hn' (p' := (p1 + 1) + 1) (by dsimp only; omega) (reqOkJ hq) (nums := nums) hlen hnums rfl rfl rfl rfl rfl rfl rfl rfl
            · refine hcall_box (pick_ok full bs hb _ _ (by omega) (by omega) 1000) rfl rfl rfl ⟨⟨trivial, trivial⟩, ?_⟩
              conv => whnf
              refine ⟨fun h12 => ?_, fun h12 => ?_⟩ <;> conv => whnf
              · refine ⟨by simp, room (by simp; omega) rfl, room' (by simp; omega), ?_⟩
                conv => whnf
                exact dnext (q := Req0) hinv hn' (p' := (p1 + 1) + 1) (by dsimp only; omega) reqOk0 (nums := nums) hlen hnums rfl rfl rfl rfl rfl rfl rfl rfl
              · refine ⟨by simp, room (by simp; omega) rfl, room' (by simp; omega), ?_⟩
                conv => whnf
                exact dnext (q := q) hinv hn' (p' := (p1 + 1) + 1) (by dsimp only; omega) (reqOkQ hq) (nums := nums) hlen hnums rfl rfl rfl rfl rfl rfl rfl rfl
      · skip
        refine ⟨by rw [wc]; omega, by rw [wc]; simp; omega, ?_⟩
        conv => whnf
        refine ⟨encI (intAt nums (q.client - 1)), by rw [wc]; exact intAt_row (l := nums) (by omega) (by omega), ?_⟩
        conv => whnf
        refine ⟨fun hpos => ?_, fun hpos => ?_⟩ <;> conv => whnf
        · refine ⟨by rw [wc]; omega, by rw [wc]; simp; omega, ?_⟩
          conv => whnf
          refine ⟨encI (intAt nums (q.client - 1)), by rw [wc]; exact intAt_row (l := nums) (by omega) (by omega), ?_⟩
          conv => whnf
          refine ⟨fun hone => ?_, fun hone => ?_⟩ <;> conv => whnf
          · refine hcall_box (pick_ok full bs hb _ _ (by omega) (by omega) 1000) rfl rfl rfl ⟨⟨trivial, trivial⟩, ?_⟩
            conv => whnf
            refine ⟨fun h12 => ?_, fun h12 => ?_⟩ <;> conv => whnf
            · refine ⟨by simp, room (by simp; omega) rfl, room' (by simp; omega), ?_⟩
              conv => whnf
              exact dnext (q := Req0) hinv hn' (p' := p1 + 1) (by dsimp only; omega) reqOk0 (nums := nums) hlen hnums rfl rfl rfl rfl rfl rfl rfl rfl
            · refine ⟨by simp, room (by simp; omega) rfl, room' (by simp; omega), ?_⟩
              conv => whnf
              exact dnext (q := ⟨q.client, 1, 1, 0, 0⟩) hinv hn' (p' := p1 + 1) (by dsimp only; omega) (reqOkJ hq) (nums := nums) hlen hnums rfl rfl rfl rfl rfl rfl rfl rfl
          · refine hcall_box (pick_ok full bs hb _ _ (by omega) (by omega) 1000) rfl rfl rfl ⟨⟨trivial, trivial⟩, ?_⟩
            conv => whnf
            refine ⟨fun h12 => ?_, fun h12 => ?_⟩ <;> conv => whnf
            · refine ⟨by simp, room (by simp; omega) rfl, room' (by simp; omega), ?_⟩
              conv => whnf
              exact dnext (q := Req0) hinv hn' (p' := p1 + 1) (by dsimp only; omega) reqOk0 (nums := nums) hlen hnums rfl rfl rfl rfl rfl rfl rfl rfl
            · refine ⟨by simp, room (by simp; omega) rfl, room' (by simp; omega), ?_⟩
              conv => whnf
              exact dnext (q := ⟨q.client, (intAt nums (q.client - 1)), q.op, q.x, q.y⟩) hinv hn' (p' := p1 + 1) (by dsimp only; omega) (reqOkN hq (by omega)) (nums := nums) hlen hnums rfl rfl rfl rfl rfl rfl rfl rfl
        · refine ⟨fun hone => ?_, fun hone => ?_⟩ <;> conv => whnf
          · refine hcall_box (pick_ok full bs hb _ _ (by omega) (by omega) 1000) rfl rfl rfl ⟨⟨trivial, trivial⟩, ?_⟩
            conv => whnf
            refine ⟨fun h12 => ?_, fun h12 => ?_⟩ <;> conv => whnf
            · refine ⟨by simp, room (by simp; omega) rfl, room' (by simp; omega), ?_⟩
              conv => whnf
              exact dnext (q := Req0) hinv hn' (p' := p1 + 1) (by dsimp only; omega) reqOk0 (nums := nums) hlen hnums rfl rfl rfl rfl rfl rfl rfl rfl
            · refine ⟨by simp, room (by simp; omega) rfl, room' (by simp; omega), ?_⟩
              conv => whnf
              exact dnext (q := ⟨q.client, 1, 1, 0, 0⟩) hinv hn' (p' := p1 + 1) (by dsimp only; omega) (reqOkJ hq) (nums := nums) hlen hnums rfl rfl rfl rfl rfl rfl rfl rfl
          · refine hcall_box (pick_ok full bs hb _ _ (by omega) (by omega) 1000) rfl rfl rfl ⟨⟨trivial, trivial⟩, ?_⟩
            conv => whnf
            refine ⟨fun h12 => ?_, fun h12 => ?_⟩ <;> conv => whnf
            · refine ⟨by simp, room (by simp; omega) rfl, room' (by simp; omega), ?_⟩
              conv => whnf
              exact dnext (q := Req0) hinv hn' (p' := p1 + 1) (by dsimp only; omega) reqOk0 (nums := nums) hlen hnums rfl rfl rfl rfl rfl rfl rfl rfl
            · refine ⟨by simp, room (by simp; omega) rfl, room' (by simp; omega), ?_⟩
              conv => whnf
              exact dnext (q := q) hinv hn' (p' := p1 + 1) (by dsimp only; omega) (reqOkQ hq) (nums := nums) hlen hnums rfl rfl rfl rfl rfl rfl rfl rfl
    · refine fin _ _ _ hinv ?_
      rfl
end Go.Proofs.YtdfneaponidfgaaDoor
/- The games that are drawn. -/
set_option linter.unusedVariables false
set_option maxRecDepth 10000
namespace Go.Proofs.YtdfneaponidfgaaDoor
open Go Eng

abbrev ownG (g : Game) : HP := [(6, .arr false 5 (g.ents.map encEnt)), (10, .arr false 1 (g.floor.map encI)), (14, .arr false 1 (g.last.map encI))]
abbrev ownV : V := .agg [.own 6, .own 10, .own 14]

theorem reqs_use {full : Bool} {bs : List Int} (hb : Bytes bs) {p : Int} (h0 : 0 ≤ p) (h1 : p ≤ 1099511620000) {most : Int} (m0 : 0 ≤ most) (m1 : most ≤ 40) {s : St} (hs : s.hp 1000 = .box (rdC full bs p)) {K : HP → V → HP → Prop}
    (k : ∀ (f : Bool) (list : List Req) p', (p ≤ p' ∧ p' ≤ p + 1000) → (∀ q ∈ list, ReqOk q) → K (Rd 1000 full bs p) (.d (.slc f 5 (list.map encReq))) (Rd 1000 full bs p')) :
    ∃ hin φ, HCalls Tryd.prog G0 27 (hpOf hin) [.ref 1000 0 0 0, vi most] φ ∧ weakHp s (hin.map (·.1)) hin ∧ okVs (hin.map (·.1)) [.ref 1000 0 0 0, vi most] = true ∧ ∀ r l, φ r l → K hin r l :=
  ⟨_, _, reqs_ok full bs hb p h0 h1 most m0 m1, ⟨hs, rfl, trivial⟩, rfl, fun r l ⟨f, list, p', e1, e2, h3, h4⟩ => by subst e1; subst e2; exact k f list p' h3 h4⟩
theorem open_use {full : Bool} {bs : List Int} (hb : Bytes bs) {s : St} {K : HP → V → HP → Prop}
    (k : ∀ f' bs', Bytes bs' → K [] (.ref 1000 0 0 0) (Rd 1000 f' bs' 0)) :
    ∃ hin φ, HCalls Tryd.prog G0 26 (hpOf hin) [.d (.slc full 1 (bs.map encB))] φ ∧ weakHp s (hin.map (·.1)) hin ∧ okVs (hin.map (·.1)) [.d (.slc full 1 (bs.map encB))] = true ∧ ∀ r l, φ r l → K hin r l :=
  ⟨[], _, open_ok full bs, trivial, rfl, fun r l ⟨f', bs', e1, e2, h3⟩ => by
    subst e1; subst e2
    exact k f' bs' fun i b hi => by
      obtain ⟨j, hj⟩ := List.mem_iff_getElem?.1 (h3 b (List.mem_of_getElem? hi))
      exact hb j b hj⟩

end Go.Proofs.YtdfneaponidfgaaDoor
/- What the reference says of asks and of gold; what is drawn for the law of gold. -/
set_option linter.unusedVariables false
set_option linter.unusedSimpArgs false
set_option maxRecDepth 10000
namespace Go.Proofs.YtdfneaponidfgaaDoor
open Go Eng

def okR (r : Req) : Bool := inB r.client 1 4 && (inB r.num 1 30 &&
  (if r.op = 1 ∨ r.op = 3 then decide (r.x = 0) && decide (r.y = 0)
   else if r.op = 2 then inB r.x (-1) 1 && inB r.y (-1) 1
   else if r.op = 4 then inB r.x 1 4 && decide (r.y = 0)
   else if r.op = 5 then inB r.x 1 4 && inB r.y 1 9
   else false))
theorem l1Ok_ok (r : Req) : ACalls Tryd.prog G0 16 [vReq r] (· = vb (okR r)) := by
  refine spec_intro tabOk Tryd.func16 (by kernel_rfl) rfl ?_
  conv => whnf
  refine call_bool (l1In_ok _ _ _) (fun h1 => ?_) (fun h1 => ?_) <;> conv => whnf
  · refine call_bool (l1In_ok _ _ _) (fun h2 => ?_) (fun h2 => ?_) <;> conv => whnf
    · have base : ∀ b : Bool, (if r.op = 1 ∨ r.op = 3 then decide (r.x = 0) && decide (r.y = 0)
          else if r.op = 2 then inB r.x (-1) 1 && inB r.y (-1) 1
          else if r.op = 4 then inB r.x 1 4 && decide (r.y = 0)
          else if r.op = 5 then inB r.x 1 4 && inB r.y 1 9
          else false) = b → okR r = b := fun b hb => by unfold okR; rw [h1, h2, hb]; rfl
      have t13 : (r.op = 1 ∨ r.op = 3) → ∀ {v : V} {b : Bool}, v = vb b → (decide (r.x = 0) && decide (r.y = 0)) = b → v = vb (okR r) := fun ho v b hv hb => by rw [hv, base b (by rw [if_pos ho]; exact hb)]
      refine ⟨fun o1 => ?_, fun o1 => ?_⟩ <;> conv => whnf
      · refine ⟨fun hx => ?_, fun hx => ?_⟩ <;> conv => whnf
        · refine ⟨fun hy => ?_, fun hy => ?_⟩ <;> conv => whnf
          · exact t13 (.inl o1) rfl (by simp [hx, hy])
          · exact t13 (.inl o1) rfl (by simp [hx, hy])
        · exact t13 (.inl o1) rfl (by simp [hx])
      refine ⟨fun o3 => ?_, fun o3 => ?_⟩ <;> conv => whnf
      · refine ⟨fun hx => ?_, fun hx => ?_⟩ <;> conv => whnf
        · refine ⟨fun hy => ?_, fun hy => ?_⟩ <;> conv => whnf
          · exact t13 (.inr o3) rfl (by simp [hx, hy])
          · exact t13 (.inr o3) rfl (by simp [hx, hy])
        · exact t13 (.inr o3) rfl (by simp [hx])
      have n13 : ¬ (r.op = 1 ∨ r.op = 3) := by omega
      refine ⟨fun o2 => ?_, fun o2 => ?_⟩ <;> conv => whnf
      · refine call_bool (l1In_ok _ _ _) (fun hx => ?_) (fun hx => ?_) <;> conv => whnf
        · refine call_bool (l1In_ok _ _ _) (fun hy => ?_) (fun hy => ?_) <;> conv => whnf
          · exact congrArg vb (base true (by rw [if_neg n13, if_pos o2, hx, hy]; rfl)).symm
          · exact congrArg vb (base false (by rw [if_neg n13, if_pos o2, hx, hy]; rfl)).symm
        · exact congrArg vb (base false (by rw [if_neg n13, if_pos o2, hx]; rfl)).symm
      refine ⟨fun o4 => ?_, fun o4 => ?_⟩ <;> conv => whnf
      · refine call_bool (l1In_ok _ _ _) (fun hx => ?_) (fun hx => ?_) <;> conv => whnf
        · refine ⟨fun hy => ?_, fun hy => ?_⟩ <;> conv => whnf
          · exact congrArg vb (base true (by rw [if_neg n13, if_neg o2, if_pos o4, hx]; simp [hy])).symm
          · exact congrArg vb (base false (by rw [if_neg n13, if_neg o2, if_pos o4, hx]; simp [hy])).symm
        · exact congrArg vb (base false (by rw [if_neg n13, if_neg o2, if_pos o4, hx]; rfl)).symm
      refine ⟨fun o5 => ?_, fun o5 => ?_⟩ <;> conv => whnf
      · refine call_bool (l1In_ok _ _ _) (fun hx => ?_) (fun hx => ?_) <;> conv => whnf
        · refine call_bool (l1In_ok _ _ _) (fun hy => ?_) (fun hy => ?_) <;> conv => whnf
          · exact congrArg vb (base true (by rw [if_neg n13, if_neg o2, if_neg o4, if_pos o5, hx, hy]; rfl)).symm
          · exact congrArg vb (base false (by rw [if_neg n13, if_neg o2, if_neg o4, if_pos o5, hx, hy]; rfl)).symm
        · exact congrArg vb (base false (by rw [if_neg n13, if_neg o2, if_neg o4, if_pos o5, hx]; rfl)).symm
      exact congrArg vb (base false (by rw [if_neg n13, if_neg o2, if_neg o4, if_neg o5])).symm
    · exact congrArg vb (show okR r = false by unfold okR; rw [h1, h2]; rfl).symm
  · exact congrArg vb (show okR r = false by unfold okR; rw [h1]; rfl).symm

noncomputable def goldV (g : Game) : V := if okG g = true then .tup [vi (g.ents.map Ent.gold).sum, vi g.floor.sum] else .tup [vi (-1), vi (-1)]
theorem anyReq_ok (full : Bool) (bs : List Int) (hb : Bytes bs) (p : Int) (h0 : 0 ≤ p) (h1 : p ≤ 1099511620000) : HCalls Tryd.prog G0 29 (hpOf (Rd 1000 full bs p)) [.ref 1000 0 0 0]
    (fun r l => ∃ q p', r = vReq q ∧ l = Rd 1000 full bs p' ∧ (p ≤ p' ∧ p' ≤ p + 20)) := by
  refine hspec tabOk Tryd.func29 (by kernel_rfl) false [] [42, 28, 41] rfl ?_
  conv => whnf
  refine req_use hb h0 (by omega) rfl (fun q p1 hp1 hq => ⟨⟨trivial, trivial⟩, ?_⟩)
  conv => whnf
  refine hcall_box (pick_ok full bs hb _ _ (by omega) (by omega) 1000) rfl rfl rfl ⟨⟨trivial, trivial⟩, ?_⟩
  conv => whnf
  have fin : ∀ (s : St) (q : Req) (v : V) (p' : Int), (p ≤ p' ∧ p' ≤ p + 20) → v = vReq q → s.hp 1000 = .box (rdC full bs p') →
      ∃ l, HRest s [1000] l ∧ ∃ q p', v = vReq q ∧ l = Rd 1000 full bs p' ∧ (p ≤ p' ∧ p' ≤ p + 20) := fun s q v p' hp hv hs =>
    ⟨Rd 1000 full bs p', ⟨weakHp_cons hs rfl weakHp_nil, rfl, rfl⟩, q, p', hv, rfl, hp⟩
  refine ⟨fun hc => ?_, fun hc => ?_⟩ <;> conv => whnf
  · refine fin _ Req0 _ (p1 + 1) (by omega) ?_ ?_ <;> rfl
  refine ⟨fun hc => ?_, fun hc => ?_⟩ <;> conv => whnf
  · refine hcall_box (one_ok full true bs hb (p1 + 1) (by omega) (by omega) [0, 5, 4] (by simp) 1000) rfl rfl rfl ⟨⟨trivial, trivial⟩, ?_⟩
    conv => whnf
    refine fin _ ⟨oneF bs (p1 + 1) [0, 5, 4], q.num, q.op, q.x, q.y⟩ _ (p1 + 1 + 1) (by omega) ?_ ?_ <;> rfl
  refine ⟨fun hc => ?_, fun hc => ?_⟩ <;> conv => whnf
  · refine hcall_box (one_ok full true bs hb (p1 + 1) (by omega) (by omega) [0, 31, 30] (by simp) 1000) rfl rfl rfl ⟨⟨trivial, trivial⟩, ?_⟩
    conv => whnf
    refine fin _ ⟨q.client, oneF bs (p1 + 1) [0, 31, 30], q.op, q.x, q.y⟩ _ (p1 + 1 + 1) (by omega) ?_ ?_ <;> rfl
  refine ⟨fun hc => ?_, fun hc => ?_⟩ <;> conv => whnf
  · refine hcall_box (one_ok full true bs hb (p1 + 1) (by omega) (by omega) [0, 6] (by simp) 1000) rfl rfl rfl ⟨⟨trivial, trivial⟩, ?_⟩
    conv => whnf
    refine fin _ ⟨q.client, q.num, oneF bs (p1 + 1) [0, 6], q.x, q.y⟩ _ (p1 + 1 + 1) (by omega) ?_ ?_ <;> rfl
  refine ⟨fun hc => ?_, fun hc => ?_⟩ <;> conv => whnf
  · refine hcall_box (one_ok full true bs hb (p1 + 1) (by omega) (by omega) [-2, 2, 5] (by simp) 1000) rfl rfl rfl ⟨⟨trivial, trivial⟩, ?_⟩
    conv => whnf
    refine fin _ ⟨q.client, q.num, q.op, oneF bs (p1 + 1) [-2, 2, 5], q.y⟩ _ (p1 + 1 + 1) (by omega) ?_ ?_ <;> rfl
  · refine fin _ q _ (p1 + 1) (by omega) ?_ ?_ <;> rfl
theorem anyReq_use {full : Bool} {bs : List Int} (hb : Bytes bs) {p : Int} (h0 : 0 ≤ p) (h1 : p ≤ 1099511620000) {s : St} (hs : s.hp 1000 = .box (rdC full bs p)) {K : HP → V → HP → Prop}
    (k : ∀ q p', (p ≤ p' ∧ p' ≤ p + 20) → K (Rd 1000 full bs p) (vReq q) (Rd 1000 full bs p')) :
    ∃ hin φ, HCalls Tryd.prog G0 29 (hpOf hin) [.ref 1000 0 0 0] φ ∧ weakHp s (hin.map (·.1)) hin ∧ okVs (hin.map (·.1)) [.ref 1000 0 0 0] = true ∧ ∀ r l, φ r l → K hin r l :=
  ⟨_, _, anyReq_ok full bs hb p h0 h1, ⟨hs, rfl, trivial⟩, rfl, fun r l ⟨q, p', e1, e2, h3⟩ => by subst e1; subst e2; exact k q p' h3⟩

theorem okR_client {r : Req} (h : okR r = true) : 1 ≤ r.client ∧ r.client ≤ 4 := by
  unfold okR at h
  simp only [Bool.and_eq_true, inB_t] at h
  exact h.1
end Go.Proofs.YtdfneaponidfgaaDoor
/- What the program's check of a game computes. -/
set_option linter.unusedVariables false
set_option maxRecDepth 10000
namespace Go.Proofs.YtdfneaponidfgaaDoor
open Go Eng

theorem in_ok (n lo hi : Int) : ACalls Tryd.prog G0 23 [vi n, vi lo, vi hi] (· = vb (inB n lo hi)) := by
  refine spec_intro tabOk Tryd.func23 (by kernel_rfl) rfl ?_
  conv => whnf
  refine ⟨fun h1 => ?_, fun h1 => ?_⟩ <;> conv => whnf
  · refine ⟨fun h2 => ?_, fun h2 => ?_⟩ <;> conv => whnf
    · simp [vb, inB, *]
    · simp [vb, inB, *]
  · simp [vb, inB, *]
def boardB (x y : Int) : Bool := inB x 0 3 && inB y 0 3
theorem board_ok (x y : Int) : ACalls Tryd.prog G0 43 [vi x, vi y] (· = vb (boardB x y)) := by
  refine spec_intro tabOk Tryd.func43 (by kernel_rfl) rfl ?_
  conv => whnf
  refine call_bool (in_ok _ _ _) (fun h => ?_) (fun h => ?_) <;> conv => whnf
  · refine call_bool (in_ok _ _ _) (fun h2 => ?_) (fun h2 => ?_) <;> conv => whnf
    · simp [vb, boardB, *]
    · simp [vb, boardB, *]
  · simp [vb, boardB, *]
theorem last1_ok (n : Int) : ACalls Tryd.prog G0 45 [vi n] (· = vb (!inB n 0 30)) := by
  refine spec_intro tabOk Tryd.func45 (by kernel_rfl) rfl ?_
  conv => whnf
  refine call_bool (in_ok _ _ _) (fun h => ?_) (fun h => ?_) <;> conv => whnf
  · simp [vb, *]
  · simp [vb, *]
/-- The first number that is not one of an ask. -/
theorem index_ok (f : Bool) (l : List Int) : ACalls Tryd.prog G0 56 [.d (dInts f l), .d (.fn 45 [])] (fun r => ∃ k, r = vi k ∧ (0 ≤ k ↔ ∃ n ∈ l, inB n 0 30 = false)) := by
  refine spec_intro tabOk Tryd.func56 (by kernel_rfl) rfl ?_
  conv => whnf
  intro hlen
  have hlen := le_map hlen
  let P : Nat → Prop := fun i => ∀ (j : Nat) n, j < i → l[j]? = some n → inB n 0 30 = true
  let I : Nat → SL := fun i => ⟨[(0, .d (dInts f l)), (1, .d (.fn 45 [])), (7, vi (l.map encI).length), (8, vi i)], []⟩
  refine loop_up l.length P I (by intro j n h; omega) ?_ ?_
  · refine ⟨?_, ?_, rfl⟩ <;> repeat' (first | exact weakSl_nil | exact weakHp_nil | refine weakSl_cons ?_ rfl ?_ | refine weakHp_cons ?_ rfl ?_)
    all_goals rfl
  intro i hi hP
  conv => whnf
  refine ⟨fun hlt => ?_, fun hge => ?_⟩ <;> conv => whnf
  · have hlt := lt_map hlt
    refine (entsAt hlt).elim fun n hn => ?_
    refine ⟨by omega, encI n, row_map hn, ?_⟩
    conv => whnf
    refine call_bool (last1_ok n) (fun h => ?_) (fun h => ?_) <;> conv => whnf
    · exact ⟨(i : Nat), rfl, ⟨fun _ => ⟨n, List.mem_of_getElem? hn, by simpa using h⟩, fun _ => by omega⟩⟩
    · exact up_next hlt (fun j x hj hx => by
        by_cases hji : j = i
        · subst hji; rw [hn] at hx; injection hx with hx; subst hx; simpa using h
        · exact hP j x (by omega) hx) ⟨weakSl_cons rfl rfl (weakSl_cons rfl rfl (weakSl_cons rfl rfl (weakSl_cons (wrap_succ (by omega)) rfl weakSl_nil))), weakHp_nil, rfl⟩
  have hin := ge_map hge hi
  subst hin
  refine ⟨-1, rfl, ⟨fun h => by omega, fun ⟨n, hn, h⟩ => ?_⟩⟩
  obtain ⟨j, hj⟩ := List.mem_iff_getElem?.1 hn
  rw [hP j n (List.getElem?_eq_some_iff.1 hj).1 hj] at h
  simp at h
def badB (l : List Int) : Bool := l.any fun n => !inB n 0 30
theorem badB_t {l : List Int} : badB l = true ↔ ∃ n ∈ l, inB n 0 30 = false := by simp [badB]
theorem contains_ok (f : Bool) (l : List Int) : ACalls Tryd.prog G0 44 [.d (dInts f l), .d (.fn 45 [])] (· = vb (badB l)) := by
  refine spec_intro tabOk Tryd.func44 (by kernel_rfl) rfl ?_
  conv => whnf
  refine ⟨_, index_ok f l, fun r ⟨k, hr, hk⟩ => ?_⟩
  subst hr
  conv => whnf
  refine ⟨fun h => ?_, fun h => ?_⟩ <;> conv => whnf
  · exact congrArg vb (badB_t.2 (hk.1 h)).symm
  · refine congrArg vb ?_
    cases hb : badB l with
    | false => rfl
    | true => exact absurd (hk.2 (badB_t.1 hb)) h

def lastC (l : List Ent) : Nat → Int
  | 0 => 0
  | i + 1 => (entAt l i).client
theorem entOk_split {e : Ent} {n : Int} (hn : 0 ≤ n) : (inB e.client (n + 1) 4 = true ∧ boardB e.x e.y = true ∧ inB e.life 0 3 = true ∧ inB e.gold 0 20 = true) ↔ (entOk e = true ∧ n < e.client) := by
  simp only [entOk, boardB, Bool.and_eq_true, inB_t]
  omega
theorem gameOk_ok (a b c : Bool) (g : Game) : ACalls Tryd.prog G0 30 [vGame a b c g] (· = vb (okG g)) := by
  refine spec_intro tabOk Tryd.func30 (by kernel_rfl) rfl ?_
  conv => whnf
  intro hlen
  have hlen := le_map hlen
  let P1 : Nat → Prop := fun i => (∀ (j : Nat) e, j < i → g.ents[j]? = some e → entOk e = true) ∧ (∀ (j : Nat) p e, j + 1 < i → g.ents[j]? = some p → g.ents[j + 1]? = some e → p.client < e.client)
  let I1 : Nat → SL := fun i => ⟨[(1, .ref 1 0 0 0), (3, vi (lastC g.ents i)), (4, vi ((g.ents.map Ent.gold).take i).sum), (10, .d (dEnts a g.ents)), (11, vi (g.ents.map encEnt).length), (12, vi i)], [(1, .box [.d (dEnts a g.ents), .d (dInts b g.floor), .d (dInts c g.last)])]⟩
  refine loop_up g.ents.length P1 I1 ⟨by omega, by omega⟩ ?_ ?_
  · refine ⟨?_, ?_, rfl⟩ <;> repeat' (first | exact weakSl_nil | exact weakHp_nil | refine weakSl_cons ?_ rfl ?_ | refine weakHp_cons ?_ rfl ?_)
    all_goals rfl
  rintro i hi ⟨hP1, hP2⟩
  have hgi : ∀ e, entOk e = true → 0 ≤ e.gold ∧ e.gold ≤ 20 := fun e he => by
    simp only [entOk, Bool.and_eq_true, inB_t] at he; exact he.2
  have hr : 0 ≤ ((g.ents.map Ent.gold).take i).sum ∧ ((g.ents.map Ent.gold).take i).sum ≤ 20 * ((g.ents.map Ent.gold).take i).length := sum_range (by omega) fun j n hj => by
    rw [List.getElem?_take] at hj
    split at hj
    · rw [List.getElem?_map] at hj
      cases hx : g.ents[j]? with
      | none => simp [hx] at hj
      | some x =>
        simp [hx] at hj
        subst hj
        exact hgi x (hP1 j x (by assumption) hx)
    · simp at hj
  have hl : ((g.ents.map Ent.gold).take i).length = i := by simp; omega
  rw [hl] at hr
  have hlc : 0 ≤ lastC g.ents i ∧ lastC g.ents i ≤ 4 := by
    cases i with
    | zero => simp [lastC]
    | succ k =>
      have hk : k < g.ents.length := by omega
      have := hP1 k (entAt g.ents k) (by omega) (by simp [entAt, hk])
      simp only [entOk, Bool.and_eq_true, inB_t] at this
      simp only [lastC]; omega
  have wl : IntKind.i64.wrap (lastC g.ents i + 1) = lastC g.ents i + 1 := wrap_id (by omega) (by omega)
  conv => whnf
  refine ⟨fun hlt => ?_, fun hge => ?_⟩ <;> conv => whnf
  · have hlt := lt_map hlt
    refine (entsAt hlt).elim fun e he => ?_
    have hprev : ∀ (j : Nat) p, j + 1 = i → g.ents[j]? = some p → p.client = lastC g.ents i := fun j p hj hp => by
      subst hj; simp [lastC, entAt, hp]
    have bad : ¬ (inB e.client (lastC g.ents i + 1) 4 = true ∧ boardB e.x e.y = true ∧ inB e.life 0 3 = true ∧ inB e.gold 0 20 = true) → okG g = false := fun hb => okG_f fun hok => hb ((entOk_split hlc.1).2 ⟨hok.ent i e he, by
      cases i with
      | zero => have := hok.ent 0 e he; simp only [entOk, Bool.and_eq_true, inB_t] at this; simp only [lastC]; omega
      | succ k =>
        have hk : k < g.ents.length := by omega
        have := hok.ord k (entAt g.ents k) e (by simp [entAt, hk]) he
        simpa [lastC] using this⟩)
    refine ⟨by omega, encEnt e, row_map he, ?_⟩
    conv => whnf
    refine call_bool (in_ok _ _ _) (fun h1 => ?_) (fun h1 => ?_) <;> conv => whnf
    · rw [wl] at h1
      refine call_bool (board_ok _ _) (fun h2 => ?_) (fun h2 => ?_) <;> conv => whnf
      · refine call_bool (in_ok _ _ _) (fun h3 => ?_) (fun h3 => ?_) <;> conv => whnf
        · refine call_bool (in_ok _ _ _) (fun h4 => ?_) (fun h4 => ?_) <;> conv => whnf
          · have hok := (entOk_split hlc.1).1 ⟨h1, h2, h3, h4⟩
            have hs : vi (IntKind.i64.wrap (((g.ents.map Ent.gold).take i).sum + e.gold)) = vi ((g.ents.map Ent.gold).take (i + 1)).sum := by
              have hg := hgi e hok.1
              rw [wrap_id (by omega) (by omega), sum_succ (n := e.gold) (by simp [he])]
            have hcl : vi e.client = vi (lastC g.ents (i + 1)) := by simp [lastC, entAt, he]
            refine up_next hlt ⟨fun j x hj hx => ?_, fun j p x hj hp hx => ?_⟩ ⟨weakSl_cons rfl rfl (weakSl_cons hcl rfl (weakSl_cons hs rfl (weakSl_cons rfl rfl (weakSl_cons rfl rfl (weakSl_cons (wrap_succ (by omega)) rfl weakSl_nil))))), weakHp_cons rfl rfl weakHp_nil, rfl⟩
            · by_cases hji : j = i
              · subst hji; rw [he] at hx; injection hx with hx; subst hx; exact hok.1
              · exact hP1 j x (by omega) hx
            · by_cases hji : j + 1 = i
              · have := hprev j p hji hp
                subst hji
                rw [he] at hx; injection hx with hx; subst hx
                rw [this]; exact hok.2
              · exact hP2 j p x (by omega) hp hx
          · exact congrArg vb (bad fun hb => by rw [hb.2.2.2] at h4; simp at h4).symm
        · exact congrArg vb (bad fun hb => by rw [hb.2.2.1] at h3; simp at h3).symm
      · exact congrArg vb (bad fun hb => by rw [hb.2.1] at h2; simp at h2).symm
    · rw [wl] at h1; exact congrArg vb (bad fun hb => by rw [hb.1] at h1; simp at h1).symm
  have hin := ge_map hge hi
  subst hin
  have hall : (g.ents.map Ent.gold).take g.ents.length = g.ents.map Ent.gold := List.take_of_length_le (by simp)
  rw [hall] at hr
  intro hlen2
  have hlen2 := le_map hlen2
  let P2 : Nat → Prop := fun i => ∀ (j : Nat) n, j < i → g.floor[j]? = some n → inB n 0 20 = true
  let I2 : Nat → SL := fun i => ⟨[(1, .ref 1 0 0 0), (4, vi ((g.ents.map Ent.gold).sum + (g.floor.take i).sum)), (50, .d (dInts b g.floor)), (51, vi (g.floor.map encI).length), (52, vi i)], [(1, .box [.d (dEnts a g.ents), .d (dInts b g.floor), .d (dInts c g.last)])]⟩
  refine loop_up g.floor.length P2 I2 (by omega) ?_ ?_
  · refine ⟨?_, ?_, rfl⟩ <;> repeat' (first | exact weakSl_nil | exact weakHp_nil | refine weakSl_cons ?_ rfl ?_ | refine weakHp_cons ?_ rfl ?_)
    · rfl
    · exact congrArg vi (by rw [hall]; simp)
    · rfl
    · rfl
    · rfl
    · rfl
  intro i hi hP
  have hr2 : 0 ≤ (g.floor.take i).sum ∧ (g.floor.take i).sum ≤ 20 * (g.floor.take i).length := sum_range (by omega) fun j n hj => by
    rw [List.getElem?_take] at hj
    split at hj
    · exact inB_t.1 (hP j n (by assumption) hj)
    · simp at hj
  have hl2 : (g.floor.take i).length = i := by simp; omega
  rw [hl2] at hr2
  conv => whnf
  refine ⟨fun hlt => ?_, fun hge => ?_⟩ <;> conv => whnf
  · have hlt := lt_map hlt
    refine (entsAt hlt).elim fun e he => ?_
    refine ⟨by omega, encI e, row_map he, ?_⟩
    conv => whnf
    refine call_bool (in_ok _ _ _) (fun h => ?_) (fun h => ?_) <;> conv => whnf
    · have hs : vi (IntKind.i64.wrap ((g.ents.map Ent.gold).sum + (g.floor.take i).sum + e)) = vi ((g.ents.map Ent.gold).sum + (g.floor.take (i + 1)).sum) := by
        have hg := inB_t.1 h
        rw [wrap_id (by omega) (by omega), sum_succ he, Int.add_assoc]
      exact up_next hlt (fun j x hj hx => by
        by_cases hji : j = i
        · subst hji; rw [he] at hx; injection hx with hx; subst hx; exact h
        · exact hP j x (by omega) hx) ⟨weakSl_cons rfl rfl (weakSl_cons hs rfl (weakSl_cons rfl rfl (weakSl_cons rfl rfl (weakSl_cons (wrap_succ (by omega)) rfl weakSl_nil)))), weakHp_cons rfl rfl weakHp_nil, rfl⟩
    · exact congrArg vb (okG_f fun hok => by simp [hok.floor i e he] at h).symm
  have hin := ge_map hge hi
  subst hin
  intro _
  conv => whnf
  refine ⟨fun h1 => ?_, fun h1 => ?_⟩ <;> conv => whnf
  · intro _
    conv => whnf
    refine ⟨fun h2 => ?_, fun h2 => ?_⟩ <;> conv => whnf
    · refine ⟨fun h3 => ?_, fun h3 => ?_⟩ <;> conv => whnf
      · refine call_bool (contains_ok c g.last) (fun h4 => ?_) (fun h4 => ?_) <;> conv => whnf
        · obtain ⟨n, hn, hb⟩ := badB_t.1 h4
          obtain ⟨j, hj⟩ := List.mem_iff_getElem?.1 hn
          exact congrArg vb (okG_f fun hok => by simp [hok.last j n hj] at hb).symm
        · rw [List.take_length] at h3
          exact congrArg vb (okG_t ⟨fun i e he => hP1 i e (List.getElem?_eq_some_iff.1 he).1 he, fun i p e hp he => hP2 i p e (List.getElem?_eq_some_iff.1 he).1 hp he,
            fun i n hn => hP i n (List.getElem?_eq_some_iff.1 hn).1 hn, fun i n hn => by
              cases hb : inB n 0 30 with
              | true => rfl
              | false => rw [badB_t.2 ⟨n, List.mem_of_getElem? hn, hb⟩] at h4; simp at h4, by simp at h1; omega, by simp at h2; omega, h3⟩).symm
      · rw [List.take_length] at h3; exact congrArg vb (okG_f fun hok => h3 hok.sum).symm
    · exact congrArg vb (okG_f fun hok => h2 (by simp [hok.nlast])).symm
  · exact congrArg vb (okG_f fun hok => h1 (by simp [hok.nfloor])).symm
end Go.Proofs.YtdfneaponidfgaaDoor
/- What the program's own helpers compute: figures, clones, clips, what is near. -/
set_option linter.unusedVariables false
set_option maxRecDepth 10000
namespace Go.Proofs.YtdfneaponidfgaaDoor
open Go Eng

theorem fig1_ok (e : Ent) (c : Int) : ACalls Tryd.prog G0 84 [vEnt e, .d (.ptr (encI c))] (· = vb (decide (e.client = c))) := by
  refine spec_intro tabOk Tryd.func84 (by kernel_rfl) rfl ?_
  conv => whnf
  refine ⟨fun h => ?_, fun h => ?_⟩ <;> conv => whnf
  · simp [vb, h]
  · simp [vb, h]
theorem find_ok (f : Bool) (l : List Ent) (c : Int) : ACalls Tryd.prog G0 83 [.d (dEnts f l), .d (.fn 84 [.ptr (encI c)])] (· = vi (atF l c)) := by
  refine spec_intro tabOk Tryd.func83 (by kernel_rfl) rfl ?_
  conv => whnf
  intro hlen
  have hlen := le_map hlen
  let P : Nat → Prop := fun i => ∀ (j : Nat) x, j < i → l[j]? = some x → x.client ≠ c
  let I : Nat → SL := fun i => ⟨[(0, .d (dEnts f l)), (1, .d (.fn 84 [.ptr (encI c)])), (7, vi (l.map encEnt).length), (8, vi i)], []⟩
  refine loop_up l.length P I (by intro j n h; omega) ?_ ?_
  · refine ⟨?_, ?_, rfl⟩ <;> repeat' (first | exact weakSl_nil | exact weakHp_nil | refine weakSl_cons ?_ rfl ?_ | refine weakHp_cons ?_ rfl ?_)
    all_goals rfl
  intro i hi hP
  conv => whnf
  refine ⟨fun hlt => ?_, fun hge => ?_⟩ <;> conv => whnf
  · have hlt := lt_map hlt
    refine (entsAt hlt).elim fun e he => ?_
    refine ⟨by omega, encEnt e, row_map he, ?_⟩
    conv => whnf
    refine call_bool (fig1_ok e c) (fun h => ?_) (fun h => ?_) <;> conv => whnf
    · exact congrArg vi (atF_some he (by simpa using h) hP).symm
    · exact up_next hlt (fun j x hj hx => by
        by_cases hji : j = i
        · subst hji; rw [he] at hx; injection hx with hx; subst hx; simpa using h
        · exact hP j x (by omega) hx) ⟨weakSl_cons rfl rfl (weakSl_cons rfl rfl (weakSl_cons rfl rfl (weakSl_cons (wrap_succ (by omega)) rfl weakSl_nil))), weakHp_nil, rfl⟩
  have hin := ge_map hge hi
  subst hin
  exact congrArg vi (atF_none fun j x hj => hP j x (List.getElem?_eq_some_iff.1 hj).1 hj).symm
theorem figure_ok (a b c : Bool) (g : Game) (cl : Int) : ACalls Tryd.prog G0 69 [vGame a b c g, vi cl] (· = vi (atF g.ents cl)) := by
  refine spec_intro tabOk Tryd.func69 (by kernel_rfl) rfl ?_
  conv => whnf
  refine call_eq (find_ok a g.ents cl) ?_
  conv => whnf
  rfl

theorem clipI_own (f : Bool) (rows : List (List D)) : HCalls Tryd.prog G0 81 (hpOf [(7, .arr f 1 rows)]) [.own 7] (fun r l => r = .own 8 ∧ l = [(7, .dead), (8, .arr true 1 rows)]) := by
  refine hspec tabOk Tryd.func81 (by kernel_rfl) true [8] [] rfl ?_
  conv => whnf
  intro _
  conv => whnf
  intro _
  conv => whnf
  refine ⟨rfl, rfl, ?_⟩
  conv => whnf
  exact ⟨[(7, .dead), (8, .arr true 1 rows)], ⟨weakHp_cons rfl rfl (weakHp_cons rfl rfl weakHp_nil), rfl, rfl⟩, rfl, rfl, rfl⟩
theorem cloneI_own0 (f : Bool) (l : List Int) (h0 : l ≠ []) (h1 : l.length ≤ 1000) : HCalls Tryd.prog G0 82 (hpOf []) [.d (dInts f l)] (fun r k => r = .own 7 ∧ k = [(7, .arr false 1 (l.map encI))]) := by
  refine hspec tabOk Tryd.func82 (by kernel_rfl) true [7] [] rfl ?_
  conv => whnf
  refine ⟨fun h => absurd (List.map_eq_nil_iff.1 h) h0, ?_⟩
  conv => whnf
  refine ⟨room (by simp; omega) rfl, room' (by simp; omega), ?_⟩
  conv => whnf
  exact ⟨[(7, .arr false 1 (l.map encI))], ⟨weakHp_cons rfl rfl weakHp_nil, rfl, rfl⟩, rfl, rfl, rfl⟩
theorem hcall_ex {P : Program} {G : Nat → V} {f : FuncId} {hin : HP} {args : List V} {φ : V → HP → Prop} (h : HCalls P G f (hpOf hin) args φ) {s : St} (hw : weakHp s (hin.map (·.1)) hin) (ha : okVs (hin.map (·.1)) args = true) {K : HP → V → HP → Prop}
    (k : ∀ r l, φ r l → K hin r l) : ∃ hin φ, HCalls P G f (hpOf hin) args φ ∧ weakHp s (hin.map (·.1)) hin ∧ okVs (hin.map (·.1)) args = true ∧ ∀ r l, φ r l → K hin r l := ⟨hin, φ, h, hw, ha, k⟩
theorem hcall_eq {P : Program} {G : Nat → V} {f : FuncId} {hin : HP} {args : List V} {R : V} {L : HP} (h : HCalls P G f (hpOf hin) args (fun r l => r = R ∧ l = L)) {s : St} (hw : weakHp s (hin.map (·.1)) hin) (ha : okVs (hin.map (·.1)) args = true) {K : HP → V → HP → Prop}
    (k : K hin R L) : ∃ hin φ, HCalls P G f (hpOf hin) args φ ∧ weakHp s (hin.map (·.1)) hin ∧ okVs (hin.map (·.1)) args = true ∧ ∀ r l, φ r l → K hin r l := ⟨hin, _, h, hw, ha, fun r l ⟨e1, e2⟩ => by subst e1; subst e2; exact k⟩
theorem cloneI_own8 (f : Bool) (l : List Int) (h0 : l ≠ []) (h1 : l.length ≤ 1000) : HCalls Tryd.prog G0 68 (hpOf []) [.d (dInts f l)] (fun r k => r = .own 8 ∧ k = [(8, .arr true 1 (l.map encI))]) := by
  refine hspec tabOk Tryd.func68 (by kernel_rfl) true [] [81, 82] rfl ?_
  conv => whnf
  refine hcall_eq (hin := []) (cloneI_own0 f l h0 h1) trivial rfl ⟨⟨rfl, trivial⟩, ?_⟩
  conv => whnf
  refine hcall_eq (hin := [(7, .arr false 1 (l.map encI))]) (clipI_own false (l.map encI)) ⟨rfl, rfl, trivial⟩ rfl ⟨⟨trivial, rfl, trivial⟩, ?_⟩
  conv => whnf
  exact ⟨[(8, .arr true 1 (l.map encI))], ⟨weakHp_cons rfl rfl weakHp_nil, rfl, rfl⟩, rfl, rfl, rfl⟩
theorem cloneI_own (f : Bool) (l : List Int) (h0 : l ≠ []) (h1 : l.length ≤ 1000) (d : Nat) : HCalls Tryd.prog G0 68 (hpOf []) [.d (dInts f l)] (fun r k => r = .own d ∧ k = [(d, .arr true 1 (l.map encI))]) := by
  refine HCalls.swap (hin := []) (args := [.d (dInts f l)]) (cloneI_own8 f l h0 h1) 8 d ?_
  rintro r k ⟨rfl, rfl⟩
  have : swp 8 d 8 = d := by simp [swp]
  refine ⟨?_, ?_⟩
  · simp only [V.ren, this]
  · simp only [List.map_cons, List.map_nil, renP, this, Obj.ren]
theorem clipE_ok (f : Bool) (rows : List (List D)) : ACalls Tryd.prog G0 79 [.d (.slc f 5 rows)] (· = .d (.slc true 5 rows)) := by
  refine spec_intro tabOk Tryd.func79 (by kernel_rfl) rfl ?_
  conv => whnf
  intro _
  conv => whnf
  intro _
  conv => whnf
  refine ⟨by omega, by omega, by omega, ?_⟩
  conv => whnf
  simp

def xyOk (e : Ent) : Prop := 0 ≤ e.x ∧ e.x ≤ 3 ∧ 0 ≤ e.y ∧ e.y ≤ 3
theorem nearI_ok (p q : Ent) (hx : xyOk p) (hy : xyOk q) : ACalls Tryd.prog G0 72 [vEnt p, vEnt q, vi 1] (· = vb (nearF p q)) := by
  unfold xyOk at hx hy
  refine spec_intro tabOk Tryd.func72 (by kernel_rfl) rfl ?_
  conv => whnf
  have w1 : IntKind.i64.wrap (p.x - q.x) = p.x - q.x := wrap_id (by omega) (by omega)
  have w2 : IntKind.i64.wrap (p.y - q.y) = p.y - q.y := wrap_id (by omega) (by omega)
  have w3 : IntKind.i64.wrap (0 - 1) = -1 := wrap_id (by omega) (by omega)
  refine call_bool (in_ok _ _ _) (fun h => ?_) (fun h => ?_) <;> conv => whnf
  · rw [w1, w3] at h
    refine call_bool (in_ok _ _ _) (fun h2 => ?_) (fun h2 => ?_) <;> conv => whnf
    · rw [w2, w3] at h2; simp [vb, nearF, h, h2]
    · rw [w2, w3] at h2; simp [vb, nearF, h, h2]
  · rw [w1, w3] at h; simp [vb, nearF, h]
end Go.Proofs.YtdfneaponidfgaaDoor
/- What the program says of asks and of gold, and its copies. -/
set_option linter.unusedVariables false
set_option linter.unusedSimpArgs false
set_option maxRecDepth 10000
namespace Go.Proofs.YtdfneaponidfgaaDoor
open Go Eng

theorem isClient_ok (n : Int) : ACalls Tryd.prog G0 64 [vi n] (· = vb (inB n 1 4)) := by
  refine spec_intro tabOk Tryd.func64 (by kernel_rfl) rfl ?_
  conv => whnf
  refine call_eq (in_ok n 1 4) ?_
  conv => whnf
  rfl
theorem reqOk_ok (r : Req) : ACalls Tryd.prog G0 55 [vReq r] (· = vb (okR r)) := by
  refine spec_intro tabOk Tryd.func55 (by kernel_rfl) rfl ?_
  conv => whnf
  refine call_bool (isClient_ok _) (fun h1 => ?_) (fun h1 => ?_) <;> conv => whnf
  · refine call_bool (in_ok _ _ _) (fun h2 => ?_) (fun h2 => ?_) <;> conv => whnf
    · have base : ∀ b : Bool, (if r.op = 1 ∨ r.op = 3 then decide (r.x = 0) && decide (r.y = 0)
          else if r.op = 2 then inB r.x (-1) 1 && inB r.y (-1) 1
          else if r.op = 4 then inB r.x 1 4 && decide (r.y = 0)
          else if r.op = 5 then inB r.x 1 4 && inB r.y 1 9
          else false) = b → okR r = b := fun b hb => by unfold okR; rw [h1, h2, hb]; rfl
      have t13 : (r.op = 1 ∨ r.op = 3) → ∀ {v : V} {b : Bool}, v = vb b → (decide (r.x = 0) && decide (r.y = 0)) = b → v = vb (okR r) := fun ho v b hv hb => by rw [hv, base b (by rw [if_pos ho]; exact hb)]
      refine ⟨fun o1 => ?_, fun o1 => ?_⟩ <;> conv => whnf
      · refine ⟨fun hx => ?_, fun hx => ?_⟩ <;> conv => whnf
        · refine ⟨fun hy => ?_, fun hy => ?_⟩ <;> conv => whnf
          · exact t13 (.inl o1) rfl (by simp [hx, hy])
          · exact t13 (.inl o1) rfl (by simp [hx, hy])
        · exact t13 (.inl o1) rfl (by simp [hx])
      refine ⟨fun o3 => ?_, fun o3 => ?_⟩ <;> conv => whnf
      · refine ⟨fun hx => ?_, fun hx => ?_⟩ <;> conv => whnf
        · refine ⟨fun hy => ?_, fun hy => ?_⟩ <;> conv => whnf
          · exact t13 (.inr o3) rfl (by simp [hx, hy])
          · exact t13 (.inr o3) rfl (by simp [hx, hy])
        · exact t13 (.inr o3) rfl (by simp [hx])
      have n13 : ¬ (r.op = 1 ∨ r.op = 3) := by omega
      refine ⟨fun o2 => ?_, fun o2 => ?_⟩ <;> conv => whnf
      · refine call_bool (in_ok _ _ _) (fun hx => ?_) (fun hx => ?_) <;> conv => whnf
        · refine call_bool (in_ok _ _ _) (fun hy => ?_) (fun hy => ?_) <;> conv => whnf
          · exact congrArg vb (base true (by rw [if_neg n13, if_pos o2, hx, hy]; rfl)).symm
          · exact congrArg vb (base false (by rw [if_neg n13, if_pos o2, hx, hy]; rfl)).symm
        · exact congrArg vb (base false (by rw [if_neg n13, if_pos o2, hx]; rfl)).symm
      refine ⟨fun o4 => ?_, fun o4 => ?_⟩ <;> conv => whnf
      · refine call_bool (isClient_ok _) (fun hx => ?_) (fun hx => ?_) <;> conv => whnf
        · refine ⟨fun hy => ?_, fun hy => ?_⟩ <;> conv => whnf
          · exact congrArg vb (base true (by rw [if_neg n13, if_neg o2, if_pos o4, hx]; simp [hy])).symm
          · exact congrArg vb (base false (by rw [if_neg n13, if_neg o2, if_pos o4, hx]; simp [hy])).symm
        · exact congrArg vb (base false (by rw [if_neg n13, if_neg o2, if_pos o4, hx]; rfl)).symm
      refine ⟨fun o5 => ?_, fun o5 => ?_⟩ <;> conv => whnf
      · refine call_bool (isClient_ok _) (fun hx => ?_) (fun hx => ?_) <;> conv => whnf
        · refine call_bool (in_ok _ _ _) (fun hy => ?_) (fun hy => ?_) <;> conv => whnf
          · exact congrArg vb (base true (by rw [if_neg n13, if_neg o2, if_neg o4, if_pos o5, hx, hy]; rfl)).symm
          · exact congrArg vb (base false (by rw [if_neg n13, if_neg o2, if_neg o4, if_pos o5, hx, hy]; rfl)).symm
        · exact congrArg vb (base false (by rw [if_neg n13, if_neg o2, if_neg o4, if_pos o5, hx]; rfl)).symm
      exact congrArg vb (base false (by rw [if_neg n13, if_neg o2, if_neg o4, if_neg o5])).symm
    · exact congrArg vb (show okR r = false by unfold okR; rw [h1, h2]; rfl).symm
  · exact congrArg vb (show okR r = false by unfold okR; rw [h1]; rfl).symm

theorem orNull_ok (r : Req) : ACalls Tryd.prog G0 40 [vReq r] (· = vb (reqNone r || okR r)) := by
  refine spec_intro tabOk Tryd.func40 (by kernel_rfl) rfl ?_
  conv => whnf
  have e : ∀ {b : Bool}, b = ((r.client == 0) && ((r.num == 0) && ((r.op == 0) && ((r.x == 0) && (r.y == 0))))) → reqNone r = b := fun {b} hb => by
    rw [hb, Bool.eq_iff_iff]; simp [reqNone]
  refine ⟨fun h => ?_, fun h => ?_⟩ <;> conv => whnf
  · have h : ((r.client == 0) && ((r.num == 0) && ((r.op == 0) && ((r.x == 0) && (r.y == 0))))) = true := h
    rw [e h.symm]; rfl
  · have h : ((r.client == 0) && ((r.num == 0) && ((r.op == 0) && ((r.x == 0) && (r.y == 0))))) = false := h
    refine call_eq (reqOk_ok r) ?_
    conv => whnf
    rw [e h.symm]; rfl

end Go.Proofs.YtdfneaponidfgaaDoor
/- The program's copies of a game, and a square's place. -/
set_option linter.unusedVariables false
set_option linter.unusedSimpArgs false
set_option maxRecDepth 10000
namespace Go.Proofs.YtdfneaponidfgaaDoor
open Go Eng

/-- A slice of nothing may be taken for an array of nothing. -/
theorem adopt {P : Program} {G : Nat → V} {f : FuncId} {args : List V} {φ ψ : V → HP → Prop} (h : HCalls P G f (hpOf []) args φ) (d : Nat)
    (k : ∀ r l, φ r l → ψ r l ∨ ∃ e, r = .d (.slc true e []) ∧ l = [] ∧ ψ (.own d) [(d, .arr true e [])]) : HCalls P G f (hpOf []) args ψ := by
  obtain ⟨hf, h⟩ := h
  refine ⟨hf, fun w g us h1 h2 h3 h4 h5 => (h w g us h1 h2 h3 h4 h5).mono fun e w' hout => ?_⟩
  obtain ⟨u, r, l, g', q1, q2, q3, q4, q5, q6, q7, q8, q9, q10, q11, q12, q13⟩ := hout.out
  rcases k r l q2 with hψ | ⟨ee, rfl, rfl, hψ⟩
  · exact ⟨u, r, l, g', q1, hψ, q3, q4, q5, q6, q7, q8, q9, q10, q11, q12, q13⟩
  · simp only [RepV] at q4
    have hu : ∃ A, u = .slice A 0 0 := by
      cases q4 with
      | slc _ _ _ A c vals hc hn hf hrow hA hcell hrep => have := hf rfl; simp at this; subst this; exact ⟨A, rfl⟩
    obtain ⟨A, rfl⟩ := hu
    have hp : ∀ i, hpOf [(d, Eng.Obj.arr true ee [])] i = if i = d then .arr true ee [] else .none := fun i => by
      unfold hpOf Eng.look
      by_cases hi : i = d
      · subst hi; simp
      · have : Nat.beq i d = false := by cases hb : Nat.beq i d with | true => exact absurd (Nat.eq_of_beq_eq_true hb) hi | false => rfl
        simp [this, hi, Eng.look]
    have hlive : ∀ i, (hpOf [(d, Eng.Obj.arr true ee [])] i).live = true → i = d := fun i hi => by
      rw [hp] at hi
      split at hi
      · assumption
      · simp [Eng.Obj.live] at hi
    refine ⟨.slice A 0 0, .own d, [(d, .arr true ee [])], ⟨g'.imm, upd g'.blk d none, upd g'.val d (.slice A 0 0)⟩, q1, hψ, by simp [Eng.Obj.used], ?_, fun id => ?_, fun i j b hij hi hj => ?_, q7, q8, q9, ?_, q11, fun id b hi hb => ?_, q13⟩
    · simp only [RepV]
      exact ⟨by rw [hp]; simp [Eng.Obj.used], by simp [upd_same], by rw [hp]; simp, A, 0, 0, rfl⟩
    · rw [hp]
      split
      · rename_i hid
        subst hid
        exact ⟨A, 0, by simp [upd_same], by simp, by simp, by simp, by simp, by simp, by simp [upd_same]⟩
      · trivial
    · have := hlive i hi
      have := hlive j hj
      omega
    · refine ⟨q10.ext, fun id hu => (by cases hu), fun id hu => (by cases hu), fun id hu => (by cases hu), fun id hu => (by cases hu), fun id e n hu => (by cases hu)⟩
    · have := hlive id hi
      subst this
      simp [upd_same] at hb

theorem cloneE_pure0 (f : Bool) (rows : List (List D)) (h1 : rows.length ≤ 1000) : ACalls Tryd.prog G0 80 [.d (.slc f 5 rows)] (fun r => ∃ f', r = .d (.slc f' 5 rows)) := by
  refine spec_intro tabOk Tryd.func80 (by kernel_rfl) rfl ?_
  conv => whnf
  refine ⟨fun h => ?_, ?_⟩ <;> conv => whnf
  · exact ⟨true, by rw [h]⟩
  · refine ⟨room (by simp; omega) rfl, room' (by simp; omega), ?_⟩
    conv => whnf
    exact ⟨false, rfl⟩
theorem clone0_use {f : Bool} {rows : List (List D)} (h1 : rows.length ≤ 1000) {ψ : V → Prop} (k : ∀ f', ψ (.d (.slc f' 5 rows))) : ∃ φ, ACalls Tryd.prog G0 80 [.d (.slc f 5 rows)] φ ∧ ∀ r, φ r → ψ r :=
  ⟨_, cloneE_pure0 f rows h1, fun r ⟨f', e⟩ => by subst e; exact k f'⟩
theorem cloneE_pure (f : Bool) (rows : List (List D)) (h1 : rows.length ≤ 1000) : ACalls Tryd.prog G0 67 [.d (.slc f 5 rows)] (· = .d (.slc true 5 rows)) := by
  refine spec_intro tabOk Tryd.func67 (by kernel_rfl) rfl ?_
  conv => whnf
  refine clone0_use h1 fun f' => ?_
  conv => whnf
  refine call_eq (clipE_ok f' rows) ?_
  conv => whnf

theorem cloneE_own0 (f : Bool) (rows : List (List D)) (h1 : rows.length ≤ 1000) : HCalls Tryd.prog G0 80 (hpOf []) [.d (.slc f 5 rows)] (fun r k => r = .own 7 ∧ ∃ f', k = [(7, .arr f' 5 rows)]) := by
  refine adopt (φ := fun r k => (r = .own 7 ∧ k = [(7, .arr false 5 rows)]) ∨ (rows = [] ∧ r = .d (.slc true 5 []) ∧ k = [])) ?_ 7 ?_
  · refine hspec tabOk Tryd.func80 (by kernel_rfl) true [7] [] rfl ?_
    conv => whnf
    refine ⟨fun h => ?_, ?_⟩ <;> conv => whnf
    · exact ⟨[], ⟨trivial, rfl, rfl⟩, rfl, .inr ⟨h, rfl, rfl⟩⟩
    · refine ⟨room (by omega) rfl, room' (by omega), ?_⟩
      conv => whnf
      exact ⟨[(7, .arr false 5 rows)], ⟨weakHp_cons rfl rfl weakHp_nil, rfl, rfl⟩, rfl, .inl ⟨rfl, rfl⟩⟩
  · rintro r l (⟨rfl, rfl⟩ | ⟨h, rfl, rfl⟩)
    · exact .inl ⟨rfl, false, rfl⟩
    · exact .inr ⟨5, rfl, rfl, rfl, true, by rw [h]⟩
theorem cloneE0_use {f : Bool} {rows : List (List D)} (h1 : rows.length ≤ 1000) {s : St} {K : HP → V → HP → Prop} (k : ∀ f', K [] (.own 7) [(7, .arr f' 5 rows)]) :
    ∃ hin φ, HCalls Tryd.prog G0 80 (hpOf hin) [.d (.slc f 5 rows)] φ ∧ weakHp s (hin.map (·.1)) hin ∧ okVs (hin.map (·.1)) [.d (.slc f 5 rows)] = true ∧ ∀ r l, φ r l → K hin r l :=
  ⟨[], _, cloneE_own0 f rows h1, trivial, rfl, fun r l ⟨e1, f', e2⟩ => by subst e1; subst e2; exact k f'⟩
theorem clipE_own (f : Bool) (rows : List (List D)) : HCalls Tryd.prog G0 79 (hpOf [(7, .arr f 5 rows)]) [.own 7] (fun r l => r = .own 8 ∧ l = [(7, .dead), (8, .arr true 5 rows)]) := by
  refine hspec tabOk Tryd.func79 (by kernel_rfl) true [8] [] rfl ?_
  conv => whnf
  intro _
  conv => whnf
  intro _
  conv => whnf
  refine ⟨rfl, rfl, ?_⟩
  conv => whnf
  exact ⟨[(7, .dead), (8, .arr true 5 rows)], ⟨weakHp_cons rfl rfl (weakHp_cons rfl rfl weakHp_nil), rfl, rfl⟩, rfl, rfl, rfl⟩
theorem cloneE_own8 (f : Bool) (rows : List (List D)) (h1 : rows.length ≤ 1000) : HCalls Tryd.prog G0 67 (hpOf []) [.d (.slc f 5 rows)] (fun r k => r = .own 8 ∧ k = [(8, .arr true 5 rows)]) := by
  refine hspec tabOk Tryd.func67 (by kernel_rfl) true [] [79, 80] rfl ?_
  conv => whnf
  refine cloneE0_use h1 fun f' => ⟨⟨rfl, trivial⟩, ?_⟩
  conv => whnf
  refine hcall_eq (hin := [(7, .arr f' 5 rows)]) (clipE_own f' rows) ⟨rfl, rfl, trivial⟩ rfl ⟨⟨trivial, rfl, trivial⟩, ?_⟩
  conv => whnf
  exact ⟨[(8, .arr true 5 rows)], ⟨weakHp_cons rfl rfl weakHp_nil, rfl, rfl⟩, rfl, rfl, rfl⟩
theorem cloneE_own (f : Bool) (rows : List (List D)) (h1 : rows.length ≤ 1000) (d : Nat) : HCalls Tryd.prog G0 67 (hpOf []) [.d (.slc f 5 rows)] (fun r k => r = .own d ∧ k = [(d, .arr true 5 rows)]) := by
  refine HCalls.swap (hin := []) (args := [.d (.slc f 5 rows)]) (cloneE_own8 f rows h1) 8 d ?_
  rintro r k ⟨rfl, rfl⟩
  have : swp 8 d 8 = d := by simp [swp]
  refine ⟨?_, ?_⟩
  · simp only [V.ren, this]
  · simp only [List.map_cons, List.map_nil, renP, this, Obj.ren]

abbrev ownG2 (g : Game) : HP := [(5, .arr true 5 (g.ents.map encEnt)), (8, .arr true 1 (g.floor.map encI)), (11, .arr true 1 (g.last.map encI))]
abbrev ownV2 : V := .agg [.own 5, .own 8, .own 11]
theorem copyI_own (a b c : Bool) (g : Game) (h1 : g.ents.length ≤ 1000) (h2 : g.floor.length ≤ 1000) (h3 : g.last.length ≤ 1000) (n2 : g.floor ≠ []) (n3 : g.last ≠ []) : HCalls Tryd.prog G0 60 (hpOf []) [vGame a b c g]
    (fun r l => r = ownV2 ∧ l = ownG2 g) := by
  refine hspec tabOk Tryd.func60 (by kernel_rfl) true [5, 8, 11] [68, 67] rfl ?_
  conv => whnf
  refine ⟨.arr true 5 (g.ents.map encEnt), cloneE_own a (g.ents.map encEnt) (by simp; omega) 5, ?_⟩
  conv => whnf
  refine ⟨.arr true 1 (g.floor.map encI), cloneI_own b g.floor n2 h2 8, ?_⟩
  conv => whnf
  refine ⟨.arr true 1 (g.last.map encI), cloneI_own c g.last n3 h3 11, ?_⟩
  conv => whnf
  exact ⟨ownG2 g, ⟨weakHp_cons rfl rfl (weakHp_cons rfl rfl (weakHp_cons rfl rfl weakHp_nil)), rfl, rfl⟩, rfl, rfl, rfl⟩

theorem square_ok (E F L : List (List D)) (e : Ent) (he : xyOk e) (hF : F.length = 16) : HCalls Tryd.prog G0 71 (hpOf [(5, .arr true 5 E), (8, .arr true 1 F), (11, .arr true 1 L)]) [ownV2, vEnt e]
    (fun r l => r = .ref 8 (at4 e).toNat 1 0 ∧ l = [(5, .arr true 5 E), (8, .arr true 1 F), (11, .arr true 1 L)]) := by
  refine hspec tabOk Tryd.func71 (by kernel_rfl) true [] [] rfl ?_
  conv => whnf
  unfold xyOk at he
  have w0 : IntKind.i64.wrap (IntKind.i64.wrap (e.y * 4) + e.x) = at4 e := by
    rw [wrap_id (n := e.y * 4) (by omega) (by omega), wrap_id (by omega) (by omega)]; rfl
  have ha : 0 ≤ at4 e ∧ at4 e < 16 := by unfold at4; omega
  refine ⟨by rw [w0]; omega, by rw [w0]; omega, ?_⟩
  conv => whnf
  exact ⟨[(5, .arr true 5 E), (8, .arr true 1 F), (11, .arr true 1 L)], ⟨weakHp_cons rfl rfl (weakHp_cons rfl rfl (weakHp_cons rfl rfl weakHp_nil)), rfl, rfl⟩, rfl, by rw [w0], rfl⟩
end Go.Proofs.YtdfneaponidfgaaDoor
/- What the program shows to a figure. -/
set_option linter.unusedVariables false
set_option linter.unusedSimpArgs false
set_option maxRecDepth 10000
namespace Go.Proofs.YtdfneaponidfgaaDoor
open Go Eng

def cellE (i : Nat) : Ent := ⟨0, (i : Int).tmod 4, (i : Int).tdiv 4, 0, 0⟩
/-- The floor, of which the first places are looked at. -/
def hid (me : Ent) (fl : List Int) : Nat → List Int
  | 0 => fl
  | i + 1 => match nearF me (cellE i) with
    | true => hid me fl i
    | false => (hid me fl i).set i (-1)
theorem hid_len (me : Ent) (fl : List Int) : ∀ i, (hid me fl i).length = fl.length
  | 0 => rfl
  | i + 1 => by
    unfold hid
    split
    · exact hid_len me fl i
    · simp [hid_len me fl i]
def seen (me : Ent) (l : List Ent) : List Ent := l.filter (nearF me)
def seeF (me : Ent) (g : Game) : Game := ⟨seen me g.ents, hid me g.floor g.floor.length, g.last⟩
theorem seen_succ {me : Ent} {l : List Ent} {i : Nat} {e : Ent} (h : l[i]? = some e) : seen me (l.take (i + 1)) = seen me (l.take i) ++ (match nearF me e with | true => [e] | false => []) := by
  rw [List.take_add_one, h]
  simp only [seen, List.filter_append, Option.toList_some]
  cases hb : nearF me e <;> simp [List.filter_cons, hb]

/-- What the first loop holds of what is seen. -/
structure SIn where
  i : Nat
  es : List Ent
structure SInv (g : Game) (me : Ent) (x : SIn) : Prop where
  i : x.i ≤ g.ents.length
  es : x.es = seen me (g.ents.take x.i)
abbrev hp6 (a b c : Bool) (g : Game) (me : Ent) (v : V) (fl : List (List D)) : HP := [(2, .box [.d (dEnts a g.ents), .d (dInts b g.floor), .d (dInts c g.last)]), (4, .box [.d (.slc true 5 []), .d (.slc true 1 []), .d (.slc true 1 [])]), (7, .box [vi me.client, vi me.x, vi me.y, vi me.life, vi me.gold]),
     (8, .box [v, .own 30, .own 33]), (30, .arr true 1 fl), (33, .arr true 1 (g.last.map encI))]
def SI (a b c : Bool) (g : Game) (me : Ent) (x : SIn) : SL :=
  match x.es with
  | [] => ⟨[(2, .ref 2 0 0 0), (4, .ref 4 0 0 0), (7, .ref 7 0 0 0), (8, .ref 8 0 0 0), (36, .d (dEnts a g.ents)), (37, vi (g.ents.map encEnt).length), (38, vi x.i)], hp6 a b c g me (.d (.slc true 5 [])) (g.floor.map encI)⟩
  | r :: rs => ⟨[(2, .ref 2 0 0 0), (4, .ref 4 0 0 0), (7, .ref 7 0 0 0), (8, .ref 8 0 0 0), (36, .d (dEnts a g.ents)), (37, vi (g.ents.map encEnt).length), (38, vi x.i)], hp6 a b c g me (.osl 49 5 ((r :: rs).map encEnt)) (g.floor.map encI) ++ [(49, .grow 5 (rs.length + 1))]⟩

noncomputable def seeI (a b c : Bool) (g : Game) (cl : Int) : V :=
  if okG g = true ∧ 0 ≤ atF g.ents cl then .tup [vGame true true true (seeF (entAt g.ents (atF g.ents cl)) g), vb true]
  else .tup [vGame true true true ⟨[], [], []⟩, vb false]

theorem good_xy {g : Game} (h : Good g) {e : Ent} (he : e ∈ g.ents) : xyOk e := by
  have := h.ent e he
  unfold xyOk; omega
theorem cellE_xy {i : Nat} (h : i < 16) : xyOk (cellE i) := by
  unfold xyOk cellE
  have h1 := Int.tmod_nonneg (4 : Int) (a := (i : Int)) (by omega)
  have h2 := Int.tmod_lt_of_pos (i : Int) (b := 4) (by omega)
  have h3 := Int.tdiv_nonneg (a := (i : Int)) (b := 4) (by omega) (by omega)
  have h4 : (i : Int).tdiv 4 < 4 := by rw [Int.tdiv_eq_ediv_of_nonneg (by omega)]; omega
  dsimp only
  omega

end Go.Proofs.YtdfneaponidfgaaDoor
/- What the program's act of a figure computes, given what slices.Insert and slices.Delete do. -/
set_option linter.unusedVariables false
set_option linter.unusedSimpArgs false
set_option maxRecDepth 10000
namespace Go.Proofs.YtdfneaponidfgaaDoor
open Go Eng

def InsOk : Prop := ∀ (l : List Ent) (k : Nat) (e : Ent), k ≤ l.length → l.length ≤ 4 → HCalls Tryd.prog G0 70 (hpOf [(5, .arr true 5 (l.map encEnt))]) [.own 5, vi k, .d (.slc true 5 [encEnt e])]
  (fun r m => r = .d (.slc false 5 ((l.take k ++ [e] ++ l.drop k).map encEnt)) ∧ m = [(5, .dead)])
def DelOk : Prop := ∀ (l : List Ent) (k : Int), 0 ≤ k → k < l.length → l.length ≤ 4 → HCalls Tryd.prog G0 73 (hpOf [(5, .arr true 5 (l.map encEnt))]) [.own 5, vi k, vi (k + 1)]
  (fun r m => r = .d (.slc false 5 ((l.take k.toNat ++ l.drop (k.toNat + 1)).map encEnt)) ∧ m = [(5, .dead)])

/-- What an ask does to a game, behind its number's being noted. -/
def stepV (y : GV) (r : Req) : GV × Int :=
  if r.op = 1 then
    if 0 ≤ atF y.g.ents r.client then (y, 4) else (⟨false, y.b, y.c, ⟨joinF y.g.ents r.client, y.g.floor, y.g.last⟩⟩, 0)
  else if atF y.g.ents r.client < 0 then (y, 5)
  else actV y (atF y.g.ents r.client) r
abbrev actHP (v : V) (o : Eng.Obj) (F L : List (List D)) : HP := [(6, .box [v, .own 8, .own 11]), (5, o), (8, .arr true 1 F), (11, .arr true 1 L)]
def ActL (g : Game) (l : HP) : Prop :=
  l = actHP (.own 5) (.arr true 5 (g.ents.map encEnt)) (g.floor.map encI) (g.last.map encI) ∨
  l = actHP (.d (.slc true 5 (g.ents.map encEnt))) .dead (g.floor.map encI) (g.last.map encI)

theorem set2 {l : List Ent} {i : Nat} {e : Ent} {q r : List D} (hr : r = encEnt e) : ((l.map encEnt).set i q).set i r = (l.set i e).map encEnt := by
  rw [List.set_set]; exact set_row hr
theorem hcall_eq' {P : Program} {G : Nat → V} {f : FuncId} {hin : HP} {args args' : List V} {R : V} {L : HP} (h : HCalls P G f (hpOf hin) args (fun r l => r = R ∧ l = L)) (e : args' = args) {s : St} (hw : weakHp s (hin.map (·.1)) hin) (ha : okVs (hin.map (·.1)) args' = true) {K : HP → V → HP → Prop}
    (k : K hin R L) : ∃ hin φ, HCalls P G f (hpOf hin) args' φ ∧ weakHp s (hin.map (·.1)) hin ∧ okVs (hin.map (·.1)) args' = true ∧ ∀ r l, φ r l → K hin r l := by subst e; exact hcall_eq h hw ha k
theorem set_swap {l : List Ent} {i j : Nat} {e f : Ent} {q r : List D} (hij : i ≠ j) (hq : q = encEnt e) (hr : r = encEnt f) : ((l.map encEnt).set i q).set j r = ((l.set j f).set i e).map encEnt := by
  subst hq; subst hr; rw [List.set_comm _ _ hij]; simp only [List.map_set]
theorem entAt_other {l : List Ent} {k n : Int} {e : Ent} (h : k.toNat ≠ n.toNat) : entAt (setEnt l k e) n = entAt l n := by
  simp only [entAt, setEnt]; rw [List.getElem?_set_ne h]
theorem entAt_same {l : List Ent} {n : Int} {e : Ent} (h : n.toNat < l.length) : entAt (setEnt l n e) n = e := by
  simp [entAt, setEnt, h]
/-- A call in a drawing region that is given an array, and uses it up. -/
theorem drawn_own {P : Program} {G : Nat → V} {f : FuncId} {id : Nat} {o : Eng.Obj} {args : List V} {R : V} (h : HCalls P G f (hpOf [(id, o)]) args (fun r m => r = R ∧ m = [(id, .dead)])) {K : V → Prop}
    (k : K R) : ∃ r, HCalls P G f (hpOf [(id, o)]) args (fun r' l => r' = r ∧ l = [(id, .dead)]) ∧ K r := ⟨R, h, k⟩
/-- A call in a drawing region that reads objects. -/
theorem drawn_ro {P : Program} {G : Nat → V} {f : FuncId} {hin : HP} {args : List V} {R : V} (h : HCalls P G f (hpOf hin) args (fun r m => r = R ∧ m = hin)) {K : HP → V → Prop}
    (k : K hin R) : ∃ hin r, HCalls P G f (hpOf hin) args (fun r' l => r' = r ∧ l = hin) ∧ K hin r := ⟨hin, R, h, k⟩

theorem actI_ok (hI : InsOk) (hD : DelOk) (g : Game) (r : Req) (hg : Good g) (hr : okR r = true) : HCalls Tryd.prog G0 61 (hpOf (actHP (.own 5) (.arr true 5 (g.ents.map encEnt)) (g.floor.map encI) (g.last.map encI))) [.ref 6 0 0 0, vReq r]
    (fun q l => q = vi (stepV ⟨true, true, true, g⟩ r).2 ∧ ActL (stepV ⟨true, true, true, g⟩ r).1.g l) := by
  refine hspec_ro tabOk Tryd.func61 (by kernel_rfl) false [] [70, 71, 73] [71] rfl ?_
  conv => whnf
  have hlen := good_len hg
  have hfl := hg.nfloor
  have hcl := okR_client hr
  refine drawn_eq (figure_ok true true true g r.client) ?_
  conv => whnf
  have fin : ∀ (s : St) (code : Int) (g' : Game), (stepV ⟨true, true, true, g⟩ r).2 = code → (stepV ⟨true, true, true, g⟩ r).1.g = g' → s.hp 6 = .box [.own 5, .own 8, .own 11] → (∃ E, s.hp 5 = .arr true 5 E ∧ E = g'.ents.map encEnt) → (∃ F, s.hp 8 = .arr true 1 F ∧ F = g'.floor.map encI) → s.hp 11 = .arr true 1 (g'.last.map encI) →
      ∃ l, HRest s [6, 5, 8, 11] l ∧ vi code = vi (stepV ⟨true, true, true, g⟩ r).2 ∧ ActL (stepV ⟨true, true, true, g⟩ r).1.g l := fun s code g' h1 h2 h6 h5 h8 h11 => by
    obtain ⟨E, h5, rfl⟩ := h5
    obtain ⟨F, h8, rfl⟩ := h8
    refine ⟨_, ⟨weakHp_cons h6 rfl (weakHp_cons h5 rfl (weakHp_cons h8 rfl (weakHp_cons h11 rfl weakHp_nil))), rfl, rfl⟩, congrArg vi h1.symm, .inl (by rw [h2])⟩
  have fin2 : ∀ (s : St) (code : Int) (g' : Game) (E : List (List D)), (stepV ⟨true, true, true, g⟩ r).2 = code → (stepV ⟨true, true, true, g⟩ r).1.g = g' → E = g'.ents.map encEnt → s.hp 6 = .box [.d (.slc true 5 E), .own 8, .own 11] → s.hp 5 = .dead → (∃ F, s.hp 8 = .arr true 1 F ∧ F = g'.floor.map encI) → s.hp 11 = .arr true 1 (g'.last.map encI) →
      ∃ l, HRest s [6, 5, 8, 11] l ∧ vi code = vi (stepV ⟨true, true, true, g⟩ r).2 ∧ ActL (stepV ⟨true, true, true, g⟩ r).1.g l := fun s code g' E h1 h2 hE h6 h5 h8 h11 => by
    subst hE
    obtain ⟨F, h8, rfl⟩ := h8
    refine ⟨_, ⟨weakHp_cons h6 rfl (weakHp_cons h5 rfl (weakHp_cons h8 rfl (weakHp_cons h11 rfl weakHp_nil))), rfl, rfl⟩, congrArg vi h1.symm, .inr (by rw [h2])⟩
  refine ⟨fun o1 => ?_, fun o1 => ?_⟩ <;> conv => whnf
  · refine ⟨fun hat => ?_, fun hat => ?_⟩ <;> conv => whnf
    · refine fin _ 4 g ?_ ?_ ?_ ?_ ?_ ?_
      · simp only [stepV, if_pos o1, if_pos hat]
      · simp only [stepV, if_pos o1, if_pos hat]
      all_goals first | rfl | exact ⟨_, rfl, rfl⟩
    have hs : stepV ⟨true, true, true, g⟩ r = (⟨false, true, true, ⟨joinF g.ents r.client, g.floor, g.last⟩⟩, 0) := by simp only [stepV, if_pos o1, if_neg hat]
    let P : Nat → Prop := fun i => ∀ (j : Nat) e, j < i → g.ents[j]? = some e → e.client < r.client
    let I : Nat → SL := fun i => ⟨[(0, .ref 6 0 0 0), (3, .ref 3 0 0 0), (6, vi i)], actHP (.own 5) (.arr true 5 (g.ents.map encEnt)) (g.floor.map encI) (g.last.map encI) ++ [(3, .box [vi r.client, vi r.num, vi r.op, vi r.x, vi r.y])]⟩
    refine loop_up g.ents.length P I (by intro j e h; omega) ?_ ?_
    · refine ⟨?_, ?_, rfl⟩ <;> repeat' (first | exact weakSl_nil | exact weakHp_nil | refine weakSl_cons ?_ rfl ?_ | refine weakHp_cons ?_ rfl ?_)
      all_goals rfl
    intro i hi hP
    conv => whnf
    have wc : IntKind.i64.wrap (r.client - 1) = r.client - 1 := wrap_id (by omega) (by omega)
    have clean : under g.ents r.client = i → (g.ents.take i ++ [(⟨r.client, IntKind.i64.wrap (r.client - 1), IntKind.i64.wrap (r.client - 1), 3, 0⟩ : Ent)] ++ g.ents.drop i).map encEnt = (joinF g.ents r.client).map encEnt := fun hu => by
      rw [wc]; simp only [joinF, hu]
    refine ⟨fun hlt => ?_, fun hge => ?_⟩ <;> conv => whnf
    · have hlt := lt_map hlt
      refine (entsAt hlt).elim fun e he => ?_
      refine ⟨by omega, by simp; omega, ?_⟩
      conv => whnf
      refine ⟨encEnt e, row_map he, ?_⟩
      conv => whnf
      refine ⟨fun h => ?_, fun h => ?_⟩ <;> conv => whnf
      · exact up_next hlt (fun j y hj hy => by
          by_cases hji : j = i
          · subst hji; rw [he] at hy; injection hy with hy; subst hy; exact h
          · exact hP j y (by omega) hy) ⟨weakSl_cons rfl rfl (weakSl_cons rfl rfl (weakSl_cons (wrap_succ (by omega)) rfl weakSl_nil)), weakHp_cons rfl rfl (weakHp_cons rfl rfl (weakHp_cons rfl rfl (weakHp_cons rfl rfl (weakHp_cons rfl rfl weakHp_nil)))), rfl⟩
      · have hu : under g.ents r.client = i := under_spec hi hP fun y hy => by rw [he] at hy; injection hy with hy; subst hy; exact h
        refine drawn_own (hI g.ents i ⟨r.client, IntKind.i64.wrap (r.client - 1), IntKind.i64.wrap (r.client - 1), 3, 0⟩ hi hlen) ?_
        conv => whnf
        refine drawn_eq (cloneE_pure false _ (by simp; omega)) ?_
        conv => whnf
        refine fin2 _ 0 ⟨joinF g.ents r.client, g.floor, g.last⟩ _ ?_ ?_ (clean hu) ?_ ?_ ?_ ?_
        · rw [hs]
        · rw [hs]
        all_goals first | rfl | exact ⟨_, rfl, rfl⟩
    · have hin := ge_map hge hi
      have hu : under g.ents r.client = i := under_spec hi hP fun y hy => absurd (List.getElem?_eq_some_iff.1 hy).1 (by omega)
      refine drawn_own (hI g.ents i ⟨r.client, IntKind.i64.wrap (r.client - 1), IntKind.i64.wrap (r.client - 1), 3, 0⟩ hi hlen) ?_
      conv => whnf
      refine drawn_eq (cloneE_pure false _ (by simp; omega)) ?_
      conv => whnf
      refine fin2 _ 0 ⟨joinF g.ents r.client, g.floor, g.last⟩ _ ?_ ?_ (clean hu) ?_ ?_ ?_ ?_
      · rw [hs]
      · rw [hs]
      all_goals first | rfl | exact ⟨_, rfl, rfl⟩
  refine ⟨fun hat => ?_, fun hat => ?_⟩ <;> conv => whnf
  · refine fin _ 5 g ?_ ?_ ?_ ?_ ?_ ?_
    · simp only [stepV, if_neg o1, if_pos hat]
    · simp only [stepV, if_neg o1, if_pos hat]
    all_goals first | rfl | exact ⟨_, rfl, rfl⟩
  have hstep : stepV ⟨true, true, true, g⟩ r = actV ⟨true, true, true, g⟩ (atF g.ents r.client) r := by simp only [stepV, if_neg o1, if_neg hat]
  have h0 : 0 ≤ atF g.ents r.client := by omega
  have h1 : atF g.ents r.client < g.ents.length := by rcases atF_spec g.ents r.client with ⟨h, _⟩ | ⟨i, h, hi, _⟩ <;> omega
  have hkk : (atF g.ents r.client).toNat < g.ents.length := by omega
  have he := (good_fit hg).at h0 h1
  have hxy : xyOk (entAt g.ents (atF g.ents r.client)) := good_xy hg (entAt_mem hkk)
  have hrx : -4 ≤ r.x ∧ r.x ≤ 4 ∧ -9 ≤ r.y ∧ r.y ≤ 9 := by
    unfold okR at hr
    simp only [Bool.and_eq_true] at hr
    have h := hr.2.2
    split at h
    · simp at h; omega
    · split at h
      · simp only [Bool.and_eq_true, inB_t] at h; omega
      · split at h
        · simp only [Bool.and_eq_true, inB_t, decide_eq_true_eq] at h; omega
        · split at h
          · simp only [Bool.and_eq_true, inB_t] at h; omega
          · simp at h
  refine ⟨h0, by simp; omega, ?_⟩
  conv => whnf
  refine ⟨fun o2 => ?_, fun o2 => ?_⟩ <;> conv => whnf
  · have wx : IntKind.i64.wrap ((entAt g.ents (atF g.ents r.client)).x + r.x) = (entAt g.ents (atF g.ents r.client)).x + r.x := wrap_id (by omega) (by omega)
    have wy : IntKind.i64.wrap ((entAt g.ents (atF g.ents r.client)).y + r.y) = (entAt g.ents (atF g.ents r.client)).y + r.y := wrap_id (by omega) (by omega)
    refine ⟨encEnt (entAt g.ents (atF g.ents r.client)), entAt_row h0 h1, ?_⟩
    conv => whnf
    refine ⟨encEnt (entAt g.ents (atF g.ents r.client)), entAt_row h0 h1, ?_⟩
    conv => whnf
    refine drawn_bool (board_ok _ _) (fun hb => ?_) (fun hb => ?_) <;> conv => whnf
    · rw [wx, wy] at hb
      unfold boardB at hb
      simp only [Bool.and_eq_true] at hb
      have ha : stepV ⟨true, true, true, g⟩ r = (⟨false, true, true, ⟨setEnt g.ents (atF g.ents r.client) { entAt g.ents (atF g.ents r.client) with x := (entAt g.ents (atF g.ents r.client)).x + r.x, y := (entAt g.ents (atF g.ents r.client)).y + r.y }, g.floor, g.last⟩⟩, 0) := by
        rw [hstep]; simp only [actV, if_pos o2, hb.1, hb.2, Bool.true_eq_false, or_self, if_false]
      refine ⟨encEnt (entAt g.ents (atF g.ents r.client)), entAt_row h0 h1, ?_⟩
      conv => whnf
      refine ⟨encEnt (entAt g.ents (atF g.ents r.client)), entAt_row h0 h1, ?_⟩
      conv => whnf
      refine ⟨encEnt { entAt g.ents (atF g.ents r.client) with x := (entAt g.ents (atF g.ents r.client)).x + r.x }, by rw [wx]; exact set_get rfl hkk, ?_⟩
      conv => whnf
      refine ⟨encEnt { entAt g.ents (atF g.ents r.client) with x := (entAt g.ents (atF g.ents r.client)).x + r.x }, by rw [wx]; exact set_get rfl hkk, ?_⟩
      conv => whnf
      refine fin _ 0 ⟨setEnt g.ents (atF g.ents r.client) { entAt g.ents (atF g.ents r.client) with x := (entAt g.ents (atF g.ents r.client)).x + r.x, y := (entAt g.ents (atF g.ents r.client)).y + r.y }, g.floor, g.last⟩ (by rw [ha]) (by rw [ha]) ?_ ⟨_, rfl, by rw [wy]; exact set2 rfl⟩ ⟨_, rfl, rfl⟩ ?_ <;> rfl
    · rw [wx, wy] at hb
      have ha : stepV ⟨true, true, true, g⟩ r = (⟨true, true, true, g⟩, 6) := by
        rw [hstep]
        have hor : inB ((entAt g.ents (atF g.ents r.client)).x + r.x) 0 3 = false ∨ inB ((entAt g.ents (atF g.ents r.client)).y + r.y) 0 3 = false := by
          unfold boardB at hb
          exact Bool.and_eq_false_iff.1 hb
        simp only [actV, if_pos o2, if_pos hor]
      refine fin _ 6 g (by rw [ha]) (by rw [ha]) ?_ ⟨_, rfl, rfl⟩ ⟨_, rfl, rfl⟩ ?_ <;> rfl
  refine ⟨fun o3 => ?_, fun o3 => ?_⟩ <;> conv => whnf
  · have ha4 : 0 ≤ at4 (entAt g.ents (atF g.ents r.client)) ∧ at4 (entAt g.ents (atF g.ents r.client)) < 16 := by unfold at4; omega
    have hF := (good_fit hg).floor ha4.1 ha4.2
    refine ⟨encEnt (entAt g.ents (atF g.ents r.client)), entAt_row h0 h1, ?_⟩
    conv => whnf
    refine drawn_ro (square_ok (g.ents.map encEnt) (g.floor.map encI) (g.last.map encI) (entAt g.ents (atF g.ents r.client)) hxy (by simp [hfl])) ⟨⟨rfl, rfl, rfl, rfl, rfl, rfl, trivial⟩, rfl, rfl, rfl, ?_⟩
    conv => whnf
    refine ⟨encI (intAt g.floor (at4 (entAt g.ents (atF g.ents r.client)))), intAt_row ha4.1 (by omega), ?_⟩
    conv => whnf
    refine ⟨fun hz => ?_, fun hz => ?_⟩ <;> conv => whnf
    · have ha : stepV ⟨true, true, true, g⟩ r = (⟨true, true, true, g⟩, 7) := by
        rw [hstep]; simp only [actV, if_neg o2, if_pos o3, if_pos hz]
      refine fin _ 7 g (by rw [ha]) (by rw [ha]) ?_ ⟨_, rfl, rfl⟩ ⟨_, rfl, rfl⟩ ?_ <;> rfl
    have ha : stepV ⟨true, true, true, g⟩ r = (⟨false, false, true, ⟨setEnt g.ents (atF g.ents r.client) { entAt g.ents (atF g.ents r.client) with gold := (entAt g.ents (atF g.ents r.client)).gold + 1 }, addAt g.floor (at4 (entAt g.ents (atF g.ents r.client))) (-1), g.last⟩⟩, 0) := by
      rw [hstep]; simp only [actV, if_neg o2, if_pos o3, if_neg hz]
    have w1 : IntKind.i64.wrap (intAt g.floor (at4 (entAt g.ents (atF g.ents r.client))) - 1) = intAt g.floor (at4 (entAt g.ents (atF g.ents r.client))) - 1 := wrap_id (by omega) (by omega)
    have w2 : IntKind.i64.wrap ((entAt g.ents (atF g.ents r.client)).gold + 1) = (entAt g.ents (atF g.ents r.client)).gold + 1 := wrap_id (by omega) (by omega)
    refine ⟨encI (intAt g.floor (at4 (entAt g.ents (atF g.ents r.client)))), intAt_row ha4.1 (by omega), ?_⟩
    conv => whnf
    refine ⟨encI (intAt g.floor (at4 (entAt g.ents (atF g.ents r.client)))), intAt_row ha4.1 (by omega), ?_⟩
    conv => whnf
    refine ⟨encEnt (entAt g.ents (atF g.ents r.client)), entAt_row h0 h1, ?_⟩
    conv => whnf
    refine ⟨encEnt (entAt g.ents (atF g.ents r.client)), entAt_row h0 h1, ?_⟩
    conv => whnf
    refine fin _ 0 _ (by rw [ha]) (by rw [ha]) ?_ ⟨_, rfl, by rw [w2]; exact set_row rfl⟩ ⟨_, rfl, by rw [w1]; exact set_row rfl⟩ ?_ <;> rfl
  refine drawn_eq (figure_ok true true true g r.x) ?_
  conv => whnf
  have far : ∀ (s : St), (atF g.ents r.x < 0 ∨ atF g.ents r.x = atF g.ents r.client ∨ nearF (entAt g.ents (atF g.ents r.client)) (entAt g.ents (atF g.ents r.x)) = false) → s.hp 6 = .box [.own 5, .own 8, .own 11] → (∃ E, s.hp 5 = .arr true 5 E ∧ E = g.ents.map encEnt) → (∃ F, s.hp 8 = .arr true 1 F ∧ F = g.floor.map encI) → s.hp 11 = .arr true 1 (g.last.map encI) →
      ∃ l, HRest s [6, 5, 8, 11] l ∧ vi 8 = vi (stepV ⟨true, true, true, g⟩ r).2 ∧ ActL (stepV ⟨true, true, true, g⟩ r).1.g l := fun s hc h6 h5 h8 h11 => by
    have ha : stepV ⟨true, true, true, g⟩ r = (⟨true, true, true, g⟩, 8) := by
      rw [hstep]
      by_cases o4 : r.op = 4
      · simp only [actV, if_neg o2, if_neg o3, if_pos o4, hitV, if_pos hc]
      · simp only [actV, if_neg o2, if_neg o3, if_neg o4, if_pos hc]
    exact fin s 8 g (by rw [ha]) (by rw [ha]) h6 h5 h8 h11
  refine ⟨fun hn => ?_, fun hn => ?_⟩ <;> conv => whnf
  · refine far _ (.inl hn) ?_ ⟨_, rfl, rfl⟩ ⟨_, rfl, rfl⟩ ?_ <;> rfl
  refine ⟨fun hk => ?_, fun hk => ?_⟩ <;> conv => whnf
  · refine far _ (.inr (.inl hk)) ?_ ⟨_, rfl, rfl⟩ ⟨_, rfl, rfl⟩ ?_ <;> rfl
  have n0 : 0 ≤ atF g.ents r.x := by omega
  have n1 : atF g.ents r.x < g.ents.length := by rcases atF_spec g.ents r.x with ⟨h, _⟩ | ⟨i, h, hi, _⟩ <;> omega
  have hnn : (atF g.ents r.x).toNat < g.ents.length := by omega
  have hne : (atF g.ents r.client).toNat ≠ (atF g.ents r.x).toNat := by omega
  have hen := (good_fit hg).at n0 n1
  have hln := (good_life hg).at n0 n1
  have hnxy : xyOk (entAt g.ents (atF g.ents r.x)) := good_xy hg (entAt_mem hnn)
  refine ⟨encEnt (entAt g.ents (atF g.ents r.client)), entAt_row h0 h1, ?_⟩
  conv => whnf
  refine ⟨n0, by simp; omega, ?_⟩
  conv => whnf
  refine ⟨encEnt (entAt g.ents (atF g.ents r.x)), entAt_row n0 n1, ?_⟩
  conv => whnf
  refine drawn_bool (nearI_ok (entAt g.ents (atF g.ents r.client)) (entAt g.ents (atF g.ents r.x)) hxy hnxy) (fun hnear => ?_) (fun hnear => ?_) <;> conv => whnf
  · have nf : ¬ (atF g.ents r.x < 0 ∨ atF g.ents r.x = atF g.ents r.client ∨ nearF (entAt g.ents (atF g.ents r.client)) (entAt g.ents (atF g.ents r.x)) = false) := by
      rw [hnear]; simp; exact ⟨n0, hk⟩
    refine ⟨n0, by simp; omega, ?_⟩
    conv => whnf
    refine ⟨fun o5 => ?_, fun o5 => ?_⟩ <;> conv => whnf
    · have o4 : ¬ r.op = 4 := by omega
      refine ⟨encEnt (entAt g.ents (atF g.ents r.client)), entAt_row h0 h1, ?_⟩
      conv => whnf
      refine ⟨fun hp => ?_, fun hp => ?_⟩ <;> conv => whnf
      · have ha : stepV ⟨true, true, true, g⟩ r = (⟨true, true, true, g⟩, 7) := by
          rw [hstep]; simp only [actV, if_neg o2, if_neg o3, if_neg o4, if_neg nf, if_pos hp]
        refine fin _ 7 g (by rw [ha]) (by rw [ha]) ?_ ⟨_, rfl, rfl⟩ ⟨_, rfl, rfl⟩ ?_ <;> rfl
      have ha : stepV ⟨true, true, true, g⟩ r = (⟨false, true, true, ⟨setEnt (setEnt g.ents (atF g.ents r.x) { entAt g.ents (atF g.ents r.x) with gold := (entAt g.ents (atF g.ents r.x)).gold + r.y }) (atF g.ents r.client) { entAt g.ents (atF g.ents r.client) with gold := (entAt g.ents (atF g.ents r.client)).gold - r.y }, g.floor, g.last⟩⟩, 0) := by
        rw [hstep]; simp only [actV, if_neg o2, if_neg o3, if_neg o4, if_neg nf, if_neg hp]
      have w1 : IntKind.i64.wrap ((entAt g.ents (atF g.ents r.client)).gold - r.y) = (entAt g.ents (atF g.ents r.client)).gold - r.y := wrap_id (by omega) (by omega)
      have w2 : IntKind.i64.wrap ((entAt g.ents (atF g.ents r.x)).gold + r.y) = (entAt g.ents (atF g.ents r.x)).gold + r.y := wrap_id (by omega) (by omega)
      refine ⟨encEnt (entAt g.ents (atF g.ents r.client)), entAt_row h0 h1, ?_⟩
      conv => whnf
      refine ⟨encEnt (entAt g.ents (atF g.ents r.client)), entAt_row h0 h1, ?_⟩
      conv => whnf
      have hrow : ∀ q : List D, ((g.ents.map encEnt).set (atF g.ents r.client).toNat q)[(atF g.ents r.x).toNat]? = some (encEnt (entAt g.ents (atF g.ents r.x))) := fun q => by
        rw [List.getElem?_set_ne hne]; exact entAt_row n0 n1
      refine ⟨encEnt (entAt g.ents (atF g.ents r.x)), hrow _, ?_⟩
      conv => whnf
      refine ⟨encEnt (entAt g.ents (atF g.ents r.x)), hrow _, ?_⟩
      conv => whnf
      refine fin _ 0 ⟨setEnt (setEnt g.ents (atF g.ents r.x) { entAt g.ents (atF g.ents r.x) with gold := (entAt g.ents (atF g.ents r.x)).gold + r.y }) (atF g.ents r.client) { entAt g.ents (atF g.ents r.client) with gold := (entAt g.ents (atF g.ents r.client)).gold - r.y }, g.floor, g.last⟩ (by rw [ha]) (by rw [ha]) ?_ ⟨_, rfl, by rw [w1, w2]; exact set_swap hne rfl rfl⟩ ⟨_, rfl, rfl⟩ ?_ <;> rfl
    have o4 : r.op = 4 := by
      have h := hr
      unfold okR at h
      simp only [Bool.and_eq_true] at h
      have h := h.2.2
      rw [if_neg (by omega), if_neg o2] at h
      split at h
      · assumption
      · simp at h
    have wl : IntKind.i64.wrap ((entAt g.ents (atF g.ents r.x)).life - 1) = (entAt g.ents (atF g.ents r.x)).life - 1 := wrap_id (by omega) (by omega)
    refine ⟨encEnt (entAt g.ents (atF g.ents r.x)), entAt_row n0 n1, ?_⟩
    conv => whnf
    refine ⟨encEnt (entAt g.ents (atF g.ents r.x)), entAt_row n0 n1, ?_⟩
    conv => whnf
    have hrow : ((g.ents.map encEnt).set (atF g.ents r.x).toNat (encEnt { entAt g.ents (atF g.ents r.x) with life := IntKind.i64.wrap ((entAt g.ents (atF g.ents r.x)).life - 1) }))[(atF g.ents r.x).toNat]? = some (encEnt { entAt g.ents (atF g.ents r.x) with life := (entAt g.ents (atF g.ents r.x)).life - 1 }) := by
      rw [wl]; exact set_get rfl hnn
    refine ⟨encEnt { entAt g.ents (atF g.ents r.x) with life := (entAt g.ents (atF g.ents r.x)).life - 1 }, hrow, ?_⟩
    conv => whnf
    have hset : (g.ents.map encEnt).set (atF g.ents r.x).toNat (encEnt { entAt g.ents (atF g.ents r.x) with life := IntKind.i64.wrap ((entAt g.ents (atF g.ents r.x)).life - 1) }) = (hurt g.ents (atF g.ents r.x)).map encEnt := by
      rw [wl]; exact set_row rfl
    refine ⟨fun hz => ?_, fun hz => ?_⟩ <;> conv => whnf
    · have ha4 : 0 ≤ at4 (entAt g.ents (atF g.ents r.x)) ∧ at4 (entAt g.ents (atF g.ents r.x)) < 16 := by unfold at4; omega
      have hF := (good_fit hg).floor ha4.1 ha4.2
      have hsame : entAt (hurt g.ents (atF g.ents r.x)) (atF g.ents r.x) = { entAt g.ents (atF g.ents r.x) with life := (entAt g.ents (atF g.ents r.x)).life - 1 } := entAt_same hnn
      have ha : stepV ⟨true, true, true, g⟩ r = (⟨false, false, true, ⟨(hurt g.ents (atF g.ents r.x)).take (atF g.ents r.x).toNat ++ (hurt g.ents (atF g.ents r.x)).drop ((atF g.ents r.x).toNat + 1), addAt g.floor (at4 (entAt g.ents (atF g.ents r.x))) (entAt g.ents (atF g.ents r.x)).gold, g.last⟩⟩, 0) := by
        rw [hstep]
        simp only [actV, if_neg o2, if_neg o3, if_pos o4, hitV, if_neg nf, if_pos hz, dropV, hsame]
        rfl
      refine ⟨encEnt { entAt g.ents (atF g.ents r.x) with life := (entAt g.ents (atF g.ents r.x)).life - 1 }, hrow, ?_⟩
      conv => whnf
      refine drawn_ro (square_ok ((g.ents.map encEnt).set (atF g.ents r.x).toNat (encEnt { entAt g.ents (atF g.ents r.x) with life := IntKind.i64.wrap ((entAt g.ents (atF g.ents r.x)).life - 1) })) (g.floor.map encI) (g.last.map encI) { entAt g.ents (atF g.ents r.x) with life := (entAt g.ents (atF g.ents r.x)).life - 1 } hnxy (by simp [hfl])) ⟨⟨rfl, rfl, rfl, rfl, rfl, rfl, trivial⟩, rfl, rfl, rfl, ?_⟩
      conv => whnf
      refine ⟨encI (intAt g.floor (at4 (entAt g.ents (atF g.ents r.x)))), intAt_row (l := g.floor) (k := at4 (entAt g.ents (atF g.ents r.x))) ha4.1 (by omega), ?_⟩
      conv => whnf
      refine ⟨encEnt { entAt g.ents (atF g.ents r.x) with life := (entAt g.ents (atF g.ents r.x)).life - 1 }, hrow, ?_⟩
      conv => whnf
      refine ⟨encI (intAt g.floor (at4 (entAt g.ents (atF g.ents r.x)))), intAt_row (l := g.floor) (k := at4 (entAt g.ents (atF g.ents r.x))) ha4.1 (by omega), ?_⟩
      conv => whnf
      have wn : vi (IntKind.i64.wrap (atF g.ents r.x + 1)) = vi (atF g.ents r.x + 1) := congrArg vi (wrap_id (by omega) (by omega))
      have wf : IntKind.i64.wrap (intAt g.floor (at4 (entAt g.ents (atF g.ents r.x))) + (entAt g.ents (atF g.ents r.x)).gold) = intAt g.floor (at4 (entAt g.ents (atF g.ents r.x))) + (entAt g.ents (atF g.ents r.x)).gold := wrap_id (by omega) (by omega)
      have hhl : (hurt g.ents (atF g.ents r.x)).length = g.ents.length := by simp [hurt, setEnt]
      refine hcall_eq' (hD (hurt g.ents (atF g.ents r.x)) (atF g.ents r.x) n0 (by rw [hhl]; exact n1) (by rw [hhl]; exact hlen)) (congrArg (fun v => [V.own 5, vi (atF g.ents r.x), v]) wn) ⟨congrArg (Obj.arr true 5) hset, rfl, trivial⟩ rfl ⟨⟨trivial, trivial⟩, ?_⟩
      conv => whnf
      refine call_eq (cloneE_pure false _ (by simp [hhl]; omega)) ?_
      conv => whnf
      refine fin2 _ 0 ⟨(hurt g.ents (atF g.ents r.x)).take (atF g.ents r.x).toNat ++ (hurt g.ents (atF g.ents r.x)).drop ((atF g.ents r.x).toNat + 1), addAt g.floor (at4 (entAt g.ents (atF g.ents r.x))) (entAt g.ents (atF g.ents r.x)).gold, g.last⟩ _ (by rw [ha]) (by rw [ha]) rfl ?_ ?_ ⟨_, rfl, by rw [wf]; exact set_row rfl⟩ ?_ <;> rfl
    · have ha : stepV ⟨true, true, true, g⟩ r = (⟨false, true, true, ⟨hurt g.ents (atF g.ents r.x), g.floor, g.last⟩⟩, 0) := by
        rw [hstep]
        simp only [actV, if_neg o2, if_neg o3, if_pos o4, hitV, if_neg nf, if_neg hz]
      refine fin _ 0 ⟨hurt g.ents (atF g.ents r.x), g.floor, g.last⟩ (by rw [ha]) (by rw [ha]) ?_ ⟨_, rfl, hset⟩ ⟨_, rfl, rfl⟩ ?_ <;> rfl
  · refine far _ (.inr (.inr hnear)) ?_ ⟨_, rfl, rfl⟩ ⟨_, rfl, rfl⟩ ?_ <;> rfl
end Go.Proofs.YtdfneaponidfgaaDoor
/- What the program's GameDo computes, given what slices.Insert and slices.Delete do. -/
set_option linter.unusedVariables false
set_option linter.unusedSimpArgs false
set_option maxRecDepth 10000
namespace Go.Proofs.YtdfneaponidfgaaDoor
open Go Eng

def noted (g : Game) (r : Req) : Game := ⟨g.ents, g.floor, g.last.set (r.client - 1).toNat r.num⟩
def doI (g : Game) (r : Req) : Game × Int :=
  if reqNone r = true then (g, 2)
  else if r.num ≤ intAt g.last (r.client - 1) then (g, 3)
  else ((stepV ⟨true, true, true, noted g r⟩ r).1.g, (stepV ⟨true, true, true, noted g r⟩ r).2)

theorem good_step {y : GV} {r : Req} (h : Good y.g) (h1 : 1 ≤ r.client) (h2 : r.client ≤ 4) (hy : r.op ≠ 2 → 0 ≤ r.y) : Good (stepV y r).1.g := by
  unfold stepV
  split
  · split
    · exact h
    · rename_i hat
      refine good_join h h1 h2 ?_
      rcases atF_spec y.g.ents r.client with ⟨_, hh⟩ | ⟨i, hh, _⟩
      · exact hh
      · omega
  · split
    · exact h
    · exact good_act h (by omega) (by rcases atF_spec y.g.ents r.client with ⟨h, _⟩ | ⟨i, h, hi, _⟩ <;> omega) hy
theorem okR_all {r : Req} (h : okR r = true) : 1 ≤ r.client ∧ r.client ≤ 4 ∧ 1 ≤ r.num ∧ r.num ≤ 30 ∧ (r.op ≠ 2 → 0 ≤ r.y) := by
  unfold okR at h
  simp only [Bool.and_eq_true, inB_t] at h
  obtain ⟨h1, h2, h3⟩ := h
  refine ⟨h1.1, h1.2, h2.1, h2.2, fun ho => ?_⟩
  by_cases o13 : r.op = 1 ∨ r.op = 3
  · rw [if_pos o13] at h3; simp at h3; omega
  rw [if_neg o13, if_neg ho] at h3
  by_cases o4 : r.op = 4
  · rw [if_pos o4] at h3; simp at h3; omega
  rw [if_neg o4] at h3
  by_cases o5 : r.op = 5
  · rw [if_pos o5] at h3; simp only [Bool.and_eq_true, inB_t] at h3; omega
  · rw [if_neg o5] at h3; simp at h3
theorem good_noted {g : Game} {r : Req} (h : Good g) (hr : okR r = true) : Good (noted g r) := by
  have := okR_all hr
  exact ⟨h.ent, h.ord, h.floor, fun n hn => by
    rcases mem_set hn with rfl | hn
    · omega
    · exact h.last n hn, h.nfloor, by simp [noted, h.nlast], h.sum⟩
theorem good_doI {g : Game} {r : Req} (h : Good g) (hr : reqNone r = true ∨ okR r = true) : Good (doI g r).1 := by
  unfold doI
  split
  · exact h
  · rename_i hno
    have hr := hr.resolve_left hno
    have := okR_all hr
    split
    · exact h
    · exact good_step (good_noted h hr) (by omega) (by omega) this.2.2.2.2

theorem act_use (hI : InsOk) (hD : DelOk) {g : Game} {r : Req} (hg : Good g) (hr : okR r = true) {s : St} (h6 : s.hp 6 = .box [.own 5, .own 8, .own 11]) (h5 : s.hp 5 = .arr true 5 (g.ents.map encEnt)) (h8 : s.hp 8 = .arr true 1 (g.floor.map encI)) (h11 : s.hp 11 = .arr true 1 (g.last.map encI)) {K : HP → V → HP → Prop}
    (k1 : K (actHP (.own 5) (.arr true 5 (g.ents.map encEnt)) (g.floor.map encI) (g.last.map encI)) (vi (stepV ⟨true, true, true, g⟩ r).2) (actHP (.own 5) (.arr true 5 ((stepV ⟨true, true, true, g⟩ r).1.g.ents.map encEnt)) ((stepV ⟨true, true, true, g⟩ r).1.g.floor.map encI) ((stepV ⟨true, true, true, g⟩ r).1.g.last.map encI)))
    (k2 : K (actHP (.own 5) (.arr true 5 (g.ents.map encEnt)) (g.floor.map encI) (g.last.map encI)) (vi (stepV ⟨true, true, true, g⟩ r).2) (actHP (.d (.slc true 5 ((stepV ⟨true, true, true, g⟩ r).1.g.ents.map encEnt))) .dead ((stepV ⟨true, true, true, g⟩ r).1.g.floor.map encI) ((stepV ⟨true, true, true, g⟩ r).1.g.last.map encI))) :
    ∃ hin φ, HCalls Tryd.prog G0 61 (hpOf hin) [.ref 6 0 0 0, vReq r] φ ∧ weakHp s (hin.map (·.1)) hin ∧ okVs (hin.map (·.1)) [.ref 6 0 0 0, vReq r] = true ∧ ∀ q l, φ q l → K hin q l :=
  ⟨_, _, actI_ok hI hD g r hg hr, ⟨h6, rfl, h5, rfl, h8, rfl, h11, rfl, trivial⟩, rfl, fun q l ⟨e, h⟩ => by
    subst e
    rcases h with rfl | rfl
    · exact k1
    · exact k2⟩

theorem gameDoI_ok (hI : InsOk) (hD : DelOk) (a b c : Bool) (g : Game) (r : Req) : ACalls Tryd.prog G0 50 [vGame a b c g, vReq r] (fun q =>
    (okG g = true ∧ (reqNone r = true ∨ okR r = true) ∧ q = .tup [vGame true true true (doI g r).1, vi (doI g r).2]) ∨ (¬ (okG g = true ∧ (reqNone r = true ∨ okR r = true)) ∧ q = .tup [vGame true true true ⟨[], [], []⟩, vi 1])) := by
  refine spec_own tabOk Tryd.func50 (by kernel_rfl) [] [60, 61] rfl ?_
  conv => whnf
  refine call_bool (gameOk_ok a b c g) (fun hok => ?_) (fun hok => ?_) <;> conv => whnf
  · refine call_bool (orNull_ok r) (fun hr => ?_) (fun hr => ?_) <;> conv => whnf
    · have hg := ok_good (of_okG hok)
      have hle := good_len hg
      have hnf := hg.nfloor
      have hnl := hg.nlast
      have hr' : reqNone r = true ∨ okR r = true := by simpa using hr
      have yes : ∀ {v : V} (g' : Game) (n : Int), doI g r = (g', n) → v = .tup [vGame true true true g', vi n] → (okG g = true ∧ (reqNone r = true ∨ okR r = true) ∧ v = .tup [vGame true true true (doI g r).1, vi (doI g r).2]) ∨ (¬ (okG g = true ∧ (reqNone r = true ∨ okR r = true)) ∧ v = .tup [vGame true true true ⟨[], [], []⟩, vi 1]) := fun g' n hd hv =>
        .inl ⟨hok, hr', by rw [hd]; exact hv⟩
      refine hcall_eq (hin := []) (copyI_own a b c g (by omega) (by omega) (by omega) (by rintro h; rw [h] at hnf; simp at hnf) (by rintro h; rw [h] at hnl; simp at hnl)) trivial rfl ⟨⟨rfl, rfl, rfl, trivial⟩, ?_⟩
      conv => whnf
      have e : ∀ {b : Bool}, b = ((r.client == 0) && ((r.num == 0) && ((r.op == 0) && ((r.x == 0) && (r.y == 0))))) → reqNone r = b := fun {b} hb => by
        rw [hb, Bool.eq_iff_iff]; simp [reqNone]
      refine ⟨fun h => ?_, fun h => ?_⟩ <;> conv => whnf
      · have h : ((r.client == 0) && ((r.num == 0) && ((r.op == 0) && ((r.x == 0) && (r.y == 0))))) = true := h
        have hno := e h.symm
        refine yes g 2 ?_ rfl
        simp only [doI, if_pos hno]
      have h : ((r.client == 0) && ((r.num == 0) && ((r.op == 0) && ((r.x == 0) && (r.y == 0))))) = false := h
      have hno : ¬ reqNone r = true := by rw [e h.symm]; simp
      have hR := hr'.resolve_left hno
      have hc := okR_all hR
      have wc : IntKind.i64.wrap (r.client - 1) = r.client - 1 := wrap_id (by omega) (by omega)
      refine ⟨by rw [wc]; omega, encI (intAt g.last (r.client - 1)), by rw [wc]; exact intAt_row (l := g.last) (by omega) (by omega), ?_⟩
      conv => whnf
      refine ⟨fun ho => ?_, fun ho => ?_⟩ <;> conv => whnf
      · refine yes g 3 ?_ rfl
        simp only [doI, if_neg hno, if_pos ho]
      have hd : doI g r = ((stepV ⟨true, true, true, noted g r⟩ r).1.g, (stepV ⟨true, true, true, noted g r⟩ r).2) := by simp only [doI, if_neg hno, if_neg ho]
      refine ⟨by rw [wc]; omega, by rw [wc]; simp; omega, ?_⟩
      conv => whnf
      refine ⟨encI (intAt g.last (r.client - 1)), by rw [wc]; exact intAt_row (l := g.last) (by omega) (by omega), ?_⟩
      conv => whnf
      have hL : Obj.arr true 1 ((g.last.map encI).set (IntKind.i64.wrap (r.client - 1)).toNat (encI r.num)) = .arr true 1 ((noted g r).last.map encI) := by
        rw [wc]; exact congrArg (Obj.arr true 1) (set_row rfl)
      refine act_use hI hD (g := noted g r) (good_noted hg hR) hR rfl rfl rfl hL ⟨⟨trivial, trivial, trivial, trivial, trivial⟩, ?_⟩ ⟨⟨trivial, trivial, trivial, trivial, trivial⟩, ?_⟩
      · conv => whnf
        refine yes _ _ hd rfl
      · conv => whnf
        refine yes _ _ hd rfl
    · refine .inr ⟨fun hh => ?_, rfl⟩
      have : (reqNone r || okR r) = true := by simpa using hh.2
      rw [hr] at this; simp at this
  · refine .inr ⟨fun hh => ?_, rfl⟩
    rw [hok] at hh; simp at hh

open Classical in
noncomputable def gdo (g : Game) (r : Req) : V :=
  if okG g = true ∧ (reqNone r = true ∨ okR r = true) then .tup [vGame true true true (doI g r).1, vi (doI g r).2] else .tup [vGame true true true ⟨[], [], []⟩, vi 1]
theorem gameDo_eq (hI : InsOk) (hD : DelOk) (a b c : Bool) (g : Game) (r : Req) : ACalls Tryd.prog G0 50 [vGame a b c g, vReq r] (· = gdo g r) :=
  (gameDoI_ok hI hD a b c g r).mono fun q h => by
    rcases h with ⟨h1, h2, e⟩ | ⟨hn, e⟩
    · rw [e, gdo, if_pos ⟨h1, h2⟩]
    · rw [e, gdo, if_neg hn]
end Go.Proofs.YtdfneaponidfgaaDoor
/- A game's text, by the program and by the reference. -/
set_option linter.unusedVariables false
set_option linter.unusedSimpArgs false
set_option maxRecDepth 10000
namespace Go.Proofs.YtdfneaponidfgaaDoor
open Go Eng

def headL (g : Game) : List UInt8 := commasL g.floor ++ 47 :: commasL g.last
def entsL (l : List Ent) : List UInt8 := l.flatMap fun e => 47 :: sepL (ent5 e)
def gameL (g : Game) : List UInt8 := headL g ++ entsL g.ents
theorem ents_succ {l : List Ent} {i : Nat} {e : Ent} (h : l[i]? = some e) : entsL (l.take (i + 1)) = entsL (l.take i) ++ 47 :: sepL (ent5 e) := by
  unfold entsL
  rw [List.take_add_one, h]
  simp
theorem sep_len {l : List Int} (h : ∀ n ∈ l, n < 100) : (sepL l).length ≤ 3 * l.length := by
  by_cases hl : l = []
  · subst hl; simp [sepL]
  · have := commas_len h
    rw [commas_sep l hl] at this
    simp at this; omega
structure Nums (g : Game) : Prop where
  floor : ∀ n ∈ g.floor, 0 ≤ n ∧ n < 100
  last : ∀ n ∈ g.last, 0 ≤ n ∧ n < 100
  ent : ∀ e ∈ g.ents, ∀ n ∈ ent5 e, 0 ≤ n ∧ n < 100
  nf : g.floor.length = 16
  nl : g.last.length = 4
  ne : g.ents.length ≤ 4
theorem nums_of {g : Game} (h : Good g) : Nums g := by
  refine ⟨fun n hn => ⟨h.floor n hn, by have := good_floor h n hn; omega⟩, fun n hn => by have := h.last n hn; omega, fun e he n hn => ?_, h.nfloor, h.nlast, good_len h⟩
  have h1 := h.ent e he
  have h2 := good_gold h e he
  simp only [ent5, List.mem_cons, List.not_mem_nil, or_false] at hn
  omega
theorem head_len {g : Game} (h : Nums g) : (headL g).length ≤ 100 := by
  have h1 := commas_len (l := g.floor) fun n hn => (h.floor n hn).2
  have h2 := commas_len (l := g.last) fun n hn => (h.last n hn).2
  rw [h.nf] at h1; rw [h.nl] at h2
  simp only [headL, List.length_append, List.length_cons]; omega
theorem entsL_len : ∀ {l : List Ent}, (∀ e ∈ l, ∀ n ∈ ent5 e, 0 ≤ n ∧ n < 100) → (entsL l).length ≤ 16 * l.length
  | [], _ => by simp [entsL]
  | e :: l, h => by
    have h1 := sep_len (l := ent5 e) fun n hn => (h e List.mem_cons_self n hn).2
    have h2 := entsL_len (l := l) fun f hf => h f (List.mem_cons_of_mem _ hf)
    simp only [entsL, List.flatMap_cons, List.length_append, List.length_cons] at h2 ⊢
    rw [show (ent5 e).length = 5 from rfl] at h1
    omega
theorem acc_len {g : Game} (h : Nums g) (i : Nat) (hi : i ≤ g.ents.length) : (headL g ++ entsL (g.ents.take i)).length ≤ 200 := by
  have h1 := head_len h
  have h2 := entsL_len (l := g.ents.take i) fun e he => h.ent e (List.mem_of_mem_take he)
  have := h.ne
  rw [List.length_take] at h2
  rw [List.length_append]; omega

theorem put_ok (a b c : Bool) (g : Game) (hg : Good g) : ACalls Tryd.prog G0 13 [vGame a b c g] (· = vs (gameL g)) := by
  have hN := nums_of hg
  have hf0 : g.floor ≠ [] := fun h => by have := hN.nf; rw [h] at this; simp at this
  have hl0 : g.last ≠ [] := fun h => by have := hN.nl; rw [h] at this; simp at this
  have h1 := commas_len (l := g.floor) fun n hn => (hN.floor n hn).2
  have h2 := commas_len (l := g.last) fun n hn => (hN.last n hn).2
  rw [hN.nf] at h1; rw [hN.nl] at h2
  refine spec_intro tabOk Tryd.func13 (by kernel_rfl) rfl ?_
  conv => whnf
  refine call_eq (gameOk_ok a b c g) ?_
  rw [okG_t (good_ok hg)]
  conv => whnf
  refine drawn_eq (commas_ok b g.floor hf0 hN.floor (by have := hN.nf; omega)) ?_
  conv => whnf
  refine ⟨by rw [bs_size]; show _ + 1 ≤ _; omega, ?_⟩
  conv => whnf
  refine drawn_eq (commas_ok c g.last hl0 hN.last (by have := hN.nl; omega)) ?_
  conv => whnf
  refine ⟨by rw [bs_size]; show ((bs (commasL g.floor)) ++ bs [47]).size + _ ≤ _; rw [bs_app, bs_size]; simp; omega, ?_⟩
  conv => whnf
  intro hlen
  have hlen := le_map hlen
  conv => whnf
  let I1 : Nat → SL := fun i => ⟨[(1, .ref 1 0 0 0), (3, vs (headL g ++ entsL (g.ents.take i))), (18, .d (dEnts a g.ents)), (19, vi (g.ents.map encEnt).length), (20, vi i)], [(1, .box [.d (dEnts a g.ents), .d (dInts b g.floor), .d (dInts c g.last)])]⟩
  refine loop_up g.ents.length (fun _ => True) I1 trivial ?_ ?_
  · refine ⟨?_, ?_, rfl⟩ <;> repeat' (first | exact weakSl_nil | exact weakHp_nil | refine weakSl_cons ?_ rfl ?_ | refine weakHp_cons ?_ rfl ?_)
    · rfl
    · show V.d (.str (bs (commasL g.floor) ++ bs [47] ++ bs (commasL g.last))) = vs (headL g ++ [])
      rw [bs_app, bs_app, List.append_nil]; simp [vs, headL]
    all_goals rfl
  rintro i hi -
  conv => whnf
  refine ⟨fun hlt => ?_, fun hge => ?_⟩ <;> conv => whnf
  · have hlt := lt_map hlt
    refine (entsAt hlt).elim fun e he => ?_
    have hm := List.mem_of_getElem? he
    refine ⟨by omega, encEnt e, row_map he, ?_⟩
    conv => whnf
    have hs := sep_len (l := ent5 e) fun n hn => (hN.ent e hm n hn).2
    rw [show (ent5 e).length = 5 from rfl] at hs
    refine call_eq' (commas_ok true (ent5 e) (by simp [ent5]) (hN.ent e hm) (by simp [ent5])) rfl ?_
    conv => whnf
    refine call_eq' (sfx_ok (sepL (ent5 e)) (by omega)) (by rw [← commas_sep _ (by simp [ent5])]; rfl) ?_
    conv => whnf
    refine ⟨by rw [bs_size]; show 1 + _ ≤ _; omega, ?_⟩
    conv => whnf
    have ha := acc_len hN i hi
    refine ⟨?_, ?_⟩
    · show (bs (headL g ++ entsL (g.ents.take i))).size + (bs [47] ++ bs (sepL (ent5 e))).size ≤ _
      rw [bs_app, bs_size, bs_size]; simp only [List.length_append, List.length_cons, List.length_nil] at ha ⊢; omega
    conv => whnf
    refine up_next hlt trivial ?_
    refine ⟨?_, ?_, rfl⟩ <;> repeat' (first | exact weakSl_nil | exact weakHp_nil | refine weakSl_cons ?_ rfl ?_ | refine weakHp_cons ?_ rfl ?_)
    · rfl
    · show V.d (.str (bs (headL g ++ entsL (g.ents.take i)) ++ (bs [47] ++ bs (sepL (ent5 e))))) = vs (headL g ++ entsL (g.ents.take (i + 1)))
      rw [bs_app, bs_app, ents_succ he]; simp [vs]
    · rfl
    · rfl
    · exact wrap_succ (by omega)
    · rfl
  · have hil := ge_map hge hi
    subst hil
    show vs (headL g ++ entsL (g.ents.take g.ents.length)) = vs (gameL g)
    rw [List.take_length]; rfl

theorem put2_ok (a b c : Bool) (g : Game) (hN : Nums g) : ACalls Tryd.prog G0 19 [vGame a b c g] (· = vs (gameL g)) := by
  have h1 := commas_len (l := g.floor) fun n hn => (hN.floor n hn).2
  have h2 := commas_len (l := g.last) fun n hn => (hN.last n hn).2
  rw [hN.nf] at h1; rw [hN.nl] at h2
  refine spec_intro tabOk Tryd.func19 (by kernel_rfl) rfl ?_
  conv => whnf
  let I1 : Nat → SL := fun i => ⟨[(1, .ref 1 0 0 0), (3, vs (commasL (g.floor.take i))), (4, vi i)], [(1, .box [.d (dEnts a g.ents), .d (dInts b g.floor), .d (dInts c g.last)])]⟩
  refine loop_up g.floor.length (fun _ => True) I1 trivial ?_ ?_
  · refine ⟨?_, ?_, rfl⟩ <;> repeat' (first | exact weakSl_nil | exact weakHp_nil | refine weakSl_cons ?_ rfl ?_ | refine weakHp_cons ?_ rfl ?_)
    all_goals rfl
  rintro i hi -
  have hi16 : i ≤ 16 := by have := hN.nf; omega
  conv => whnf
  intro hlen
  have hlen := le_map hlen
  conv => whnf
  refine ⟨fun hlt => ?_, fun hge => ?_⟩ <;> conv => whnf
  · have hlt := lt_map hlt
    refine (entsAt hlt).elim fun n hn => ?_
    have hm := hN.floor n (List.mem_of_getElem? hn)
    refine ⟨by omega, encI n, row_map hn, ?_⟩
    conv => whnf
    have hd := dec_len hm.2
    have ha := commas_len (l := g.floor.take i) fun n hn => (hN.floor n (List.mem_of_mem_take hn)).2
    rw [List.length_take] at ha
    refine call_eq' (l1Dec_ok n hm.1 hm.2) rfl ?_
    conv => whnf
    refine ⟨?_, ?_⟩
    · show (bs (commasL (g.floor.take i))).size + (bs (decL n)).size ≤ _
      rw [bs_size, bs_size]; omega
    conv => whnf
    refine ⟨?_, ?_⟩
    · show (bs (commasL (g.floor.take i)) ++ bs (decL n)).size + 1 ≤ _
      rw [bs_app, bs_size, List.length_append]; omega
    conv => whnf
    refine up_next hlt trivial ?_
    refine ⟨?_, ?_, rfl⟩ <;> repeat' (first | exact weakSl_nil | exact weakHp_nil | refine weakSl_cons ?_ rfl ?_ | refine weakHp_cons ?_ rfl ?_)
    · rfl
    · show V.d (.str (bs (commasL (g.floor.take i)) ++ bs (decL n) ++ bs [44])) = vs (commasL (g.floor.take (i + 1)))
      rw [bs_app, bs_app, commas_succ hn]; simp [vs]
    · exact wrap_succ (by omega)
    · rfl
  have hil := ge_map hge hi
  subst hil
  refine ⟨?_, ?_⟩
  · show (bs (commasL (g.floor.take g.floor.length))).size + 1 ≤ _
    rw [List.take_length, bs_size]; omega
  conv => whnf
  let I2 : Nat → SL := fun i => ⟨[(1, .ref 1 0 0 0), (3, vs (commasL g.floor ++ 47 :: commasL (g.last.take i))), (5, vi i)], [(1, .box [.d (dEnts a g.ents), .d (dInts b g.floor), .d (dInts c g.last)])]⟩
  refine loop_up g.last.length (fun _ => True) I2 trivial ?_ ?_
  · refine ⟨?_, ?_, rfl⟩ <;> repeat' (first | exact weakSl_nil | exact weakHp_nil | refine weakSl_cons ?_ rfl ?_ | refine weakHp_cons ?_ rfl ?_)
    · rfl
    · show V.d (.str (bs (commasL (g.floor.take g.floor.length)) ++ bs [47])) = vs (commasL g.floor ++ [47])
      rw [bs_app, List.take_length]; rfl
    all_goals rfl
  rintro i hi -
  have hi4 : i ≤ 4 := by have := hN.nl; omega
  conv => whnf
  intro hlen
  have hlen := le_map hlen
  conv => whnf
  refine ⟨fun hlt => ?_, fun hge => ?_⟩ <;> conv => whnf
  · have hlt := lt_map hlt
    refine (entsAt hlt).elim fun n hn => ?_
    have hm := hN.last n (List.mem_of_getElem? hn)
    refine ⟨by omega, encI n, row_map hn, ?_⟩
    conv => whnf
    have hd := dec_len hm.2
    have ha := commas_len (l := g.last.take i) fun n hn => (hN.last n (List.mem_of_mem_take hn)).2
    rw [List.length_take] at ha
    refine call_eq' (l1Dec_ok n hm.1 hm.2) rfl ?_
    conv => whnf
    refine ⟨?_, ?_⟩
    · show (bs (commasL g.floor ++ 47 :: commasL (g.last.take i))).size + (bs (decL n)).size ≤ _
      rw [bs_size, bs_size, List.length_append, List.length_cons]; omega
    conv => whnf
    refine ⟨?_, ?_⟩
    · show (bs (commasL g.floor ++ 47 :: commasL (g.last.take i)) ++ bs (decL n)).size + 1 ≤ _
      rw [bs_app, bs_size, List.length_append, List.length_append, List.length_cons]; omega
    conv => whnf
    refine up_next hlt trivial ?_
    refine ⟨?_, ?_, rfl⟩ <;> repeat' (first | exact weakSl_nil | exact weakHp_nil | refine weakSl_cons ?_ rfl ?_ | refine weakHp_cons ?_ rfl ?_)
    · rfl
    · show V.d (.str (bs (commasL g.floor ++ 47 :: commasL (g.last.take i)) ++ bs (decL n) ++ bs [44])) = vs (commasL g.floor ++ 47 :: commasL (g.last.take (i + 1)))
      rw [bs_app, bs_app, commas_succ hn]; simp [vs]
    · exact wrap_succ (by omega)
    · rfl
  have hil := ge_map hge hi
  subst hil
  let I3 : Nat → SL := fun i => ⟨[(1, .ref 1 0 0 0), (3, vs (headL g ++ entsL (g.ents.take i))), (6, vi i)], [(1, .box [.d (dEnts a g.ents), .d (dInts b g.floor), .d (dInts c g.last)])]⟩
  refine loop_up g.ents.length (fun _ => True) I3 trivial ?_ ?_
  · refine ⟨?_, ?_, rfl⟩ <;> repeat' (first | exact weakSl_nil | exact weakHp_nil | refine weakSl_cons ?_ rfl ?_ | refine weakHp_cons ?_ rfl ?_)
    · rfl
    · show vs (commasL g.floor ++ 47 :: commasL (g.last.take g.last.length)) = vs (headL g ++ [])
      rw [List.take_length, List.append_nil]; rfl
    all_goals rfl
  rintro i hi -
  conv => whnf
  intro hlen
  have hlen := le_map hlen
  conv => whnf
  refine ⟨fun hlt => ?_, fun hge => ?_⟩ <;> conv => whnf
  · have hlt := lt_map hlt
    refine (entsAt hlt).elim fun e he => ?_
    have hm := hN.ent e (List.mem_of_getElem? he)
    have ha := acc_len hN i hi
    have c1 := hm e.client (by simp [ent5])
    have c2 := hm e.x (by simp [ent5])
    have c3 := hm e.y (by simp [ent5])
    have c4 := hm e.life (by simp [ent5])
    have c5 := hm e.gold (by simp [ent5])
    have d1 := dec_len c1.2
    have d2 := dec_len c2.2
    have d3 := dec_len c3.2
    have d4 := dec_len c4.2
    have d5 := dec_len c5.2
    refine ⟨by omega, encEnt e, row_map he, ?_⟩
    conv => whnf
    generalize hA : headL g ++ entsL (g.ents.take i) = A at ha
    have l44 : (ByteArray.mk #[44]).size = 1 := rfl
    have l47 : (ByteArray.mk #[47]).size = 1 := rfl
    refine ⟨by simp only [ByteArray.size_append, bs_size, l44, l47]; omega, ?_⟩
    conv => whnf
    refine drawn_eq' (l1Dec_ok e.client c1.1 c1.2) rfl ?_
    conv => whnf
    refine ⟨by simp only [ByteArray.size_append, bs_size, l44, l47]; omega, ?_⟩
    conv => whnf
    refine ⟨by simp only [ByteArray.size_append, bs_size, l44, l47]; omega, ?_⟩
    conv => whnf
    refine drawn_eq' (l1Dec_ok e.x c2.1 c2.2) rfl ?_
    conv => whnf
    refine ⟨by simp only [ByteArray.size_append, bs_size, l44, l47]; omega, ?_⟩
    conv => whnf
    refine ⟨by simp only [ByteArray.size_append, bs_size, l44, l47]; omega, ?_⟩
    conv => whnf
    refine drawn_eq' (l1Dec_ok e.y c3.1 c3.2) rfl ?_
    conv => whnf
    refine ⟨by simp only [ByteArray.size_append, bs_size, l44, l47]; omega, ?_⟩
    conv => whnf
    refine ⟨by simp only [ByteArray.size_append, bs_size, l44, l47]; omega, ?_⟩
    conv => whnf
    refine drawn_eq' (l1Dec_ok e.life c4.1 c4.2) rfl ?_
    conv => whnf
    refine ⟨by simp only [ByteArray.size_append, bs_size, l44, l47]; omega, ?_⟩
    conv => whnf
    refine ⟨by simp only [ByteArray.size_append, bs_size, l44, l47]; omega, ?_⟩
    conv => whnf
    refine drawn_eq' (l1Dec_ok e.gold c5.1 c5.2) rfl ?_
    conv => whnf
    refine ⟨by simp only [ByteArray.size_append, bs_size, l44, l47]; omega, ?_⟩
    conv => whnf
    refine up_next hlt trivial ?_
    refine ⟨?_, ?_, rfl⟩ <;> repeat' (first | exact weakSl_nil | exact weakHp_nil | refine weakSl_cons ?_ rfl ?_ | refine weakHp_cons ?_ rfl ?_)
    · rfl
    · show V.d (.str (bs A ++ bs [47] ++ bs (decL e.client) ++ bs [44] ++ bs (decL e.x) ++ bs [44] ++ bs (decL e.y) ++ bs [44] ++ bs (decL e.life) ++ bs [44] ++ bs (decL e.gold))) = vs (headL g ++ entsL (g.ents.take (i + 1)))
      rw [ents_succ he, ← List.append_assoc, hA]
      simp only [bs_app, vs, ent5, sepL, List.flatMap_cons, List.flatMap_nil, List.append_assoc, List.cons_append, List.nil_append, List.append_nil]
    · exact wrap_succ (by omega)
    · rfl
  · have hil := ge_map hge hi
    subst hil
    show vs (headL g ++ entsL (g.ents.take g.ents.length)) = vs (gameL g)
    rw [List.take_length]; rfl
end Go.Proofs.YtdfneaponidfgaaDoor
/- What slices.Insert and slices.Delete do to an array of figures. -/
set_option linter.unusedVariables false
set_option linter.unusedSimpArgs false
set_option maxRecDepth 10000
namespace Go.Proofs.YtdfneaponidfgaaDoor
open Go Eng

/-- An array that was passed is forgotten. -/
theorem hcalls_forget {P : Program} {G : Nat → V} {f : FuncId} {i : Nat} {hp0 : Nat → Eng.Obj} {args : List V} {x : D} (h : HCalls P G f hp0 args (fun r l => r = .d x ∧ ∃ ob, l = [(i, ob)])) :
    HCalls P G f hp0 args (fun r l => r = .d x ∧ l = [(i, .dead)]) := by
  refine ⟨h.1, fun w g us h1 h2 h3 h4 h5 => (h.2 w g us h1 h2 h3 h4 h5).mono fun e w' ho => ⟨?_⟩⟩
  obtain ⟨u, r, l, g', q1, ⟨q2, ob, q3⟩, q4, q5, q6, q7, q8, q9, q10, q11, q12, q13, q14⟩ := ho.out
  subst q2; subst q3
  have hd : ∀ j, hpOf [(i, Eng.Obj.dead)] j = if j = i then .dead else .none := fun j => by
    unfold hpOf Eng.look
    cases hb : Nat.beq j i with
    | true => rw [if_pos (Nat.eq_of_beq_eq_true hb)]
    | false => rw [if_neg (by rintro rfl; simp at hb)]; rfl
  have ho : ∀ j, hpOf [(i, ob)] j = if j = i then ob else .none := fun j => by
    unfold hpOf Eng.look
    cases hb : Nat.beq j i with
    | true => rw [if_pos (Nat.eq_of_beq_eq_true hb)]
    | false => rw [if_neg (by rintro rfl; simp at hb)]; rfl
  have hl : ∀ j, (hpOf [(i, Eng.Obj.dead)] j).live = false := fun j => by rw [hd]; split <;> rfl
  refine ⟨u, .d x, [(i, .dead)], g', q1, ⟨rfl, rfl⟩, fun p hp => by simp only [List.mem_singleton] at hp; subst hp; rfl, by simp only [RepV] at q5 ⊢; exact q5, fun j => ?_, fun j k b _ hj _ _ => by rw [hl] at hj; simp at hj, q8, q9, q10, ⟨q11.ext, fun j hj => ?_, q11.blk, q11.val, fun j hj hg e n => ?_, fun j e n hj hg => ?_⟩, q12, fun j b hj _ => by rw [hl] at hj; simp at hj, q14⟩
  · rw [hd]; split <;> trivial
  · have := q11.used j hj
    rw [ho] at this
    rw [hd]
    split
    · rfl
    · rename_i hne; rw [if_neg hne] at this; simp [Eng.Obj.used] at this
  · rw [hd]; split <;> simp
  · rw [hd] at hg; split at hg <;> simp at hg

theorem fin5 {want : List (List D)} (s : St) (x : List (List D)) (ob : Eng.Obj) (hx : x = want) (h5 : s.hp 5 = ob) (ho : okO [5] ob = true) (hu : ob.used = true) :
    ∃ m, HRest s [5] m ∧ (V.d (.slc false 5 x) = .d (.slc false 5 want) ∧ ∃ ob, m = [(5, ob)]) := by
  subst hx
  refine ⟨[(5, ob)], ⟨⟨h5, ho, trivial⟩, ?_, rfl⟩, rfl, ob, rfl⟩
  simpa using hu

theorem ins_mid {α : Type} {l : List α} {k : Nat} {z e : α} (hk : k < l.length) {n : Nat} (hn : n = l.length - k + 1) :
    (((l.take k ++ List.replicate n z).take k ++ [e] ++ (l.take k ++ List.replicate n z).drop (k + 1)).take (k + 1) ++ l.drop k ++
      ((l.take k ++ List.replicate n z).take k ++ [e] ++ (l.take k ++ List.replicate n z).drop (k + 1)).drop (k + 1 + (l.drop k).length)) = l.take k ++ [e] ++ l.drop k := by
  subst hn
  have h1 : (l.take k).length = k := by simp; omega
  have h2 : (l.take k ++ List.replicate (l.length - k + 1) z).take k = l.take k := by rw [List.take_append_of_le_length (by omega), List.take_of_length_le (by omega)]
  rw [h2]
  have h3 : (l.take k ++ [e]).length = k + 1 := by simp; omega
  have h4 : (l.take k ++ [e] ++ (l.take k ++ List.replicate (l.length - k + 1) z).drop (k + 1)).drop (k + 1 + (l.drop k).length) = [] := List.drop_eq_nil_of_le (by simp; omega)
  rw [h4, List.take_append_of_le_length (by omega), List.take_of_length_le (by omega), List.append_nil]

theorem insOk : InsOk := by
  intro l k e hk hl
  refine hcalls_forget ?_
  refine hspec tabOk Tryd.func70 (by kernel_rfl) false [12, 25, 34, 40, 43, 50, 53] [] rfl ?_
  have w1 : IntKind.i64.wrap ((l.length : Int) + 1) = l.length + 1 := wrap_id (by omega) (by omega)
  have w2 : IntKind.i64.wrap ((l.length : Int) + 1 - k) = l.length + 1 - k := wrap_id (by omega) (by omega)
  have w3 : IntKind.i64.wrap ((k : Int) + 1) = k + 1 := wrap_id (by omega) (by omega)
  conv => whnf
  refine ⟨by simp, by simp; omega, by simp, ?_⟩
  conv => whnf
  intro _
  refine ⟨fun h => ?_, fun _ => ?_⟩
  · simp at h
  conv => whnf
  intro _
  refine ⟨fun h => ?_, fun h => ?_⟩ <;> conv => whnf
  · refine ⟨by simp, by simp, by simp; omega, by simp; omega, ?_⟩
    conv => whnf
    have hkl : k = l.length := by simp at h; omega
    refine fin5 _ _ (.arr true 5 (l.map encEnt)) ?_ ?_ ?_ ?_
    · subst hkl
      have e1 : (l.map encEnt).take l.length = l.map encEnt := List.take_of_length_le (by simp)
      simp [e1]
    · rfl
    · rfl
    · rfl
  · have hkl : k < l.length := by simp at h; omega
    refine ⟨by simp, ?_⟩
    conv => whnf
    refine ⟨fun h2 => ?_, fun h2 => ?_⟩
    · conv => whnf
      refine ⟨by simp, by simp, by simp; omega, ?_⟩
      conv => whnf
      refine ⟨?_, by simp, ?_, ?_, ?_⟩
      · simp [w1, w2]; omega
      · simp [w1, w2]; omega
      · simp [w1, w2]; omega
      conv => whnf
      refine ⟨by simp, by simp; omega, by simp [w1, w2], ?_⟩
      conv => whnf
      refine ⟨by simp [w3]; omega, ?_, ?_, ?_⟩
      · simp [w1, w2, w3]; omega
      · simp [w1, w2, w3]
      conv => whnf
      refine ⟨by simp, ?_, ?_, ?_⟩
      · simp; omega
      · simp
      conv => whnf
      refine fin5 _ _ (.arr true 5 (l.map encEnt)) ?_ ?_ ?_ ?_
      · have m1 : min k l.length = k := by omega
        have m2 : ((k : Int) + ((l.length + 1 - k : Nat) : Int)).toNat - k = l.length + 1 - k := by omega
        have m3 : min (l.length + 1 - k) 1 = 1 := by omega
        have m4 : [encEnt e].take (l.length + 1 - k) = [encEnt e] := List.take_of_length_le (by simp; omega)
        have m5 : ∀ x, min k (k + x) = k := fun x => by omega
        have m6 : ((k : Int) + (((k + (l.length + 1 - k) - (k + 1) : Nat) : Int) + 1)).toNat - (k + 1) = l.length - k := by omega
        have m7 : ((l.map encEnt).drop k).take (l.length - k) = (l.map encEnt).drop k := List.take_of_length_le (by simp)
        have m8 := ins_mid (l := l.map encEnt) (k := k) (z := [D.int IntKind.i64 0, D.int IntKind.i64 0, D.int IntKind.i64 0, D.int IntKind.i64 0, D.int IntKind.i64 0]) (e := encEnt e) (by simpa using hkl) (n := l.length + 1 - k) (by simp; omega)
        dsimp only
        have m9 : ∀ R : List (List D), ((l.map encEnt).take k ++ R).take k = (l.map encEnt).take k := fun R => by rw [List.take_append_of_le_length (by simp; omega), List.take_of_length_le (by simp; omega)]
        rw [m9] at m8
        simp at m8
        simp [w1, w2, w3, m1, m2, m3, m4, m5, m6, m7]
        exact m8
      · rfl
      · rfl
      · rfl
    · exfalso
      simp [w1] at h2
      omega
theorem delOk : DelOk := by
  intro l k h0 hk hl
  refine hcalls_forget ?_
  refine hspec tabOk Tryd.func73 (by kernel_rfl) false [13, 22, 25, 31] [] rfl ?_
  have w1 : (k + 1).toNat = k.toNat + 1 := by omega
  conv => whnf
  intro _
  refine ⟨?_, ?_, ?_, ?_, ?_, ?_⟩
  · simp
  · simp
  · simp; omega
  · simp; omega
  · simp; omega
  conv => whnf
  refine ⟨fun h => ?_, fun h => ?_⟩
  · omega
  conv => whnf
  intro _
  refine ⟨by simp, ?_, ?_, ?_⟩
  · simp; omega
  · simp; omega
  conv => whnf
  refine ⟨?_, ?_, ?_, ?_⟩
  · simp; omega
  · simp; omega
  · simp
  conv => whnf
  refine ⟨?_, ?_⟩
  · simp; omega
  conv => whnf
  intro _
  refine ⟨?_, ?_, ?_, ?_⟩
  · simp
  · simp; omega
  · simp; omega
  conv => whnf
  refine fin5 _ _ _ ?_ rfl ?_ ?_
  · have m1 : min k.toNat l.length = k.toNat := by omega
    have m2 : k.toNat + (l.length - (k.toNat + 1)) = l.length - 1 := by omega
    have m3 : min (l.length - 1) (k.toNat + (l.length - (k.toNat + 1) + (l.length - (l.length - 1)))) = l.length - 1 := by omega
    have m4 : ((l.map encEnt).drop (k.toNat + 1)).take (l.length - (k.toNat + 1)) = (l.map encEnt).drop (k.toNat + 1) := List.take_of_length_le (by simp)
    have m5 : ∀ C : List (List D), ((l.map encEnt).take k.toNat ++ ((l.map encEnt).drop (k.toNat + 1) ++ C)).take (l.length - 1) = (l.map encEnt).take k.toNat ++ (l.map encEnt).drop (k.toNat + 1) := fun C => by
      rw [← List.append_assoc, List.take_append_of_le_length (by simp; omega), List.take_of_length_le (by simp; omega)]
    dsimp only
    simp [w1, m1, m2, m3, m4, m5]
  · rfl
  · rfl
end Go.Proofs.YtdfneaponidfgaaDoor
/- What the reference shows to a figure. -/
set_option linter.unusedVariables false
set_option maxRecDepth 10000
namespace Go.Proofs.YtdfneaponidfgaaDoor
open Go Eng

theorem inB_neg (a b : Int) : inB (a - b) (-1) 1 = inB (b - a) (-1) 1 := by
  rw [Bool.eq_iff_iff, inB_t, inB_t]; omega
abbrev hq6 (a b c : Bool) (g : Game) (me : Ent) (v : V) (fl : List (List D)) : HP := [(2, .box [.d (dEnts a g.ents), .d (dInts b g.floor), .d (dInts c g.last)]), (4, .box [.d (.slc true 5 []), .d (.slc true 1 []), .d (.slc true 1 [])]), (6, .box [vi me.client, vi me.x, vi me.y, vi me.life, vi me.gold]),
     (7, .box [v, .own 30, .own 34]), (30, .arr false 1 fl), (34, .arr false 1 (g.last.map encI))]
def TI9 (a b c : Bool) (g : Game) (me : Ent) (x : SIn) : SL :=
  match x.es with
  | [] => ⟨[(2, .ref 2 0 0 0), (4, .ref 4 0 0 0), (6, .ref 6 0 0 0), (7, .ref 7 0 0 0), (9, vi x.i)], hq6 a b c g me (.d (.slc true 5 [])) ((hid me g.floor g.floor.length).map encI)⟩
  | r :: rs => ⟨[(2, .ref 2 0 0 0), (4, .ref 4 0 0 0), (6, .ref 6 0 0 0), (7, .ref 7 0 0 0), (9, vi x.i)], hq6 a b c g me (.osl 83 5 ((r :: rs).map encEnt)) ((hid me g.floor g.floor.length).map encI) ++ [(83, .grow 5 (rs.length + 1))]⟩
noncomputable def seeS (a b c : Bool) (g : Game) (cl : Int) : V :=
  if okG g = true ∧ 0 ≤ atF g.ents cl then .tup [vGame (seen (entAt g.ents (atF g.ents cl)) g.ents).isEmpty false false (seeF (entAt g.ents (atF g.ents cl)) g), vb true]
  else .tup [vGame true true true ⟨[], [], []⟩, vb false]

end Go.Proofs.YtdfneaponidfgaaDoor
/- What the laws' comparisons compute. -/
set_option linter.unusedVariables false
set_option maxRecDepth 10000
namespace Go.Proofs.YtdfneaponidfgaaDoor
open Go Eng

open Classical in
noncomputable def eqI (l m : List Int) : Bool := decide (l = m)
theorem eqI_t {l m : List Int} : eqI l m = true ↔ l = m := by simp [eqI]
theorem eqI_self (l : List Int) : eqI l l = true := eqI_t.2 rfl
theorem eqI_f {l m : List Int} (h : l ≠ m) : eqI l m = false := by
  cases hb : eqI l m with
  | false => rfl
  | true => exact absurd (eqI_t.1 hb) h
def entB (e f : Ent) : Bool := (e.client == f.client) && ((e.x == f.x) && ((e.y == f.y) && ((e.life == f.life) && (e.gold == f.gold))))
theorem entB_t {e f : Ent} : entB e f = true ↔ e = f := by
  cases e; cases f
  simp [entB]
open Classical in
noncomputable def eqE (l m : List Ent) : Bool := decide (l = m)
noncomputable def eqG (g h : Game) : Bool := eqE g.ents h.ents && (eqI g.floor h.floor && eqI g.last h.last)
theorem eqE_t {l m : List Ent} : eqE l m = true ↔ l = m := by simp [eqE]
theorem eqE_f {l m : List Ent} (h : l ≠ m) : eqE l m = false := by
  cases hb : eqE l m with
  | false => rfl
  | true => exact absurd (eqE_t.1 hb) h
theorem eqG_self (g : Game) : eqG g g = true := by simp [eqG, eqI_self, eqE]
end Go.Proofs.YtdfneaponidfgaaDoor
/- The program's moves and the reference's are the same; lists of asks are compared. -/
set_option linter.unusedVariables false
set_option linter.unusedSimpArgs false
set_option maxRecDepth 10000
namespace Go.Proofs.YtdfneaponidfgaaDoor
open Go Eng

theorem drop_same {x y : GV} (h : x.g = y.g) (k : Int) : (dropV x k).g = (dropV y k).g := by
  simp only [dropV, h]
theorem hit_same {x y : GV} (h : x.g = y.g) (k n : Int) : (hitV x k n).1.g = (hitV y k n).1.g ∧ (hitV x k n).2 = (hitV y k n).2 := by
  unfold hitV
  rw [h]
  split
  · exact ⟨h, rfl⟩
  · refine ⟨?_, rfl⟩
    dsimp only
    split
    · exact drop_same (by simp only) n
    · rfl
theorem act_same {x y : GV} (h : x.g = y.g) (k : Int) (r : Req) : (actV x k r).1.g = (actV y k r).1.g ∧ (actV x k r).2 = (actV y k r).2 := by
  unfold actV
  rw [h]
  dsimp only
  split
  · split
    · exact ⟨h, rfl⟩
    · exact ⟨rfl, rfl⟩
  · split
    · split
      · exact ⟨h, rfl⟩
      · exact ⟨rfl, rfl⟩
    · split
      · exact hit_same h _ _
      · split
        · exact ⟨h, rfl⟩
        · split
          · exact ⟨h, rfl⟩
          · exact ⟨rfl, rfl⟩
theorem step_same {x y : GV} (h : x.g = y.g) (r : Req) : (stepV x r).1.g = (stepV y r).1.g ∧ (stepV x r).2 = (stepV y r).2 := by
  unfold stepV
  rw [h]
  split
  · split
    · exact ⟨h, rfl⟩
    · exact ⟨rfl, rfl⟩
  · split
    · exact ⟨h, rfl⟩
    · exact act_same h _ _
theorem do_same (a b c : Bool) (g : Game) (r : Req) : doI g r = ((doV ⟨a, b, c, g⟩ r).1.g, (doV ⟨a, b, c, g⟩ r).2) := by
  unfold doI doV
  dsimp only
  split
  · rfl
  · split
    · rfl
    · have h := step_same (x := ⟨true, true, true, noted g r⟩) (y := ⟨a, b, false, noted g r⟩) rfl r
      have e : (if r.op = 1 then if 0 ≤ atF g.ents r.client then ((⟨a, b, false, ⟨g.ents, g.floor, g.last.set (r.client - 1).toNat r.num⟩⟩ : GV), (4 : Int)) else (⟨false, b, false, ⟨joinF g.ents r.client, g.floor, g.last.set (r.client - 1).toNat r.num⟩⟩, 0)
          else if atF g.ents r.client < 0 then (⟨a, b, false, ⟨g.ents, g.floor, g.last.set (r.client - 1).toNat r.num⟩⟩, 5) else actV ⟨a, b, false, ⟨g.ents, g.floor, g.last.set (r.client - 1).toNat r.num⟩⟩ (atF g.ents r.client) r) = stepV ⟨a, b, false, noted g r⟩ r := rfl
      rw [e, h.1, h.2]

def reqB (e f : Req) : Bool := (e.client == f.client) && ((e.num == f.num) && ((e.op == f.op) && ((e.x == f.x) && (e.y == f.y))))
theorem reqB_t {e f : Req} : reqB e f = true ↔ e = f := by
  cases e; cases f
  simp [reqB]
open Classical in
noncomputable def eqR (l m : List Req) : Bool := decide (l = m)
theorem eqR_t {l m : List Req} : eqR l m = true ↔ l = m := by simp [eqR]
theorem eqR_self (l : List Req) : eqR l l = true := eqR_t.2 rfl
theorem eqR_f {l m : List Req} (h : l ≠ m) : eqR l m = false := by
  cases hb : eqR l m with
  | false => rfl
  | true => exact absurd (eqR_t.1 hb) h
end Go.Proofs.YtdfneaponidfgaaDoor
/- The program's new game, its fold of asks, and the two checks of a list of asks. -/
set_option linter.unusedVariables false
set_option linter.unusedSimpArgs false
set_option maxRecDepth 10000
namespace Go.Proofs.YtdfneaponidfgaaDoor
open Go Eng

theorem newI_ok : ACalls Tryd.prog G0 34 [] (· = newV.v) := by
  refine spec_intro tabOk Tryd.func34 (by kernel_rfl) rfl ?_
  conv => whnf
  refine ⟨rfl, by omega, by decide, by omega, ?_⟩
  conv => whnf
  refine ⟨rfl, by omega, by decide, by omega, ?_⟩
  conv => whnf
  let P : Nat → Prop := fun i => True
  let I : Nat → SL := fun i => ⟨[(0, .ref 0 0 0 0), (1, .ref 1 0 0 0), (6, vi i)], [(0, .box [.d (.slc true 5 []), .d (.slc true 1 []), .d (.slc true 1 [])]), (1, .box [.d (.slc true 5 []), .own 3, .own 4]), (3, .arr true 1 ((newFl i).map encI)), (4, .arr true 1 ((List.replicate 4 0).map encI))]⟩
  refine loop_up 20 P I trivial ?_ ?_
  · refine ⟨?_, ?_, rfl⟩ <;> repeat' (first | exact weakSl_nil | exact weakHp_nil | refine weakSl_cons ?_ rfl ?_ | refine weakHp_cons ?_ rfl ?_)
    all_goals rfl
  intro i hi _
  conv => whnf
  refine ⟨fun hlt => ?_, fun hge => ?_⟩ <;> conv => whnf
  · have hl := newFl_len i
    have hL : (((newFl i).map encI).length : Int) = 16 := by simp [hl]
    refine ⟨by rw [hL]; omega, ?_⟩
    conv => whnf
    have wi : IntKind.i64.wrap (5 * (i : Int)) = (i : Int) * 5 := by rw [wrap_id (by omega) (by omega)]; omega
    have q1 := Int.tmod_nonneg (16 : Int) (a := (i : Int) * 5) (by omega)
    have q2 := Int.tmod_lt_of_pos ((i : Int) * 5) (b := 16) (by omega)
    have hr := newFl_range i _ _ (intAt_get (l := newFl i) (k := ((i : Int) * 5).tmod 16) (by omega))
    refine ⟨by rw [wi, hL]; exact q1, by rw [wi, hL]; simp; omega, ?_⟩
    conv => whnf
    refine ⟨encI (intAt (newFl i) (((i : Int) * 5).tmod 16)), by rw [wi, hL]; exact intAt_row q1 (by omega), ?_⟩
    conv => whnf
    refine ⟨by rw [wi, hL]; exact q1, by rw [wi, hL]; simp; omega, ?_⟩
    conv => whnf
    refine ⟨encI (intAt (newFl i) (((i : Int) * 5).tmod 16)), by rw [wi, hL]; exact intAt_row q1 (by omega), ?_⟩
    conv => whnf
    refine up_next (by omega) trivial ⟨weakSl_cons rfl rfl (weakSl_cons rfl rfl (weakSl_cons (wrap_succ (by omega)) rfl weakSl_nil)), weakHp_cons rfl rfl (weakHp_cons rfl rfl (weakHp_cons ?_ rfl (weakHp_cons rfl rfl weakHp_nil))), rfl⟩
    refine congrArg (Obj.arr true 1) ?_
    rw [wi, hL, wrap_id (by omega) (by omega)]
    exact set_row rfl
  have hin : i = 20 := by omega
  subst hin
  rfl

def okN (r : Req) : Bool := reqNone r || okR r
def okL (l : List Req) : Bool := l.all okN
theorem okN_t {r : Req} (h : okN r = true) : reqNone r = true ∨ okR r = true := by simpa [okN] using h
theorem okN_in {r : Req} (h : okN r = true) : ReqOk r := by
  rcases okN_t h with h | h
  · have := of_decide_eq_true h
    exact ⟨by omega, by omega, .inl h⟩
  · have h2 := okR_all h
    simp only [okR, Bool.and_eq_true] at h
    have h3 := h.2.2
    refine ⟨?_, ?_, .inr ⟨h2.1, h2.2.1, h2.2.2.2.1, h2.2.2.2.2⟩⟩ <;>
    · split at h3
      · simp only [Bool.and_eq_true, decide_eq_true_eq] at h3; omega
      split at h3
      · simp only [Bool.and_eq_true, inB_t] at h3; omega
      split at h3
      · simp only [Bool.and_eq_true, inB_t, decide_eq_true_eq] at h3; omega
      split at h3
      · simp only [Bool.and_eq_true, inB_t] at h3; omega
      · simp at h3

/-- The game after the asks. -/
def foldI (g : Game) (l : List Req) : Game := l.foldl (fun g r => (doI g r).1) g
theorem foldI_good {l : List Req} : ∀ {g : Game}, Good g → (∀ r ∈ l, okN r = true) → Good (foldI g l) := by
  induction l with
  | nil => intro g hg _; exact hg
  | cons r l ih => intro g hg h; exact ih (good_doI hg (okN_t (h r List.mem_cons_self))) fun q hq => h q (List.mem_cons_of_mem _ hq)
theorem foldI_succ {g : Game} {l : List Req} {i : Nat} {r : Req} (h : l[i]? = some r) : foldI g (l.take (i + 1)) = (doI (foldI g (l.take i)) r).1 := by
  unfold foldI
  rw [List.take_add_one, h]
  simp
theorem foldV_I (l : List Req) : (foldV l).g = foldI newG l := by
  have : ∀ (l : List Req) (x : GV), (l.foldl (fun x r => (doV x r).1) x).g = l.foldl (fun g r => (doI g r).1) x.g := by
    intro l
    induction l with
    | nil => intro x; rfl
    | cons r l ih =>
      intro x
      rw [List.foldl_cons, List.foldl_cons, ih, show doI x.g r = _ from do_same x.a x.b x.c x.g r]
  exact this l newV

theorem played_ok (f : Bool) (g : Game) (hg : Good g) (l : List Req) (h : ∀ r ∈ l, okN r = true) : ACalls Tryd.prog G0 33 [vGame true true true g, .d (.slc f 5 (l.map encReq))] (· = vGame true true true (foldI g l)) := by
  refine spec_intro tabOk Tryd.func33 (by kernel_rfl) rfl ?_
  conv => whnf
  intro hlen
  have hlen := le_map hlen
  let X : Nat → Game := fun i => foldI g (l.take i)
  let I : Nat → SL := fun i => ⟨[(2, .ref 2 0 0 0), (4, .ref 4 0 0 0), (7, .d (.slc f 5 (l.map encReq))), (8, vi (l.map encReq).length), (9, vi i)], [(2, .box [.d (dEnts true (X i).ents), .d (dInts true (X i).floor), .d (dInts true (X i).last)]), (4, .box [.d (.slc true 5 []), .d (.slc true 1 []), .d (.slc true 1 [])])]⟩
  refine loop_up l.length (fun _ => True) I trivial ?_ ?_
  · refine ⟨?_, ?_, rfl⟩ <;> repeat' (first | exact weakSl_nil | exact weakHp_nil | refine weakSl_cons ?_ rfl ?_ | refine weakHp_cons ?_ rfl ?_)
    all_goals rfl
  intro i hi _
  conv => whnf
  refine ⟨fun hlt => ?_, fun hge => ?_⟩ <;> conv => whnf
  · have hlt := lt_map hlt
    refine (entsAt hlt).elim fun r hr => ?_
    refine ⟨by omega, encReq r, row_map hr, ?_⟩
    conv => whnf
    have hrm := h r (List.mem_of_getElem? hr)
    have hx : Good (X i) := foldI_good hg fun q hq => h q (List.mem_of_mem_take hq)
    have hd : gdo (X i) r = .tup [vGame true true true (doI (X i) r).1, vi (doI (X i) r).2] := by
      rw [gdo, if_pos ⟨okG_t (good_ok hx), okN_t hrm⟩]
    refine call_eq' (hd ▸ gameDo_eq insOk delOk true true true (X i) r) rfl ?_
    conv => whnf
    refine up_next hlt trivial ⟨weakSl_cons rfl rfl (weakSl_cons rfl rfl (weakSl_cons rfl rfl (weakSl_cons rfl rfl (weakSl_cons (wrap_succ (by omega)) rfl weakSl_nil)))), weakHp_cons ?_ rfl (weakHp_cons rfl rfl weakHp_nil), rfl⟩
    have hx : X (i + 1) = (doI (X i) r).1 := foldI_succ hr
    exact congrArg (fun z : Game => Obj.box [.d (dEnts true z.ents), .d (dInts true z.floor), .d (dInts true z.last)]) hx.symm
  have hin := ge_map hge hi
  subst hin
  have hx : X l.length = foldI g l := by show foldI g (l.take l.length) = _; rw [List.take_length]
  exact congrArg (vGame true true true) hx

theorem notOk_ok (r : Req) : ACalls Tryd.prog G0 39 [vReq r] (· = vb (!okN r)) := by
  refine spec_intro tabOk Tryd.func39 (by kernel_rfl) rfl ?_
  conv => whnf
  refine call_eq (orNull_ok r) ?_
  conv => whnf
  rfl
theorem indexR_ok (f : Bool) (l : List Req) : ACalls Tryd.prog G0 54 [.d (.slc f 5 (l.map encReq)), .d (.fn 39 [])] (fun r => ∃ k, r = vi k ∧ (0 ≤ k ↔ ∃ n ∈ l, okN n = false)) := by
  refine spec_intro tabOk Tryd.func54 (by kernel_rfl) rfl ?_
  conv => whnf
  intro hlen
  have hlen := le_map hlen
  let P : Nat → Prop := fun i => ∀ (j : Nat) n, j < i → l[j]? = some n → okN n = true
  let I : Nat → SL := fun i => ⟨[(0, .d (.slc f 5 (l.map encReq))), (1, .d (.fn 39 [])), (7, vi (l.map encReq).length), (8, vi i)], []⟩
  refine loop_up l.length P I (by intro j n h; omega) ?_ ?_
  · refine ⟨?_, ?_, rfl⟩ <;> repeat' (first | exact weakSl_nil | exact weakHp_nil | refine weakSl_cons ?_ rfl ?_ | refine weakHp_cons ?_ rfl ?_)
    all_goals rfl
  intro i hi hP
  conv => whnf
  refine ⟨fun hlt => ?_, fun hge => ?_⟩ <;> conv => whnf
  · have hlt := lt_map hlt
    refine (entsAt hlt).elim fun n hn => ?_
    refine ⟨by omega, encReq n, row_map hn, ?_⟩
    conv => whnf
    refine call_bool (notOk_ok n) (fun h => ?_) (fun h => ?_) <;> conv => whnf
    · exact ⟨(i : Nat), rfl, ⟨fun _ => ⟨n, List.mem_of_getElem? hn, by simpa using h⟩, fun _ => by omega⟩⟩
    · exact up_next hlt (fun j x hj hx => by
        by_cases hji : j = i
        · subst hji; rw [hn] at hx; injection hx with hx; subst hx; simpa using h
        · exact hP j x (by omega) hx) ⟨weakSl_cons rfl rfl (weakSl_cons rfl rfl (weakSl_cons rfl rfl (weakSl_cons (wrap_succ (by omega)) rfl weakSl_nil))), weakHp_nil, rfl⟩
  have hin := ge_map hge hi
  subst hin
  refine ⟨-1, rfl, ⟨fun h => by omega, fun ⟨n, hn, h⟩ => ?_⟩⟩
  obtain ⟨j, hj⟩ := List.mem_iff_getElem?.1 hn
  rw [hP j n (List.getElem?_eq_some_iff.1 hj).1 hj] at h
  simp at h
theorem okL_f {l : List Req} : okL l = false ↔ ∃ n ∈ l, okN n = false := by simp [okL]
theorem containsR_ok (f : Bool) (l : List Req) : ACalls Tryd.prog G0 38 [.d (.slc f 5 (l.map encReq)), .d (.fn 39 [])] (· = vb (!okL l)) := by
  refine spec_intro tabOk Tryd.func38 (by kernel_rfl) rfl ?_
  conv => whnf
  refine ⟨_, indexR_ok f l, fun r ⟨k, hr, hk⟩ => ?_⟩
  subst hr
  conv => whnf
  refine ⟨fun h => ?_, fun h => ?_⟩ <;> conv => whnf
  · refine congrArg vb ?_
    rw [okL_f.2 (hk.1 h)]; rfl
  · refine congrArg vb ?_
    cases hb : okL l with
    | true => rfl
    | false => exact absurd (hk.2 (okL_f.1 hb)) h
theorem allOk_ok (f : Bool) (l : List Req) : ACalls Tryd.prog G0 24 [.d (.slc f 5 (l.map encReq))] (· = vb (okL l)) := by
  refine spec_intro tabOk Tryd.func24 (by kernel_rfl) rfl ?_
  conv => whnf
  refine call_eq (containsR_ok f l) ?_
  conv => whnf
  refine congrArg vb ?_
  simp

theorem foldI_ok (f : Bool) (l : List Req) (hl : l.length ≤ 60) (h : okL l = true) : ACalls Tryd.prog G0 14 [.d (.slc f 5 (l.map encReq))] (· = vGame true true true (foldI newG l)) := by
  have hL : ((l.map encReq).length : Int) ≤ 60 := by simp; omega
  refine spec_intro tabOk Tryd.func14 (by kernel_rfl) rfl ?_
  conv => whnf
  intro _
  conv => whnf
  refine ⟨fun h1 => absurd h1 (by omega), fun _ => ?_⟩
  conv => whnf
  refine call_eq (allOk_ok f l) ?_
  rw [h]
  conv => whnf
  refine call_eq newI_ok ?_
  conv => whnf
  refine call_eq' (played_ok f newG good_new l (by simpa [okL] using h)) rfl ?_
  conv => whnf
  rfl
end Go.Proofs.YtdfneaponidfgaaDoor
/- The checksum, by the program (32-bit words) and by the reference (whole numbers). -/
set_option linter.unusedVariables false
set_option linter.unusedSimpArgs false
set_option maxRecDepth 10000
namespace Go.Proofs.YtdfneaponidfgaaDoor
open Go Eng

def bitN (x : Nat) : Nat := if x % 2 = 1 then (x / 2) ^^^ 3988292384 else x / 2
def bitsN : Nat → Nat → Nat
  | 0, x => x
  | k + 1, x => bitN (bitsN k x)
def byteN (x : Nat) (b : UInt8) : Nat := bitsN 8 (x ^^^ b.toNat)
def crcN (l : List UInt8) : Nat := l.foldl byteN 4294967295
def crcF (l : List UInt8) : Int := (crcN l ^^^ 4294967295 : Nat)

theorem xor_lt {a b : Nat} (ha : a < 4294967296) (hb : b < 4294967296) : a ^^^ b < 4294967296 := Nat.xor_lt_two_pow (n := 32) ha hb
theorem bitN_lt {x : Nat} (h : x < 4294967296) : bitN x < 4294967296 := by
  unfold bitN
  split
  · exact xor_lt (by omega) (by omega)
  · omega
theorem bitsN_lt {x : Nat} (h : x < 4294967296) : ∀ k, bitsN k x < 4294967296
  | 0 => h
  | k + 1 => bitN_lt (bitsN_lt h k)
theorem byte_lt (b : UInt8) : b.toNat < 256 := by have := UInt8.toNat_lt b; omega
theorem byteN_lt {x : Nat} (h : x < 4294967296) (b : UInt8) : byteN x b < 4294967296 := bitsN_lt (xor_lt h (by have := byte_lt b; omega)) 8
theorem crcN_lt (l : List UInt8) : crcN l < 4294967296 := by
  have : ∀ (l : List UInt8) (x : Nat), x < 4294967296 → l.foldl byteN x < 4294967296 := by
    intro l
    induction l with
    | nil => intro x h; exact h
    | cons b l ih => intro x h; exact ih _ (byteN_lt h b)
  exact this l _ (by omega)
theorem crcN_succ {l : List UInt8} {i : Nat} {b : UInt8} (h : l[i]? = some b) : crcN (l.take (i + 1)) = byteN (crcN (l.take i)) b := by
  unfold crcN
  rw [List.take_add_one, h]
  simp

theorem wrap32 {n : Int} (h0 : 0 ≤ n) (h : n < 4294967296) : IntKind.u32.wrap n = n := by
  simp only [IntKind.wrap, IntKind.bits, IntKind.signed]; simp; omega
theorem ofInt_nat {w n : Nat} (h : n < 2 ^ w) : (BitVec.ofInt w (n : Int)).toNat = n := by
  rw [BitVec.ofInt_natCast, BitVec.toNat_ofNat, Nat.mod_eq_of_lt h]
theorem xor64 {a b : Nat} (ha : a < 4294967296) (hb : b < 4294967296) : IntKind.i64.wrap ((BitVec.ofInt IntKind.i64.bits (a : Int) ^^^ BitVec.ofInt IntKind.i64.bits (b : Int)).toNat) = ((a ^^^ b : Nat) : Int) := by
  have := xor_lt ha hb
  have e : (2 : Nat) ^ IntKind.i64.bits = 18446744073709551616 := rfl
  rw [BitVec.toNat_xor, ofInt_nat (by rw [e]; omega), ofInt_nat (by rw [e]; omega), wrap_id (by omega) (by omega)]
theorem xor32 {a b : Nat} (ha : a < 4294967296) (hb : b < 4294967296) : IntKind.u32.wrap ((BitVec.ofInt IntKind.u32.bits (a : Int) ^^^ BitVec.ofInt IntKind.u32.bits (b : Int)).toNat) = ((a ^^^ b : Nat) : Int) := by
  have := xor_lt ha hb
  have e : (2 : Nat) ^ IntKind.u32.bits = 4294967296 := rfl
  rw [BitVec.toNat_xor, ofInt_nat (by rw [e]; omega), ofInt_nat (by rw [e]; omega), wrap32 (by omega) (by omega)]
theorem and32 {a : Nat} (ha : a < 4294967296) : IntKind.u32.wrap ((BitVec.ofInt IntKind.u32.bits (a : Int) &&& BitVec.ofInt IntKind.u32.bits 1).toNat) = ((a % 2 : Nat) : Int) := by
  have e : (2 : Nat) ^ IntKind.u32.bits = 4294967296 := rfl
  rw [BitVec.toNat_and, ofInt_nat (by rw [e]; omega), show (BitVec.ofInt IntKind.u32.bits 1).toNat = 1 from rfl, Nat.and_one_is_mod, wrap32 (by omega) (by omega)]
theorem shr32 (a : Nat) : (a : Int).fdiv (2 ^ (min (1 : Int).toNat IntKind.u32.bits)) = ((a / 2 : Nat) : Int) := by
  rw [show (2 : Int) ^ (min (1 : Int).toNat IntKind.u32.bits) = 2 from rfl, Int.fdiv_eq_ediv_of_nonneg _ (by omega)]
  omega
theorem byte_bs {l : List UInt8} {i : Nat} {b : UInt8} (h : l[i]? = some b) : byteAt (bs l) (i : Int) = (b.toNat : Int) := by
  simp [byteAt, bs, h]
def wi (k : IntKind) (n : Nat) : V := .d (.int k (n : Int))

theorem crcI_ok (l : List UInt8) (hl : l.length ≤ 1000000) : ACalls Tryd.prog G0 12 [vs l] (· = vi (crcF l)) := by
  refine spec_intro tabOk Tryd.func12 (by kernel_rfl) rfl ?_
  conv => whnf
  let I1 : Nat → SL := fun i => ⟨[(0, vs l), (3, wi .u32 (crcN (l.take i))), (4, vi i)], []⟩
  refine loop_up l.length (fun _ => True) I1 trivial ?_ ?_
  · refine ⟨?_, ?_, rfl⟩ <;> repeat' (first | exact weakSl_nil | exact weakHp_nil | refine weakSl_cons ?_ rfl ?_ | refine weakHp_cons ?_ rfl ?_)
    all_goals rfl
  rintro i hi -
  conv => whnf
  refine ⟨fun hlt => ?_, fun hge => ?_⟩ <;> conv => whnf
  · have hlt : i < l.length := by rw [bs_size] at hlt; omega
    obtain ⟨b, hb⟩ : ∃ b, l[i]? = some b := ⟨_, List.getElem?_eq_getElem hlt⟩
    refine ⟨by omega, by rw [bs_size]; omega, ?_⟩
    conv => whnf
    have hX := crcN_lt (l.take i)
    generalize hXe : crcN (l.take i) = X at hX
    have hbl := byte_lt b
    have hy : X ^^^ b.toNat < 4294967296 := xor_lt hX (by omega)
    let I2 : Nat → SL := fun j => ⟨[(0, vs l), (3, wi .u32 (bitsN j (X ^^^ b.toNat))), (4, vi i), (18, vi j)], []⟩
    refine loop_up 8 (fun _ => True) I2 trivial ?_ ?_
    · refine ⟨?_, ?_, rfl⟩ <;> repeat' (first | exact weakSl_nil | exact weakHp_nil | refine weakSl_cons ?_ rfl ?_ | refine weakHp_cons ?_ rfl ?_)
      · rfl
      · refine congrArg (fun n => V.d (.int .u32 n)) ?_
        show IntKind.u32.wrap ((BitVec.ofInt IntKind.u32.bits (X : Int) ^^^ BitVec.ofInt IntKind.u32.bits (IntKind.u32.wrap (byteAt (bs l) (i : Int)))).toNat) = _
        rw [byte_bs hb, wrap32 (n := (b.toNat : Int)) (by omega) (by omega)]
        exact xor32 hX (by omega)
      all_goals rfl
    rintro j hj -
    have hz := bitsN_lt hy j
    conv => whnf
    refine ⟨fun hlt2 => ?_, fun hge2 => ?_⟩ <;> conv => whnf
    · refine ⟨by decide, ?_⟩
      conv => whnf
      refine ⟨fun h1 => ?_, fun h1 => ?_⟩ <;> conv => whnf
      · have h1 : IntKind.u32.wrap ((BitVec.ofInt IntKind.u32.bits (bitsN j (X ^^^ b.toNat) : Int) &&& BitVec.ofInt IntKind.u32.bits 1).toNat) = 1 := h1
        rw [and32 hz] at h1
        refine up_next (by omega) trivial ?_
        refine ⟨?_, ?_, rfl⟩ <;> repeat' (first | exact weakSl_nil | exact weakHp_nil | refine weakSl_cons ?_ rfl ?_ | refine weakHp_cons ?_ rfl ?_)
        · rfl
        · refine congrArg (fun n => V.d (.int .u32 n)) ?_
          show IntKind.u32.wrap ((BitVec.ofInt IntKind.u32.bits ((bitsN j (X ^^^ b.toNat) : Int).fdiv (2 ^ (min (1 : Int).toNat IntKind.u32.bits))) ^^^ BitVec.ofInt IntKind.u32.bits ((3988292384 : Nat) : Int)).toNat) = _
          rw [shr32]
          refine (xor32 (by omega) (by omega)).trans ?_
          simp only [bitsN, bitN]
          rw [if_pos (by omega)]
        · rfl
        · exact wrap_succ (by omega)
      · have h1 : ¬ IntKind.u32.wrap ((BitVec.ofInt IntKind.u32.bits (bitsN j (X ^^^ b.toNat) : Int) &&& BitVec.ofInt IntKind.u32.bits 1).toNat) = 1 := h1
        rw [and32 hz] at h1
        refine up_next (by omega) trivial ?_
        refine ⟨?_, ?_, rfl⟩ <;> repeat' (first | exact weakSl_nil | exact weakHp_nil | refine weakSl_cons ?_ rfl ?_ | refine weakHp_cons ?_ rfl ?_)
        · rfl
        · refine congrArg (fun n => V.d (.int .u32 n)) ?_
          show (bitsN j (X ^^^ b.toNat) : Int).fdiv (2 ^ (min (1 : Int).toNat IntKind.u32.bits)) = _
          rw [shr32]
          simp only [bitsN, bitN]
          rw [if_neg (by omega)]
        · rfl
        · exact wrap_succ (by omega)
    · have hj8 : j = 8 := by omega
      subst hj8
      refine up_next hlt trivial ?_
      refine ⟨?_, ?_, rfl⟩ <;> repeat' (first | exact weakSl_nil | exact weakHp_nil | refine weakSl_cons ?_ rfl ?_ | refine weakHp_cons ?_ rfl ?_)
      · rfl
      · show wi .u32 (byteN X b) = wi .u32 (crcN (l.take (i + 1)))
        rw [crcN_succ hb, hXe]
      · exact wrap_succ (by omega)
  · have hil : i = l.length := by rw [bs_size] at hge; omega
    subst hil
    have hX := crcN_lt l
    refine congrArg vi ?_
    show IntKind.i64.wrap (IntKind.u32.wrap ((BitVec.ofInt IntKind.u32.bits ((4294967295 : Nat) : Int) ^^^ BitVec.ofInt IntKind.u32.bits (crcN (l.take l.length) : Int)).toNat)) = crcF l
    rw [List.take_length, xor32 (by omega) hX]
    have := xor_lt (a := 4294967295) (by omega) hX
    rw [wrap_id (by omega) (by omega), Nat.xor_comm]
    rfl

theorem crcS_ok (l : List UInt8) (hl : l.length ≤ 1000000) : ACalls Tryd.prog G0 18 [vs l] (· = vi (crcF l)) := by
  refine spec_intro tabOk Tryd.func18 (by kernel_rfl) rfl ?_
  conv => whnf
  let I1 : Nat → SL := fun i => ⟨[(0, vs l), (3, wi .i64 (crcN (l.take i))), (4, vi i)], []⟩
  refine loop_up l.length (fun _ => True) I1 trivial ?_ ?_
  · refine ⟨?_, ?_, rfl⟩ <;> repeat' (first | exact weakSl_nil | exact weakHp_nil | refine weakSl_cons ?_ rfl ?_ | refine weakHp_cons ?_ rfl ?_)
    all_goals rfl
  rintro i hi -
  conv => whnf
  refine ⟨fun hlt => ?_, fun hge => ?_⟩ <;> conv => whnf
  · have hlt : i < l.length := by rw [bs_size] at hlt; omega
    obtain ⟨b, hb⟩ : ∃ b, l[i]? = some b := ⟨_, List.getElem?_eq_getElem hlt⟩
    refine ⟨by omega, by rw [bs_size]; omega, ?_⟩
    conv => whnf
    have hX := crcN_lt (l.take i)
    generalize hXe : crcN (l.take i) = X at hX
    have hbl := byte_lt b
    have hy : X ^^^ b.toNat < 4294967296 := xor_lt hX (by omega)
    let I2 : Nat → SL := fun j => ⟨[(0, vs l), (3, wi .i64 (bitsN j (X ^^^ b.toNat))), (4, vi i), (5, vi j)], []⟩
    refine loop_up 8 (fun _ => True) I2 trivial ?_ ?_
    · refine ⟨?_, ?_, rfl⟩ <;> repeat' (first | exact weakSl_nil | exact weakHp_nil | refine weakSl_cons ?_ rfl ?_ | refine weakHp_cons ?_ rfl ?_)
      · rfl
      · refine congrArg (fun n => V.d (.int .i64 n)) ?_
        show IntKind.i64.wrap ((BitVec.ofInt IntKind.i64.bits (X : Int) ^^^ BitVec.ofInt IntKind.i64.bits (IntKind.i64.wrap (byteAt (bs l) (i : Int)))).toNat) = _
        rw [byte_bs hb, wrap_id (n := (b.toNat : Int)) (by omega) (by omega)]
        exact xor64 hX (by omega)
      all_goals rfl
    rintro j hj -
    have hz := bitsN_lt hy j
    conv => whnf
    refine ⟨fun hlt2 => ?_, fun hge2 => ?_⟩ <;> conv => whnf
    · refine ⟨by decide, ?_⟩
      conv => whnf
      have q1 : (bitsN j (X ^^^ b.toNat) : Int).tmod 2 = ((bitsN j (X ^^^ b.toNat) % 2 : Nat) : Int) := by rw [Int.tmod_eq_emod_of_nonneg (by omega)]; omega
      have q2 : IntKind.i64.wrap ((bitsN j (X ^^^ b.toNat) : Int).tdiv 2) = ((bitsN j (X ^^^ b.toNat) / 2 : Nat) : Int) := by rw [Int.tdiv_eq_ediv_of_nonneg (by omega), wrap_id (by omega) (by omega)]; omega
      refine ⟨fun h1 => ?_, fun h1 => ?_⟩ <;> conv => whnf
      · have h1 : (bitsN j (X ^^^ b.toNat) : Int).tmod 2 = 1 := h1
        rw [q1] at h1
        refine ⟨by decide, ?_⟩
        conv => whnf
        refine up_next (by omega) trivial ?_
        refine ⟨?_, ?_, rfl⟩ <;> repeat' (first | exact weakSl_nil | exact weakHp_nil | refine weakSl_cons ?_ rfl ?_ | refine weakHp_cons ?_ rfl ?_)
        · rfl
        · refine congrArg (fun n => V.d (.int .i64 n)) ?_
          show IntKind.i64.wrap ((BitVec.ofInt IntKind.i64.bits (IntKind.i64.wrap ((bitsN j (X ^^^ b.toNat) : Int).tdiv 2)) ^^^ BitVec.ofInt IntKind.i64.bits ((3988292384 : Nat) : Int)).toNat) = _
          rw [q2]
          refine (xor64 (by omega) (by omega)).trans ?_
          simp only [bitsN, bitN]
          rw [if_pos (by omega)]
        · rfl
        · exact wrap_succ (by omega)
      · have h1 : ¬ (bitsN j (X ^^^ b.toNat) : Int).tmod 2 = 1 := h1
        rw [q1] at h1
        refine ⟨by decide, ?_⟩
        conv => whnf
        refine up_next (by omega) trivial ?_
        refine ⟨?_, ?_, rfl⟩ <;> repeat' (first | exact weakSl_nil | exact weakHp_nil | refine weakSl_cons ?_ rfl ?_ | refine weakHp_cons ?_ rfl ?_)
        · rfl
        · refine congrArg (fun n => V.d (.int .i64 n)) ?_
          show IntKind.i64.wrap ((bitsN j (X ^^^ b.toNat) : Int).tdiv 2) = _
          rw [q2]
          simp only [bitsN, bitN]
          rw [if_neg (by omega)]
        · rfl
        · exact wrap_succ (by omega)
    · have hj8 : j = 8 := by omega
      subst hj8
      refine up_next hlt trivial ?_
      refine ⟨?_, ?_, rfl⟩ <;> repeat' (first | exact weakSl_nil | exact weakHp_nil | refine weakSl_cons ?_ rfl ?_ | refine weakHp_cons ?_ rfl ?_)
      · rfl
      · show wi .i64 (byteN X b) = wi .i64 (crcN (l.take (i + 1)))
        rw [crcN_succ hb, hXe]
      · exact wrap_succ (by omega)
  · have hil : i = l.length := by rw [bs_size] at hge; omega
    subst hil
    have hX := crcN_lt l
    refine congrArg vi ?_
    show IntKind.i64.wrap ((BitVec.ofInt IntKind.i64.bits (crcN (l.take l.length) : Int) ^^^ BitVec.ofInt IntKind.i64.bits ((4294967295 : Nat) : Int)).toNat) = crcF l
    rw [List.take_length, xor64 hX (by omega)]
    rfl
end Go.Proofs.YtdfneaponidfgaaDoor
/- A check of a list of asks, by the program and by the reference. -/
set_option linter.unusedVariables false
set_option linter.unusedSimpArgs false
set_option maxRecDepth 10000
namespace Go.Proofs.YtdfneaponidfgaaDoor
open Go Eng

def sumF (l : List Req) : Int := crcF (gameL (foldI newG l))
def vChk (c n s : Int) : V := .agg [vi c, vi n, vi s]
def chkG (c : Int) (l : List Req) (n : Int) : Bool := inB c 0 3 && (decide (l.length ≤ 60) && (inB n 0 5 && (decide (n ≤ l.length) && okL (l.take n.toNat))))
def chkV (c : Int) (l : List Req) (n : Int) : V := if chkG c l n = true then .tup [vChk c n (sumF (l.take n.toNat)), vb true] else .tup [vChk 0 0 0, vb false]
theorem chkV_t {c : Int} {l : List Req} {n : Int} (h : chkG c l n = true) : chkV c l n = .tup [vChk c n (sumF (l.take n.toNat)), vb true] := if_pos h
theorem chkV_f {c : Int} {l : List Req} {n : Int} (h : chkG c l n = false) : chkV c l n = .tup [vChk 0 0 0, vb false] := if_neg (by rw [h]; simp)
theorem game_len {g : Game} (h : Nums g) : (gameL g).length ≤ 200 := by
  have := acc_len h g.ents.length (Nat.le_refl _)
  rwa [List.take_length] at this

theorem keeper_ok (n : Int) : ACalls Tryd.prog G0 22 [vi n] (· = vb (inB n 0 3)) := by
  refine spec_intro tabOk Tryd.func22 (by kernel_rfl) rfl ?_
  conv => whnf
  refine call_eq (in_ok n 0 3) ?_
  conv => whnf
  rfl

theorem chkI_ok (f : Bool) (c : Int) (l : List Req) (n : Int) : ACalls Tryd.prog G0 8 [vi c, .d (.slc f 5 (l.map encReq)), vi n] (· = chkV c l n) := by
  refine spec_intro tabOk Tryd.func8 (by kernel_rfl) rfl ?_
  have no : chkG c l n = false → V.tup [.agg [vi 0, vi 0, vi 0], vb false] = chkV c l n := fun h => (chkV_f h).symm
  conv => whnf
  refine call_bool (keeper_ok c) (fun h1 => ?_) (fun h1 => ?_) <;> conv => whnf
  · intro _
    conv => whnf
    refine ⟨fun h2 => ?_, fun h2 => ?_⟩ <;> conv => whnf
    · exact no (by have : ¬ l.length ≤ 60 := by simp at h2; omega
                   simp [chkG, this])
    have h2 : l.length ≤ 60 := by simp at h2; omega
    intro _
    conv => whnf
    have hm : (if ((l.map encReq).length : Int) < 5 then ((l.map encReq).length : Int) else 5) = if l.length < 5 then (l.length : Int) else 5 := by
      simp only [List.length_map]
      split <;> split <;> omega
    refine call_bool' (in_ok n 0 (if l.length < 5 then (l.length : Int) else 5)) (by rw [← hm]; rfl) (fun h3 => ?_) (fun h3 => ?_) <;> conv => whnf
    · rw [inB_t] at h3
      have h4 : n ≤ l.length := by have := h3.2; split at this <;> omega
      have h5 : n ≤ 5 := by have := h3.2; split at this <;> omega
      have hN : (l.take n.toNat).length ≤ 60 := by rw [List.length_take]; omega
      refine ⟨h3.1, by rw [List.length_map]; exact h4, ?_⟩
      conv => whnf
      refine call_bool' (allOk_ok _ (l.take n.toNat)) (by rw [List.map_take]; rfl) (fun h6 => ?_) (fun h6 => ?_) <;> conv => whnf
      · have hg : Good (foldI newG (l.take n.toNat)) := foldI_good good_new (by simpa [okL] using h6)
        refine ⟨h3.1, by rw [List.length_map]; exact h4, ?_⟩
        conv => whnf
        refine call_eq' (foldI_ok _ (l.take n.toNat) hN h6) (by rw [List.map_take]; rfl) ?_
        conv => whnf
        refine call_eq' (put_ok true true true _ hg) rfl ?_
        conv => whnf
        refine call_eq (crcI_ok _ (by have := game_len (nums_of hg); omega)) ?_
        conv => whnf
        refine (?_ : V.tup [vChk c n (sumF (l.take n.toNat)), vb true] = chkV c l n)
        refine (chkV_t ?_).symm
        simp only [chkG, h1, h6, Bool.true_and, Bool.and_true, decide_eq_true h2, decide_eq_true h4, inB_t]
        omega
      · exact no (by simp [chkG, h6])
    · refine no ?_
      rw [inB_f] at h3
      have : ¬ (n ≤ (l.length : Int) ∧ 0 ≤ n ∧ n ≤ 5) := fun h => h3 ⟨h.2.1, by split <;> omega⟩
      cases hx : chkG c l n with
      | false => rfl
      | true =>
        simp only [chkG, Bool.and_eq_true, decide_eq_true_eq, inB_t] at hx
        exact absurd ⟨hx.2.2.2.1, hx.2.2.1⟩ this
  · exact no (by simp [chkG, h1])

theorem chkS_ok (f : Bool) (c : Int) (l : List Req) (n : Int) : ACalls Tryd.prog G0 6 [vi c, .d (.slc f 5 (l.map encReq)), vi n] (· = chkV c l n) := by
  refine spec_intro tabOk Tryd.func6 (by kernel_rfl) rfl ?_
  have no : chkG c l n = false → V.tup [.agg [vi 0, vi 0, vi 0], vb false] = chkV c l n := fun h => (chkV_f h).symm
  conv => whnf
  refine call_bool (l1In_ok c 0 3) (fun h1 => ?_) (fun h1 => ?_) <;> conv => whnf
  · refine call_bool (l1In_ok n 0 5) (fun h2 => ?_) (fun h2 => ?_) <;> conv => whnf
    · intro _
      conv => whnf
      refine ⟨fun h3 => ?_, fun h3 => ?_⟩ <;> conv => whnf
      · exact no (by have : ¬ n ≤ l.length := by simp at h3; omega
                     simp [chkG, this])
      have h3 : n ≤ l.length := by simp at h3; omega
      intro _
      conv => whnf
      refine ⟨fun h4 => ?_, fun h4 => ?_⟩ <;> conv => whnf
      · exact no (by have : ¬ l.length ≤ 60 := by simp at h4; omega
                     simp [chkG, this])
      have h4 : l.length ≤ 60 := by simp at h4; omega
      have h5 := inB_t.1 h2
      let P : Nat → Prop := fun i => ∀ (j : Nat) r, j < i → l[j]? = some r → okN r = true
      let I : Nat → SL := fun i => ⟨[(0, vi c), (1, .d (.slc f 5 (l.map encReq))), (2, vi n), (6, .ref 6 0 0 0), (7, vb false), (8, vi i)], [(6, .box [vi 0, vi 0, vi 0])]⟩
      refine loop_up n.toNat P I (by intro j n h; omega) ?_ ?_
      · refine ⟨?_, ?_, rfl⟩ <;> repeat' (first | exact weakSl_nil | exact weakHp_nil | refine weakSl_cons ?_ rfl ?_ | refine weakHp_cons ?_ rfl ?_)
        all_goals rfl
      intro i hi hP
      conv => whnf
      refine ⟨fun hlt => ?_, fun hge => ?_⟩ <;> conv => whnf
      · have hlt : i < n.toNat := by have hh : (i : Int) < n := hlt; omega
        have hil : i < l.length := by omega
        refine (entsAt hil).elim fun r hr => ?_
        have bad : okN r = false → chkG c l n = false := fun hb => by
          have : okL (l.take n.toNat) = false := okL_f.2 ⟨r, List.mem_of_getElem? (i := i) (by rw [List.getElem?_take, if_pos hlt]; exact hr), hb⟩
          simp [chkG, this]
        have good : okN r = true → P (i + 1) := fun hb j x hj hx => by
          by_cases hji : j = i
          · subst hji; rw [hr] at hx; injection hx with hx; subst hx; exact hb
          · exact hP j x (by omega) hx
        refine ⟨by omega, encReq r, row_map hr, ?_⟩
        conv => whnf
        refine call_bool (l1Ok_ok r) (fun h6 => ?_) (fun h6 => ?_) <;> conv => whnf
        · refine up_next hlt (good (by simp [okN, h6])) ?_
          refine ⟨?_, ?_, rfl⟩ <;> repeat' (first | exact weakSl_nil | exact weakHp_nil | refine weakSl_cons ?_ rfl ?_ | refine weakHp_cons ?_ rfl ?_)
          all_goals first | rfl | exact wrap_succ (by omega)
        · refine ⟨by omega, encReq r, row_map hr, ?_⟩
          conv => whnf
          refine call_bool (none_ok r) (fun h7 => ?_) (fun h7 => ?_) <;> conv => whnf
          · refine up_next hlt (good (by simp [okN, h7])) ?_
            refine ⟨?_, ?_, rfl⟩ <;> repeat' (first | exact weakSl_nil | exact weakHp_nil | refine weakSl_cons ?_ rfl ?_ | refine weakHp_cons ?_ rfl ?_)
            all_goals first | rfl | exact wrap_succ (by omega)
          · exact no (bad (by simp [okN, h6, h7]))
      · have hin : i = n.toNat := by have hh : ¬ (i : Int) < n := hge; omega
        have h6 : okL (l.take n.toNat) = true := by
          simp only [okL, List.all_eq_true]
          intro r hr
          obtain ⟨j, hj⟩ := List.mem_iff_getElem?.1 hr
          rw [List.getElem?_take] at hj
          split at hj
          · exact hP j r (by omega) hj
          · simp at hj
        have hR : ∀ r ∈ l.take n.toNat, okN r = true := by simpa [okL] using h6
        have hg : Good (foldI newG (l.take n.toNat)) := foldI_good good_new hR
        refine ⟨h5.1, by rw [List.length_map]; exact h3, ?_⟩
        conv => whnf
        refine call_eq' (fold_ok _ (l.take n.toNat) fun r hr => okN_in (hR r hr)) (by rw [List.map_take]; rfl) ?_
        conv => whnf
        refine call_eq' (put2_ok (foldV (l.take n.toNat)).a (foldV (l.take n.toNat)).b (foldV (l.take n.toNat)).c (foldV (l.take n.toNat)).g (by rw [foldV_I]; exact nums_of hg)) rfl ?_
        conv => whnf
        refine call_eq (crcS_ok _ (by rw [foldV_I]; have := game_len (nums_of hg); omega)) ?_
        conv => whnf
        refine (?_ : V.tup [vChk c n (crcF (gameL (foldV (l.take n.toNat)).g)), vb true] = chkV c l n)
        rw [foldV_I]
        refine (chkV_t ?_).symm
        simp only [chkG, h1, h2, h6, Bool.true_and, Bool.and_true, decide_eq_true h4, decide_eq_true h3]
    · exact no (by simp [chkG, h2])
  · exact no (by simp [chkG, h1])
end Go.Proofs.YtdfneaponidfgaaDoor
/- The asks that are drawn, as an array of the call's own. -/
set_option linter.unusedVariables false
set_option linter.unusedSimpArgs false
set_option maxRecDepth 10000
namespace Go.Proofs.YtdfneaponidfgaaDoor
open Go Eng

def RawR (full : Bool) (bs : List Int) (p' : Int) (list : List Req) (r : V) (l : HP) : Prop :=
  (list = [] ∧ r = .d (.slc true 5 []) ∧ l = Rd 1000 full bs p') ∨ (list ≠ [] ∧ r = .osl 66 5 (list.map encReq) ∧ l = Rd 1000 full bs p' ++ [(66, .grow 5 list.length)])
theorem reqsR_ok (full : Bool) (bs : List Int) (hb : Bytes bs) (p : Int) (h0 : 0 ≤ p) (h1 : p ≤ 1099511620000) (most : Int) (m0 : 0 ≤ most) (m1 : most ≤ 40) : HCalls Tryd.prog G0 27 (hpOf (Rd 1000 full bs p)) [.ref 1000 0 0 0, vi most]
    (fun r l => ∃ (list : List Req) (p' : Int), RawR full bs p' list r l ∧ (p ≤ p' ∧ p' ≤ p + 1000) ∧ list.length ≤ 40) := by
  refine hspec tabOk Tryd.func27 (by kernel_rfl) true [11] [28, 41] rfl ?_
  conv => whnf
  refine hcall_box (pick_ok full bs hb p _ h0 (by omega) 1000) rfl rfl rfl ⟨⟨trivial, trivial⟩, ?_⟩
  conv => whnf
  have wm : IntKind.i64.wrap (most + 1) = most + 1 := wrap_id (by omega) (by omega)
  have k1 := pick_range (n := most + 1) hb h0 (by omega)
  have hn0 : ((pickF bs p (most + 1)).toNat : Int) = pickF bs p (most + 1) := by omega
  refine ⟨{ x : DIn // DInv p x }, fun x => DI full bs x.1, fun x => x.1.n, ⟨⟨(pickF bs p (most + 1)).toNat, p + 1, [], [0, 0, 0]⟩, by simp; omega, by simp; omega, ⟨[], rfl, by simp⟩, rfl, by simp⟩, ?_, ?_⟩
  · refine ⟨?_, ?_, rfl⟩ <;> repeat' (first | exact weakSl_nil | exact weakHp_nil | refine weakSl_cons ?_ rfl ?_ | refine weakHp_cons ?_ rfl ?_)
    · rfl
    · rfl
    · rfl
    · exact congrArg vi (by rw [wm]; exact hn0.symm)
    · rfl
    · rfl
  have fin : ∀ (x : DIn) (s : St), DInv p x → s.hp 1000 = .box (rdC full bs x.p) → x.rows = [] → ∃ l, HRest s [1000] l ∧ okV (l.map (·.1)) (.d (.slc true 5 [])) = true ∧ ∃ (list : List Req) (p' : Int), RawR full bs p' list (.d (.slc true 5 [])) l ∧ (p ≤ p' ∧ p' ≤ p + 1000) ∧ list.length ≤ 40 := fun x s hx hs h0 => by
    have := hx.p
    have := hx.n
    exact ⟨Rd 1000 full bs x.p, ⟨weakHp_cons hs rfl weakHp_nil, rfl, rfl⟩, rfl, [], x.p, .inl ⟨rfl, rfl, rfl⟩, by omega, by simp⟩
  have finC : ∀ (x : DIn) (s : St) (r : List D) (rs : List (List D)), DInv p x → s.hp 1000 = .box (rdC full bs x.p) → x.rows = r :: rs → s.hp 66 = .grow 5 (rs.length + 1) → ∃ l, HRest s [1000] l ∧ okV (l.map (·.1)) (.osl 66 5 (r :: rs)) = true ∧ ∃ (list : List Req) (p' : Int), RawR full bs p' list (.osl 66 5 (r :: rs)) l ∧ (p ≤ p' ∧ p' ≤ p + 1000) ∧ list.length ≤ 40 := fun x s r rs hx hs h0 h66 => by
    obtain ⟨list, e1, e2⟩ := hx.list
    have := hx.p
    have := hx.n
    have hl : list.length = rs.length + 1 := by
      have : x.rows.length = list.length := by rw [e1]; simp
      rw [h0] at this; simpa using this.symm
    have hl2 : x.rows.length = rs.length + 1 := by rw [h0]; rfl
    refine ⟨Rd 1000 full bs x.p ++ [(66, .grow 5 (rs.length + 1))], ⟨weakHp_cons hs rfl (weakHp_cons h66 rfl weakHp_nil), rfl, rfl⟩, rfl, list, x.p, .inr ⟨?_, by rw [← h0, e1], by rw [hl]⟩, by omega, by omega⟩
    intro h
    rw [h] at hl; simp at hl
  rintro ⟨⟨n, p', rows, nums⟩, hinv⟩
  cases rows with
  | nil =>
    conv => whnf
    refine ⟨fun hn => ?_, fun hn => ?_⟩ <;> conv => whnf
    · have hn' : 0 < n := by have hh : (0 : Int) < n := hn; omega
      have hxn := hinv.n
      have hxp := hinv.p
      have hlen : nums.length = 3 := hinv.len
      have hnums : ∀ m ∈ nums, 0 ≤ m ∧ m ≤ 30 := hinv.nums
      simp only [List.length_nil, List.length_cons] at hxn hxp
      refine req_use hb (p := p') (by omega) (by omega) rfl (fun q p1 hp1 hq => ?_)
      refine ⟨⟨trivial, trivial⟩, ?_⟩
      conv => whnf
      have wc : IntKind.i64.wrap (q.client - 1) = q.client - 1 := wrap_id (by omega) (by omega)
      have hold := hnums _ (intAt_mem (l := nums) (k := q.client - 1) (by omega))
      have wn : IntKind.i64.wrap (intAt nums (q.client - 1) + 1) = intAt nums (q.client - 1) + 1 := wrap_id (by omega) (by omega)
      refine ⟨by rw [wc]; omega, by rw [wc]; simp; omega, ?_⟩
      conv => whnf
      refine ⟨encI (intAt nums (q.client - 1)), by rw [wc]; exact intAt_row (l := nums) (by omega) (by omega), ?_⟩
      conv => whnf
      refine ⟨fun h30 => ?_, fun h30 => ?_⟩ <;> conv => whnf
      · refine hcall_box (pick_ok full bs hb _ _ (by omega) (by omega) 1000) rfl rfl rfl ⟨⟨trivial, trivial⟩, ?_⟩
        conv => whnf
        refine ⟨fun h8 => ?_, fun h8 => ?_⟩ <;> conv => whnf
        · refine ⟨by rw [wc]; omega, by rw [wc]; simp; omega, ?_⟩
          conv => whnf
          refine ⟨encI (intAt nums (q.client - 1)), by rw [wc]; exact intAt_row (l := nums) (by omega) (by omega), ?_⟩
          conv => whnf
          refine ⟨by rw [wc]; omega, by rw [wc]; simp; omega, ?_⟩
          conv => whnf
          refine ⟨encI (intAt nums (q.client - 1)), by rw [wc]; exact intAt_row (l := nums) (by omega) (by omega), ?_⟩
          conv => whnf
          have hrow : (nums.map encI).set (IntKind.i64.wrap (q.client - 1)).toNat (encI (IntKind.i64.wrap (intAt nums (q.client - 1) + 1))) = (nums.set (q.client - 1).toNat (intAt nums (q.client - 1) + 1)).map encI := by rw [wc, wn]; exact set_row rfl
          have hset : ∀ m ∈ nums.set (q.client - 1).toNat (intAt nums (q.client - 1) + 1), 0 ≤ m ∧ m ≤ 30 := fun m hm => by
            rcases mem_set hm with rfl | hm
            · omega
            · exact hnums m hm
          refine ⟨by rw [wc]; omega, by rw [wc]; simp; omega, ?_⟩
          conv => whnf
          refine ⟨encI (intAt nums (q.client - 1) + 1), by rw [wc, wn]; exact set_get (l := nums) rfl (by omega), ?_⟩
          conv => whnf
          refine ⟨fun hpos => ?_, fun hpos => ?_⟩ <;> conv => whnf
          · refine ⟨by rw [wc]; omega, by rw [wc]; simp; omega, ?_⟩
            conv => whnf
            refine ⟨encI (intAt nums (q.client - 1) + 1), by rw [wc, wn]; exact set_get (l := nums) rfl (by omega), ?_⟩
            conv => whnf
            refine ⟨fun hone => ?_, fun hone => ?_⟩ <;> conv => whnf
            · refine hcall_box (pick_ok full bs hb _ _ (by omega) (by omega) 1000) rfl rfl rfl ⟨⟨trivial, trivial⟩, ?_⟩
              conv => whnf
              refine ⟨fun h12 => ?_, fun h12 => ?_⟩ <;> conv => whnf
              · refine ⟨room (by simp) rfl, room' (by simp), ?_⟩
                conv => whnf
                exact dnext (q := Req0) hinv hn' (p' := (p1 + 1) + 1) (by dsimp only; omega) reqOk0 (nums := nums.set (q.client - 1).toNat (intAt nums (q.client - 1) + 1)) (by simp [hlen]) hset rfl rfl rfl rfl rfl hrow rfl rfl
              · refine ⟨room (by simp) rfl, room' (by simp), ?_⟩
                conv => whnf
                exact dnext (q := ⟨q.client, 1, 1, 0, 0⟩) hinv hn' (p' := (p1 + 1) + 1) (by dsimp only; omega) (reqOkJ hq) (nums := nums.set (q.client - 1).toNat (intAt nums (q.client - 1) + 1)) (by simp [hlen]) hset rfl rfl rfl rfl rfl hrow rfl rfl
            · refine hcall_box (pick_ok full bs hb _ _ (by omega) (by omega) 1000) rfl rfl rfl ⟨⟨trivial, trivial⟩, ?_⟩
              conv => whnf
              refine ⟨fun h12 => ?_, fun h12 => ?_⟩ <;> conv => whnf
              · refine ⟨room (by simp) rfl, room' (by simp), ?_⟩
                conv => whnf
                exact dnext (q := Req0) hinv hn' (p' := (p1 + 1) + 1) (by dsimp only; omega) reqOk0 (nums := nums.set (q.client - 1).toNat (intAt nums (q.client - 1) + 1)) (by simp [hlen]) hset rfl rfl rfl rfl rfl hrow rfl rfl
              · refine ⟨room (by simp) rfl, room' (by simp), ?_⟩
                conv => whnf
                exact dnext (q := ⟨q.client, (intAt nums (q.client - 1) + 1), q.op, q.x, q.y⟩) hinv hn' (p' := (p1 + 1) + 1) (by dsimp only; omega) (reqOkN hq (by omega)) (nums := nums.set (q.client - 1).toNat (intAt nums (q.client - 1) + 1)) (by simp [hlen]) hset rfl rfl rfl rfl rfl hrow rfl rfl
          · refine ⟨fun hone => ?_, fun hone => ?_⟩ <;> conv => whnf
            · refine hcall_box (pick_ok full bs hb _ _ (by omega) (by omega) 1000) rfl rfl rfl ⟨⟨trivial, trivial⟩, ?_⟩
              conv => whnf
              refine ⟨fun h12 => ?_, fun h12 => ?_⟩ <;> conv => whnf
              · refine ⟨room (by simp) rfl, room' (by simp), ?_⟩
                conv => whnf
                exact dnext (q := Req0) hinv hn' (p' := (p1 + 1) + 1) (by dsimp only; omega) reqOk0 (nums := nums.set (q.client - 1).toNat (intAt nums (q.client - 1) + 1)) (by simp [hlen]) hset rfl rfl rfl rfl rfl hrow rfl rfl
              · refine ⟨room (by simp) rfl, room' (by simp), ?_⟩
                conv => whnf
                exact dnext (q := ⟨q.client, 1, 1, 0, 0⟩) hinv hn' (p' := (p1 + 1) + 1) (by dsimp only; omega) (reqOkJ hq) (nums := nums.set (q.client - 1).toNat (intAt nums (q.client - 1) + 1)) (by simp [hlen]) hset rfl rfl rfl rfl rfl hrow rfl rfl
            · refine hcall_box (pick_ok full bs hb _ _ (by omega) (by omega) 1000) rfl rfl rfl ⟨⟨trivial, trivial⟩, ?_⟩
              conv => whnf
              refine ⟨fun h12 => ?_, fun h12 => ?_⟩ <;> conv => whnf
              · refine ⟨room (by simp) rfl, room' (by simp), ?_⟩
                conv => whnf
                exact dnext (q := Req0) hinv hn' (p' := (p1 + 1) + 1) (by dsimp only; omega) reqOk0 (nums := nums.set (q.client - 1).toNat (intAt nums (q.client - 1) + 1)) (by simp [hlen]) hset rfl rfl rfl rfl rfl hrow rfl rfl
              · refine ⟨room (by simp) rfl, room' (by simp), ?_⟩
                conv => whnf
                exact dnext (q := q) hinv hn' (p' := (p1 + 1) + 1) (by dsimp only; omega) (reqOkQ hq) (nums := nums.set (q.client - 1).toNat (intAt nums (q.client - 1) + 1)) (by simp [hlen]) hset rfl rfl rfl rfl rfl hrow rfl rfl
        · skip
          refine ⟨by rw [wc]; omega, by rw [wc]; simp; omega, ?_⟩
          conv => whnf
          refine ⟨encI (intAt nums (q.client - 1)), by rw [wc]; exact intAt_row (l := nums) (by omega) (by omega), ?_⟩
          conv => whnf
          refine ⟨fun hpos => ?_, fun hpos => ?_⟩ <;> conv => whnf
          · refine ⟨by rw [wc]; omega, by rw [wc]; simp; omega, ?_⟩
            conv => whnf
            refine ⟨encI (intAt nums (q.client - 1)), by rw [wc]; exact intAt_row (l := nums) (by omega) (by omega), ?_⟩
            conv => whnf
            refine ⟨fun hone => ?_, fun hone => ?_⟩ <;> conv => whnf
            · refine hcall_box (pick_ok full bs hb _ _ (by omega) (by omega) 1000) rfl rfl rfl ⟨⟨trivial, trivial⟩, ?_⟩
              conv => whnf
              refine ⟨fun h12 => ?_, fun h12 => ?_⟩ <;> conv => whnf
              · refine ⟨room (by simp) rfl, room' (by simp), ?_⟩
                conv => whnf
                exact dnext (q := Req0) hinv hn' (p' := (p1 + 1) + 1) (by dsimp only; omega) reqOk0 (nums := nums) hlen hnums rfl rfl rfl rfl rfl rfl rfl rfl
              · refine ⟨room (by simp) rfl, room' (by simp), ?_⟩
                conv => whnf
                exact dnext (q := ⟨q.client, 1, 1, 0, 0⟩) hinv hn' (p' := (p1 + 1) + 1) (by dsimp only; omega) (reqOkJ hq) (nums := nums) hlen hnums rfl rfl rfl rfl rfl rfl rfl rfl
            · refine hcall_box (pick_ok full bs hb _ _ (by omega) (by omega) 1000) rfl rfl rfl ⟨⟨trivial, trivial⟩, ?_⟩
              conv => whnf
              refine ⟨fun h12 => ?_, fun h12 => ?_⟩ <;> conv => whnf
              · refine ⟨room (by simp) rfl, room' (by simp), ?_⟩
                conv => whnf
                exact dnext (q := Req0) hinv hn' (p' := (p1 + 1) + 1) (by dsimp only; omega) reqOk0 (nums := nums) hlen hnums rfl rfl rfl rfl rfl rfl rfl rfl
              · refine ⟨room (by simp) rfl, room' (by simp), ?_⟩
                conv => whnf
                exact dnext (q := ⟨q.client, (intAt nums (q.client - 1)), q.op, q.x, q.y⟩) hinv hn' (p' := (p1 + 1) + 1) (by dsimp only; omega) (reqOkN hq (by omega)) (nums := nums) hlen hnums rfl rfl rfl rfl rfl rfl rfl rfl
          · refine ⟨fun hone => ?_, fun hone => ?_⟩ <;> conv => whnf
            · refine hcall_box (pick_ok full bs hb _ _ (by omega) (by omega) 1000) rfl rfl rfl ⟨⟨trivial, trivial⟩, ?_⟩
              conv => whnf
              refine ⟨fun h12 => ?_, fun h12 => ?_⟩ <;> conv => whnf
              · refine ⟨room (by simp) rfl, room' (by simp), ?_⟩
                conv => whnf
                exact dnext (q := Req0) hinv hn' (p' := (p1 + 1) + 1) (by dsimp only; omega) reqOk0 (nums := nums) hlen hnums rfl rfl rfl rfl rfl rfl rfl rfl
              · refine ⟨room (by simp) rfl, room' (by simp), ?_⟩
                conv => whnf
                exact dnext (q := ⟨q.client, 1, 1, 0, 0⟩) hinv hn' (p' := (p1 + 1) + 1) (by dsimp only; omega) (reqOkJ hq) (nums := nums) hlen hnums rfl rfl rfl rfl rfl rfl rfl rfl
            · refine hcall_box (pick_ok full bs hb _ _ (by omega) (by omega) 1000) rfl rfl rfl ⟨⟨trivial, trivial⟩, ?_⟩
              conv => whnf
              refine ⟨fun h12 => ?_, fun h12 => ?_⟩ <;> conv => whnf
              · refine ⟨room (by simp) rfl, room' (by simp), ?_⟩
                conv => whnf
                exact dnext (q := Req0) hinv hn' (p' := (p1 + 1) + 1) (by dsimp only; omega) reqOk0 (nums := nums) hlen hnums rfl rfl rfl rfl rfl rfl rfl rfl
              · refine ⟨room (by simp) rfl, room' (by simp), ?_⟩
                conv => whnf
                exact dnext (q := q) hinv hn' (p' := (p1 + 1) + 1) (by dsimp only; omega) (reqOkQ hq) (nums := nums) hlen hnums rfl rfl rfl rfl rfl rfl rfl rfl
      · skip
        refine ⟨by rw [wc]; omega, by rw [wc]; simp; omega, ?_⟩
        conv => whnf
        refine ⟨encI (intAt nums (q.client - 1)), by rw [wc]; exact intAt_row (l := nums) (by omega) (by omega), ?_⟩
        conv => whnf
        refine ⟨fun hpos => ?_, fun hpos => ?_⟩ <;> conv => whnf
        · refine ⟨by rw [wc]; omega, by rw [wc]; simp; omega, ?_⟩
          conv => whnf
          refine ⟨encI (intAt nums (q.client - 1)), by rw [wc]; exact intAt_row (l := nums) (by omega) (by omega), ?_⟩
          conv => whnf
          refine ⟨fun hone => ?_, fun hone => ?_⟩ <;> conv => whnf
          · refine hcall_box (pick_ok full bs hb _ _ (by omega) (by omega) 1000) rfl rfl rfl ⟨⟨trivial, trivial⟩, ?_⟩
            conv => whnf
            refine ⟨fun h12 => ?_, fun h12 => ?_⟩ <;> conv => whnf
            · refine ⟨room (by simp) rfl, room' (by simp), ?_⟩
              conv => whnf
              exact dnext (q := Req0) hinv hn' (p' := p1 + 1) (by dsimp only; omega) reqOk0 (nums := nums) hlen hnums rfl rfl rfl rfl rfl rfl rfl rfl
            · refine ⟨room (by simp) rfl, room' (by simp), ?_⟩
              conv => whnf
              exact dnext (q := ⟨q.client, 1, 1, 0, 0⟩) hinv hn' (p' := p1 + 1) (by dsimp only; omega) (reqOkJ hq) (nums := nums) hlen hnums rfl rfl rfl rfl rfl rfl rfl rfl
          · refine hcall_box (pick_ok full bs hb _ _ (by omega) (by omega) 1000) rfl rfl rfl ⟨⟨trivial, trivial⟩, ?_⟩
            conv => whnf
            refine ⟨fun h12 => ?_, fun h12 => ?_⟩ <;> conv => whnf
            · refine ⟨room (by simp) rfl, room' (by simp), ?_⟩
              conv => whnf
              exact dnext (q := Req0) hinv hn' (p' := p1 + 1) (by dsimp only; omega) reqOk0 (nums := nums) hlen hnums rfl rfl rfl rfl rfl rfl rfl rfl
            · refine ⟨room (by simp) rfl, room' (by simp), ?_⟩
              conv => whnf
              exact dnext (q := ⟨q.client, (intAt nums (q.client - 1)), q.op, q.x, q.y⟩) hinv hn' (p' := p1 + 1) (by dsimp only; omega) (reqOkN hq (by omega)) (nums := nums) hlen hnums rfl rfl rfl rfl rfl rfl rfl rfl
        · refine ⟨fun hone => ?_, fun hone => ?_⟩ <;> conv => whnf
          · refine hcall_box (pick_ok full bs hb _ _ (by omega) (by omega) 1000) rfl rfl rfl ⟨⟨trivial, trivial⟩, ?_⟩
            conv => whnf
            refine ⟨fun h12 => ?_, fun h12 => ?_⟩ <;> conv => whnf
            · refine ⟨room (by simp) rfl, room' (by simp), ?_⟩
              conv => whnf
              exact dnext (q := Req0) hinv hn' (p' := p1 + 1) (by dsimp only; omega) reqOk0 (nums := nums) hlen hnums rfl rfl rfl rfl rfl rfl rfl rfl
            · refine ⟨room (by simp) rfl, room' (by simp), ?_⟩
              conv => whnf
              exact dnext (q := ⟨q.client, 1, 1, 0, 0⟩) hinv hn' (p' := p1 + 1) (by dsimp only; omega) (reqOkJ hq) (nums := nums) hlen hnums rfl rfl rfl rfl rfl rfl rfl rfl
          · refine hcall_box (pick_ok full bs hb _ _ (by omega) (by omega) 1000) rfl rfl rfl ⟨⟨trivial, trivial⟩, ?_⟩
            conv => whnf
            refine ⟨fun h12 => ?_, fun h12 => ?_⟩ <;> conv => whnf
            · refine ⟨room (by simp) rfl, room' (by simp), ?_⟩
              conv => whnf
              exact dnext (q := Req0) hinv hn' (p' := p1 + 1) (by dsimp only; omega) reqOk0 (nums := nums) hlen hnums rfl rfl rfl rfl rfl rfl rfl rfl
            · refine ⟨room (by simp) rfl, room' (by simp), ?_⟩
              conv => whnf
              exact dnext (q := q) hinv hn' (p' := p1 + 1) (by dsimp only; omega) (reqOkQ hq) (nums := nums) hlen hnums rfl rfl rfl rfl rfl rfl rfl rfl
    · refine fin _ _ hinv ?_ rfl
      rfl
  | cons r rs =>
    conv => whnf
    refine ⟨fun hn => ?_, fun hn => ?_⟩ <;> conv => whnf
    · have hn' : 0 < n := by have hh : (0 : Int) < n := hn; omega
      have hxn := hinv.n
      have hxp := hinv.p
      have hlen : nums.length = 3 := hinv.len
      have hnums : ∀ m ∈ nums, 0 ≤ m ∧ m ≤ 30 := hinv.nums
      simp only [List.length_nil, List.length_cons] at hxn hxp
      refine req_use hb (p := p') (by omega) (by omega) rfl (fun q p1 hp1 hq => ?_)
      refine ⟨⟨trivial, trivial⟩, ?_⟩
      conv => whnf
      have wc : IntKind.i64.wrap (q.client - 1) = q.client - 1 := wrap_id (by omega) (by omega)
      have hold := hnums _ (intAt_mem (l := nums) (k := q.client - 1) (by omega))
      have wn : IntKind.i64.wrap (intAt nums (q.client - 1) + 1) = intAt nums (q.client - 1) + 1 := wrap_id (by omega) (by omega)
      refine ⟨by rw [wc]; omega, by rw [wc]; simp; omega, ?_⟩
      conv => whnf
      refine ⟨encI (intAt nums (q.client - 1)), by rw [wc]; exact intAt_row (l := nums) (by omega) (by omega), ?_⟩
      conv => whnf
      refine ⟨fun h30 => ?_, fun h30 => ?_⟩ <;> conv => whnf
      · refine hcall_box (pick_ok full bs hb _ _ (by omega) (by omega) 1000) rfl rfl rfl ⟨⟨trivial, trivial⟩, ?_⟩
        conv => whnf
        refine ⟨fun h8 => ?_, fun h8 => ?_⟩ <;> conv => whnf
        · refine ⟨by rw [wc]; omega, by rw [wc]; simp; omega, ?_⟩
          conv => whnf
          refine ⟨encI (intAt nums (q.client - 1)), by rw [wc]; exact intAt_row (l := nums) (by omega) (by omega), ?_⟩
          conv => whnf
          refine ⟨by rw [wc]; omega, by rw [wc]; simp; omega, ?_⟩
          conv => whnf
          refine ⟨encI (intAt nums (q.client - 1)), by rw [wc]; exact intAt_row (l := nums) (by omega) (by omega), ?_⟩
          conv => whnf
          have hrow : (nums.map encI).set (IntKind.i64.wrap (q.client - 1)).toNat (encI (IntKind.i64.wrap (intAt nums (q.client - 1) + 1))) = (nums.set (q.client - 1).toNat (intAt nums (q.client - 1) + 1)).map encI := by rw [wc, wn]; exact set_row rfl
          have hset : ∀ m ∈ nums.set (q.client - 1).toNat (intAt nums (q.client - 1) + 1), 0 ≤ m ∧ m ≤ 30 := fun m hm => by
            rcases mem_set hm with rfl | hm
            · omega
            · exact hnums m hm
          refine ⟨by rw [wc]; omega, by rw [wc]; simp; omega, ?_⟩
          conv => whnf
          refine ⟨encI (intAt nums (q.client - 1) + 1), by rw [wc, wn]; exact set_get (l := nums) rfl (by omega), ?_⟩
          conv => whnf
          refine ⟨fun hpos => ?_, fun hpos => ?_⟩ <;> conv => whnf
          · refine ⟨by rw [wc]; omega, by rw [wc]; simp; omega, ?_⟩
            conv => whnf
            refine ⟨encI (intAt nums (q.client - 1) + 1), by rw [wc, wn]; exact set_get (l := nums) rfl (by omega), ?_⟩
            conv => whnf
            refine ⟨fun hone => ?_, fun hone => ?_⟩ <;> conv => whnf
            · refine hcall_box (pick_ok full bs hb _ _ (by omega) (by omega) 1000) rfl rfl rfl ⟨⟨trivial, trivial⟩, ?_⟩
              conv => whnf
              refine ⟨fun h12 => ?_, fun h12 => ?_⟩ <;> conv => whnf
              · refine ⟨by simp, room (by simp; omega) rfl, room' (by simp; omega), ?_⟩
                conv => whnf
                exact dnext (q := Req0) hinv hn' (p' := (p1 + 1) + 1) (by dsimp only; omega) reqOk0 (nums := nums.set (q.client - 1).toNat (intAt nums (q.client - 1) + 1)) (by simp [hlen]) hset rfl rfl rfl rfl rfl hrow rfl rfl
              · refine ⟨by simp, room (by simp; omega) rfl, room' (by simp; omega), ?_⟩
                conv => whnf
                exact dnext (q := ⟨q.client, 1, 1, 0, 0⟩) hinv hn' (p' := (p1 + 1) + 1) (by dsimp only; omega) (reqOkJ hq) (nums := nums.set (q.client - 1).toNat (intAt nums (q.client - 1) + 1)) (by simp [hlen]) hset rfl rfl rfl rfl rfl hrow rfl rfl
            · refine hcall_box (pick_ok full bs hb _ _ (by omega) (by omega) 1000) rfl rfl rfl ⟨⟨trivial, trivial⟩, ?_⟩
              conv => whnf
              refine ⟨fun h12 => ?_, fun h12 => ?_⟩ <;> conv => whnf
              · refine ⟨by simp, room (by simp; omega) rfl, room' (by simp; omega), ?_⟩
                conv => whnf
                exact dnext (q := Req0) hinv hn' (p' := (p1 + 1) + 1) (by dsimp only; omega) reqOk0 (nums := nums.set (q.client - 1).toNat (intAt nums (q.client - 1) + 1)) (by simp [hlen]) hset rfl rfl rfl rfl rfl hrow rfl rfl
              · refine ⟨by simp, room (by simp; omega) rfl, room' (by simp; omega), ?_⟩
                conv => whnf
                exact dnext (q := ⟨q.client, (intAt nums (q.client - 1) + 1), q.op, q.x, q.y⟩) hinv hn' (p' := (p1 + 1) + 1) (by dsimp only; omega) (reqOkN hq (by omega)) (nums := nums.set (q.client - 1).toNat (intAt nums (q.client - 1) + 1)) (by simp [hlen]) hset rfl rfl rfl rfl rfl hrow rfl rfl
          · refine ⟨fun hone => ?_, fun hone => ?_⟩ <;> conv => whnf
            · refine hcall_box (pick_ok full bs hb _ _ (by omega) (by omega) 1000) rfl rfl rfl ⟨⟨trivial, trivial⟩, ?_⟩
              conv => whnf
              refine ⟨fun h12 => ?_, fun h12 => ?_⟩ <;> conv => whnf
              · refine ⟨by simp, room (by simp; omega) rfl, room' (by simp; omega), ?_⟩
                conv => whnf
                exact dnext (q := Req0) hinv hn' (p' := (p1 + 1) + 1) (by dsimp only; omega) reqOk0 (nums := nums.set (q.client - 1).toNat (intAt nums (q.client - 1) + 1)) (by simp [hlen]) hset rfl rfl rfl rfl rfl hrow rfl rfl
              · refine ⟨by simp, room (by simp; omega) rfl, room' (by simp; omega), ?_⟩
                conv => whnf
                exact dnext (q := ⟨q.client, 1, 1, 0, 0⟩) hinv hn' (p' := (p1 + 1) + 1) (by dsimp only; omega) (reqOkJ hq) (nums := nums.set (q.client - 1).toNat (intAt nums (q.client - 1) + 1)) (by simp [hlen]) hset rfl rfl rfl rfl rfl hrow rfl rfl
            · refine hcall_box (pick_ok full bs hb _ _ (by omega) (by omega) 1000) rfl rfl rfl ⟨⟨trivial, trivial⟩, ?_⟩
              conv => whnf
              refine ⟨fun h12 => ?_, fun h12 => ?_⟩ <;> conv => whnf
              · refine ⟨by simp, room (by simp; omega) rfl, room' (by simp; omega), ?_⟩
                conv => whnf
                exact dnext (q := Req0) hinv hn' (p' := (p1 + 1) + 1) (by dsimp only; omega) reqOk0 (nums := nums.set (q.client - 1).toNat (intAt nums (q.client - 1) + 1)) (by simp [hlen]) hset rfl rfl rfl rfl rfl hrow rfl rfl
              · refine ⟨by simp, room (by simp; omega) rfl, room' (by simp; omega), ?_⟩
                conv => whnf
                exact dnext (q := q) hinv hn' (p' := (p1 + 1) + 1) (by dsimp only; omega) (reqOkQ hq) (nums := nums.set (q.client - 1).toNat (intAt nums (q.client - 1) + 1)) (by simp [hlen]) hset rfl rfl rfl rfl rfl hrow rfl rfl
        · skip
          refine ⟨by rw [wc]; omega, by rw [wc]; simp; omega, ?_⟩
          conv => whnf
          refine ⟨encI (intAt nums (q.client - 1)), by rw [wc]; exact intAt_row (l := nums) (by omega) (by omega), ?_⟩
          conv => whnf
          refine ⟨fun hpos => ?_, fun hpos => ?_⟩ <;> conv => whnf
          · refine ⟨by rw [wc]; omega, by rw [wc]; simp; omega, ?_⟩
            conv => whnf
            refine ⟨encI (intAt nums (q.client - 1)), by rw [wc]; exact intAt_row (l := nums) (by omega) (by omega), ?_⟩
            conv => whnf
            refine ⟨fun hone => ?_, fun hone => ?_⟩ <;> conv => whnf
            · refine hcall_box (pick_ok full bs hb _ _ (by omega) (by omega) 1000) rfl rfl rfl ⟨⟨trivial, trivial⟩, ?_⟩
              conv => whnf
              refine ⟨fun h12 => ?_, fun h12 => ?_⟩ <;> conv => whnf
              · refine ⟨by simp, room (by simp; omega) rfl, room' (by simp; omega), ?_⟩
                conv => whnf
                exact dnext (q := Req0) hinv hn' (p' := (p1 + 1) + 1) (by dsimp only; omega) reqOk0 (nums := nums) hlen hnums rfl rfl rfl rfl rfl rfl rfl rfl
              · refine ⟨by simp, room (by simp; omega) rfl, room' (by simp; omega), ?_⟩
                conv => whnf
                exact dnext (q := ⟨q.client, 1, 1, 0, 0⟩) hinv hn' (p' := (p1 + 1) + 1) (by dsimp only; omega) (reqOkJ hq) (nums := nums) hlen hnums rfl rfl rfl rfl rfl rfl rfl rfl
            · refine hcall_box (pick_ok full bs hb _ _ (by omega) (by omega) 1000) rfl rfl rfl ⟨⟨trivial, trivial⟩, ?_⟩
              conv => whnf
              refine ⟨fun h12 => ?_, fun h12 => ?_⟩ <;> conv => whnf
              · refine ⟨by simp, room (by simp; omega) rfl, room' (by simp; omega), ?_⟩
                conv => whnf
                exact dnext (q := Req0) hinv hn' (p' := (p1 + 1) + 1) (by dsimp only; omega) reqOk0 (nums := nums) hlen hnums rfl rfl rfl rfl rfl rfl rfl rfl
              · refine ⟨by simp, room (by simp; omega) rfl, room' (by simp; omega), ?_⟩
                conv => whnf
                exact dnext (q := ⟨q.client, (intAt nums (q.client - 1)), q.op, q.x, q.y⟩) hinv hn' (p' := (p1 + 1) + 1) (by dsimp only; omega) (reqOkN hq (by omega)) (nums := nums) hlen hnums rfl rfl rfl rfl rfl rfl rfl rfl
          · refine ⟨fun hone => ?_, fun hone => ?_⟩ <;> conv => whnf
            · refine hcall_box (pick_ok full bs hb _ _ (by omega) (by omega) 1000) rfl rfl rfl ⟨⟨trivial, trivial⟩, ?_⟩
              conv => whnf
              refine ⟨fun h12 => ?_, fun h12 => ?_⟩ <;> conv => whnf
              · refine ⟨by simp, room (by simp; omega) rfl, room' (by simp; omega), ?_⟩
                conv => whnf
                exact dnext (q := Req0) hinv hn' (p' := (p1 + 1) + 1) (by dsimp only; omega) reqOk0 (nums := nums) hlen hnums rfl rfl rfl rfl rfl rfl rfl rfl
              · refine ⟨by simp, room (by simp; omega) rfl, room' (by simp; omega), ?_⟩
                conv => whnf
                exact dnext (q := ⟨q.client, 1, 1, 0, 0⟩) hinv hn' (p' := (p1 + 1) + 1) (by dsimp only; omega) (reqOkJ hq) (nums := nums) hlen hnums rfl rfl rfl rfl rfl rfl rfl rfl
            · refine hcall_box (pick_ok full bs hb _ _ (by omega) (by omega) 1000) rfl rfl rfl ⟨⟨trivial, trivial⟩, ?_⟩
              conv => whnf
              refine ⟨fun h12 => ?_, fun h12 => ?_⟩ <;> conv => whnf
              · refine ⟨by simp, room (by simp; omega) rfl, room' (by simp; omega), ?_⟩
                conv => whnf
                exact dnext (q := Req0) hinv hn' (p' := (p1 + 1) + 1) (by dsimp only; omega) reqOk0 (nums := nums) hlen hnums rfl rfl rfl rfl rfl rfl rfl rfl
              · refine ⟨by simp, room (by simp; omega) rfl, room' (by simp; omega), ?_⟩
                conv => whnf
                exact dnext (q := q) hinv hn' (p' := (p1 + 1) + 1) (by dsimp only; omega) (reqOkQ hq) (nums := nums) hlen hnums rfl rfl rfl rfl rfl rfl rfl rfl
      · skip
        refine ⟨by rw [wc]; omega, by rw [wc]; simp; omega, ?_⟩
        conv => whnf
        refine ⟨encI (intAt nums (q.client - 1)), by rw [wc]; exact intAt_row (l := nums) (by omega) (by omega), ?_⟩
        conv => whnf
        refine ⟨fun hpos => ?_, fun hpos => ?_⟩ <;> conv => whnf
        · refine ⟨by rw [wc]; omega, by rw [wc]; simp; omega, ?_⟩
          conv => whnf
          refine ⟨encI (intAt nums (q.client - 1)), by rw [wc]; exact intAt_row (l := nums) (by omega) (by omega), ?_⟩
          conv => whnf
          refine ⟨fun hone => ?_, fun hone => ?_⟩ <;> conv => whnf
          · refine hcall_box (pick_ok full bs hb _ _ (by omega) (by omega) 1000) rfl rfl rfl ⟨⟨trivial, trivial⟩, ?_⟩
            conv => whnf
            refine ⟨fun h12 => ?_, fun h12 => ?_⟩ <;> conv => whnf
            · refine ⟨by simp, room (by simp; omega) rfl, room' (by simp; omega), ?_⟩
              conv => whnf
              exact dnext (q := Req0) hinv hn' (p' := p1 + 1) (by dsimp only; omega) reqOk0 (nums := nums) hlen hnums rfl rfl rfl rfl rfl rfl rfl rfl
            · refine ⟨by simp, room (by simp; omega) rfl, room' (by simp; omega), ?_⟩
              conv => whnf
              exact dnext (q := ⟨q.client, 1, 1, 0, 0⟩) hinv hn' (p' := p1 + 1) (by dsimp only; omega) (reqOkJ hq) (nums := nums) hlen hnums rfl rfl rfl rfl rfl rfl rfl rfl
          · refine hcall_box (pick_ok full bs hb _ _ (by omega) (by omega) 1000) rfl rfl rfl ⟨⟨trivial, trivial⟩, ?_⟩
            conv => whnf
            refine ⟨fun h12 => ?_, fun h12 => ?_⟩ <;> conv => whnf
            · refine ⟨by simp, room (by simp; omega) rfl, room' (by simp; omega), ?_⟩
              conv => whnf
              exact dnext (q := Req0) hinv hn' (p' := p1 + 1) (by dsimp only; omega) reqOk0 (nums := nums) hlen hnums rfl rfl rfl rfl rfl rfl rfl rfl
            · refine ⟨by simp, room (by simp; omega) rfl, room' (by simp; omega), ?_⟩
              conv => whnf
              exact dnext (q := ⟨q.client, (intAt nums (q.client - 1)), q.op, q.x, q.y⟩) hinv hn' (p' := p1 + 1) (by dsimp only; omega) (reqOkN hq (by omega)) (nums := nums) hlen hnums rfl rfl rfl rfl rfl rfl rfl rfl
        · refine ⟨fun hone => ?_, fun hone => ?_⟩ <;> conv => whnf
          · refine hcall_box (pick_ok full bs hb _ _ (by omega) (by omega) 1000) rfl rfl rfl ⟨⟨trivial, trivial⟩, ?_⟩
            conv => whnf
            refine ⟨fun h12 => ?_, fun h12 => ?_⟩ <;> conv => whnf
            · refine ⟨by simp, room (by simp; omega) rfl, room' (by simp; omega), ?_⟩
              conv => whnf
              exact dnext (q := Req0) hinv hn' (p' := p1 + 1) (by dsimp only; omega) reqOk0 (nums := nums) hlen hnums rfl rfl rfl rfl rfl rfl rfl rfl
            · refine ⟨by simp, room (by simp; omega) rfl, room' (by simp; omega), ?_⟩
              conv => whnf
              exact dnext (q := ⟨q.client, 1, 1, 0, 0⟩) hinv hn' (p' := p1 + 1) (by dsimp only; omega) (reqOkJ hq) (nums := nums) hlen hnums rfl rfl rfl rfl rfl rfl rfl rfl
          · refine hcall_box (pick_ok full bs hb _ _ (by omega) (by omega) 1000) rfl rfl rfl ⟨⟨trivial, trivial⟩, ?_⟩
            conv => whnf
            refine ⟨fun h12 => ?_, fun h12 => ?_⟩ <;> conv => whnf
            · refine ⟨by simp, room (by simp; omega) rfl, room' (by simp; omega), ?_⟩
              conv => whnf
              exact dnext (q := Req0) hinv hn' (p' := p1 + 1) (by dsimp only; omega) reqOk0 (nums := nums) hlen hnums rfl rfl rfl rfl rfl rfl rfl rfl
            · refine ⟨by simp, room (by simp; omega) rfl, room' (by simp; omega), ?_⟩
              conv => whnf
              exact dnext (q := q) hinv hn' (p' := p1 + 1) (by dsimp only; omega) (reqOkQ hq) (nums := nums) hlen hnums rfl rfl rfl rfl rfl rfl rfl rfl
    · refine finC _ _ _ _ hinv ?_ rfl ?_
      all_goals rfl
end Go.Proofs.YtdfneaponidfgaaDoor
/- The check that is drawn, and the law of checks. -/
set_option linter.unusedVariables false
set_option linter.unusedSimpArgs false
set_option maxRecDepth 10000
namespace Go.Proofs.YtdfneaponidfgaaDoor
open Go Eng

theorem reqsR_use {full : Bool} {bs : List Int} (hb : Bytes bs) {p : Int} (h0 : 0 ≤ p) (h1 : p ≤ 1099511620000) {most : Int} (m0 : 0 ≤ most) (m1 : most ≤ 40) {s : St} (hs : s.hp 1000 = .box (rdC full bs p)) {K : HP → V → HP → Prop}
    (k1 : ∀ p', (p ≤ p' ∧ p' ≤ p + 1000) → K (Rd 1000 full bs p) (.d (.slc true 5 [])) (Rd 1000 full bs p'))
    (k2 : ∀ (q : Req) (list : List Req) p', (p ≤ p' ∧ p' ≤ p + 1000) → list.length ≤ 40 → K (Rd 1000 full bs p) (.osl 66 5 (encReq q :: list.map encReq)) (Rd 1000 full bs p' ++ [(66, .grow 5 (list.length + 1))])) :
    ∃ hin φ, HCalls Tryd.prog G0 27 (hpOf hin) [.ref 1000 0 0 0, vi most] φ ∧ weakHp s (hin.map (·.1)) hin ∧ okVs (hin.map (·.1)) [.ref 1000 0 0 0, vi most] = true ∧ ∀ r l, φ r l → K hin r l :=
  ⟨_, _, reqsR_ok full bs hb p h0 h1 most m0 m1, ⟨hs, rfl, trivial⟩, rfl, fun r l ⟨list, p', h2, h3, h4⟩ => by
    rcases h2 with ⟨rfl, rfl, rfl⟩ | ⟨hne, rfl, rfl⟩
    · exact k1 p' h3
    · cases list with
      | nil => exact absurd rfl hne
      | cons q list => exact k2 q list p' h3 (by simp at h4; omega)⟩

theorem drawK_ok (full : Bool) (bs : List Int) (hb : Bytes bs) : ACalls Tryd.prog G0 11 [.d (.slc full 1 (bs.map encB))] (fun r => ∃ c f l n, r = .tup [vi c, .d (.slc f 5 (List.map encReq l)), vi n]) := by
  refine spec_own tabOk Tryd.func11 (by kernel_rfl) [] [26, 27, 28, 29] rfl ?_
  conv => whnf
  refine open_use hb fun f' bs' hb' => ⟨⟨rfl, trivial⟩, ?_⟩
  conv => whnf
  refine reqsR_use hb' (by omega) (by omega) (by omega) (by omega) rfl (fun p' hp => ⟨⟨trivial, trivial⟩, ?_⟩) (fun q list p' hp hl => ⟨⟨trivial, rfl, trivial⟩, ?_⟩)
  · conv => whnf
    refine hcall_box (pick_ok f' bs' hb' _ _ (by omega) (by omega) 1000) rfl rfl rfl ⟨⟨trivial, trivial⟩, ?_⟩
    conv => whnf
    refine ⟨fun hc => ?_, fun hc => ?_⟩ <;> conv => whnf
    · refine anyReq_use hb' (by omega) (by omega) rfl fun q p2 hp2 => ⟨⟨trivial, trivial⟩, ?_⟩
      conv => whnf
      refine ⟨room (by simp) rfl, room' (by simp), ?_⟩
      conv => whnf
      refine hcall_box (pick_ok f' bs' hb' _ _ (by omega) (by omega) 1000) rfl rfl rfl ⟨⟨trivial, trivial⟩, ?_⟩
      conv => whnf
      refine hcall_box (pick_ok f' bs' hb' _ _ (by omega) (by omega) 1000) rfl rfl rfl ⟨⟨trivial, trivial⟩, ?_⟩
      conv => whnf
      refine hcall_box (pick_ok f' bs' hb' _ _ (by omega) (by omega) 1000) rfl rfl rfl ⟨⟨trivial, trivial⟩, ?_⟩
      conv => whnf
      exact ⟨_, _, [q], _, rfl⟩
    · refine hcall_box (pick_ok f' bs' hb' _ _ (by omega) (by omega) 1000) rfl rfl rfl ⟨⟨trivial, trivial⟩, ?_⟩
      conv => whnf
      refine hcall_box (pick_ok f' bs' hb' _ _ (by omega) (by omega) 1000) rfl rfl rfl ⟨⟨trivial, trivial⟩, ?_⟩
      conv => whnf
      refine hcall_box (pick_ok f' bs' hb' _ _ (by omega) (by omega) 1000) rfl rfl rfl ⟨⟨trivial, trivial⟩, ?_⟩
      conv => whnf
      exact ⟨_, _, [], _, rfl⟩
  · conv => whnf
    refine hcall_box (pick_ok f' bs' hb' _ _ (by omega) (by omega) 1000) rfl rfl rfl ⟨⟨trivial, trivial⟩, ?_⟩
    conv => whnf
    refine ⟨fun hc => ?_, fun hc => ?_⟩ <;> conv => whnf
    · refine anyReq_use hb' (by omega) (by omega) rfl fun q2 p2 hp2 => ⟨⟨trivial, trivial⟩, ?_⟩
      conv => whnf
      refine ⟨by simp, room (by simp; omega) rfl, room' (by simp; omega), ?_⟩
      conv => whnf
      refine hcall_box (pick_ok f' bs' hb' _ _ (by omega) (by omega) 1000) rfl rfl rfl ⟨⟨trivial, trivial⟩, ?_⟩
      conv => whnf
      refine hcall_box (pick_ok f' bs' hb' _ _ (by omega) (by omega) 1000) rfl rfl rfl ⟨⟨trivial, trivial⟩, ?_⟩
      conv => whnf
      refine hcall_box (pick_ok f' bs' hb' _ _ (by omega) (by omega) 1000) rfl rfl rfl ⟨⟨trivial, trivial⟩, ?_⟩
      conv => whnf
      exact ⟨_, _, q :: (list ++ [q2]), _, by rw [List.map_cons, List.map_append]; rfl⟩
    · refine hcall_box (pick_ok f' bs' hb' _ _ (by omega) (by omega) 1000) rfl rfl rfl ⟨⟨trivial, trivial⟩, ?_⟩
      conv => whnf
      refine hcall_box (pick_ok f' bs' hb' _ _ (by omega) (by omega) 1000) rfl rfl rfl ⟨⟨trivial, trivial⟩, ?_⟩
      conv => whnf
      refine hcall_box (pick_ok f' bs' hb' _ _ (by omega) (by omega) 1000) rfl rfl rfl ⟨⟨trivial, trivial⟩, ?_⟩
      conv => whnf
      exact ⟨_, _, q :: list, _, rfl⟩
theorem drawK_use {full : Bool} {bs : List Int} (hb : Bytes bs) {ψ : V → Prop} (k : ∀ c f l n, ψ (.tup [vi c, .d (.slc f 5 (List.map encReq l)), vi n])) : ∃ φ, ACalls Tryd.prog G0 11 [.d (.slc full 1 (bs.map encB))] φ ∧ ∀ r, φ r → ψ r :=
  ⟨_, drawK_ok full bs hb, fun r ⟨c, f, l, n, e⟩ => by subst e; exact k c f l n⟩

theorem chkI_t {f : Bool} {c : Int} {l : List Req} {n : Int} (h : chkG c l n = true) : ACalls Tryd.prog G0 8 [vi c, .d (.slc f 5 (l.map encReq)), vi n] (· = .tup [vChk c n (sumF (l.take n.toNat)), vb true]) := chkV_t h ▸ chkI_ok f c l n
theorem chkI_f {f : Bool} {c : Int} {l : List Req} {n : Int} (h : chkG c l n = false) : ACalls Tryd.prog G0 8 [vi c, .d (.slc f 5 (l.map encReq)), vi n] (· = .tup [vChk 0 0 0, vb false]) := chkV_f h ▸ chkI_ok f c l n
theorem chkS_t {f : Bool} {c : Int} {l : List Req} {n : Int} (h : chkG c l n = true) : ACalls Tryd.prog G0 6 [vi c, .d (.slc f 5 (l.map encReq)), vi n] (· = .tup [vChk c n (sumF (l.take n.toNat)), vb true]) := chkV_t h ▸ chkS_ok f c l n
theorem chkS_f {f : Bool} {c : Int} {l : List Req} {n : Int} (h : chkG c l n = false) : ACalls Tryd.prog G0 6 [vi c, .d (.slc f 5 (l.map encReq)), vi n] (· = .tup [vChk 0 0 0, vb false]) := chkV_f h ▸ chkS_ok f c l n

theorem law_check (full : Bool) (bs : List Int) (hb : Bytes bs) : ACalls Tryd.prog G0 4 [.d (.slc full 1 (bs.map encB))] (· = vb true) := by
  refine spec_own tabOk Tryd.func4 (by kernel_rfl) [] [] rfl ?_
  conv => whnf
  intro _
  refine ⟨fun hbig => ?_, fun hsmall => ?_⟩ <;> conv => whnf
  · rfl
  refine drawK_use hb fun c f l n => ?_
  conv => whnf
  cases hG : chkG c l n with
  | false =>
    refine call_eq (chkI_f hG) ?_
    conv => whnf
    refine call_eq (chkS_f hG) ?_
    conv => whnf
    refine ⟨fun h => absurd h (by decide), fun _ => ?_⟩
    conv => whnf
    refine ⟨fun _ => ?_, fun h => absurd h (by decide)⟩
    conv => whnf
    rfl
  | true =>
    have e3 : ∀ a b c : Int, ((a == a) && ((b == b) && (c == c))) = true := fun a b c => by simp
    have t1 : ∀ x : Bool, x = true → ¬ ((!x) = true) := fun x h => by rw [h]; decide
    have t2 : ∀ x : Bool, x = true → ¬ (x = false) := fun x h => by rw [h]; decide
    refine call_eq (chkI_t hG) ?_
    conv => whnf
    refine call_eq (chkS_t hG) ?_
    conv => whnf
    refine ⟨fun h => absurd h (t1 _ (e3 _ _ _)), fun _ => ?_⟩
    conv => whnf
    have hG' := hG
    simp only [chkG, Bool.and_eq_true, decide_eq_true_eq, inB_t] at hG'
    obtain ⟨hc, h60, hn, hnl, hok⟩ := hG'
    have wc : IntKind.i64.wrap (c + 1) = c + 1 := wrap_id (by omega) (by omega)
    have hm : (c + 1).tmod 4 = (c + 1) % 4 := Int.tmod_eq_emod_of_nonneg (by omega)
    have wm : (IntKind.i64.wrap (c + 1)).tmod 4 = (c + 1) % 4 := by rw [wc, hm]
    have g1 : chkG ((c + 1) % 4) l n = true := by
      simp only [chkG, Bool.and_eq_true, decide_eq_true_eq, inB_t]
      exact ⟨by omega, h60, hn, hnl, hok⟩
    have htt : (l.take n.toNat).take n.toNat = l.take n.toNat := by rw [List.take_take, Nat.min_self]
    have hlt : (l.take n.toNat).length = n.toNat := by rw [List.length_take]; omega
    have g2 : chkG c (l.take n.toNat) n = true := by
      simp only [chkG, Bool.and_eq_true, decide_eq_true_eq, inB_t, htt]
      exact ⟨hc, by omega, hn, by omega, hok⟩
    have k2 : ∀ f, ACalls Tryd.prog G0 8 [vi c, .d (.slc f 5 ((l.take n.toNat).map encReq)), vi n] (· = .tup [vChk c n (sumF (l.take n.toNat)), vb true]) := fun f => by
      have := chkI_t (f := f) g2
      rwa [htt] at this
    refine ⟨by decide, ?_⟩
    conv => whnf
    refine call_eq' (chkI_t (f := f) g1) (by rw [← wm]; rfl) ?_
    conv => whnf
    refine ⟨hn.1, by rw [List.length_map]; exact hnl, ?_⟩
    conv => whnf
    refine call_eq' (k2 _) (by rw [List.map_take]; rfl) ?_
    conv => whnf
    refine ⟨fun _ => ?_, fun h => absurd h (t2 _ (e3 _ _ _))⟩
    conv => whnf
    refine ⟨fun _ => ?_, fun h => absurd rfl h⟩
    conv => whnf
    have hg : Good (foldI newG (l.take n.toNat)) := foldI_good good_new (by simpa [okL] using hok)
    refine ⟨hn.1, by rw [List.length_map]; exact hnl, ?_⟩
    conv => whnf
    refine drawn_eq' (foldI_ok _ (l.take n.toNat) (by omega) hok) (by rw [List.map_take]; rfl) ?_
    conv => whnf
    refine drawn_eq' (put_ok true true true _ hg) rfl ?_
    conv => whnf
    refine drawn_eq (crcI_ok _ (by have := game_len (nums_of hg); omega)) ?_
    conv => whnf
    refine ⟨fun _ => ?_, fun h => absurd rfl h⟩
    conv => whnf
    rfl
end Go.Proofs.YtdfneaponidfgaaDoor
/- The exact laws' own functions: sizes, copies of what comes in, comparisons. -/
set_option linter.unusedVariables false
set_option linter.unusedSimpArgs false
set_option maxRecDepth 10000
namespace Go.Proofs.YtdfneaponidfgaaDoor
open Go Eng

mutual
theorem plain_P {w : World} {g : Gh} {hp : Nat → Eng.Obj} : ∀ (v : V) (u : Value), v.plain = true → RepV w g hp v u → RepV w (gh0 g.imm) (fun _ => .none) v u
  | .undef, u, h, _ => by simp [V.plain] at h
  | .d x, u, _, h => by simpa only [RepV, gh0] using h
  | .ref .., u, h, _ => by simp [V.plain] at h
  | .own _, u, h, _ => by simp [V.plain] at h
  | .osl .., u, h, _ => by simp [V.plain] at h
  | .view .., u, h, _ => by simp [V.plain] at h
  | .any, u, h, _ => by simp [V.plain] at h
  | .agg cs, u, hv, h => by
    simp only [RepV, V.plain] at h hv ⊢
    obtain ⟨us, rfl, h⟩ := h
    exact ⟨us, rfl, plains_P cs _ hv h⟩
  | .tup cs, u, hv, h => by
    simp only [RepV, V.plain] at h hv ⊢
    obtain ⟨us, rfl, h⟩ := h
    exact ⟨us, rfl, plains_P cs _ hv h⟩
  | .clo .., u, h, _ => by simp [V.plain] at h
theorem plains_P {w : World} {g : Gh} {hp : Nat → Eng.Obj} : ∀ (vs : List V) (us : List Value), plains vs = true → RepVs w g hp vs us → RepVs w (gh0 g.imm) (fun _ => .none) vs us
  | [], us, _, h => by simpa only [RepVs] using h
  | v :: vs, us, hv, h => by
    simp only [RepVs] at h ⊢
    obtain ⟨u, us', rfl, r1, r2⟩ := h
    unfold plains at hv
    split at hv
    · rename_i hv1
      exact ⟨u, us', rfl, plain_P v u hv1 r1, plains_P vs us' hv r2⟩
    · simp at hv
end
/-- A call without objects. -/
theorem hcalls_of {P : Program} {G : Nat → V} {f : FuncId} {args : List V} {φ : V → Prop} (h : ACalls P G f args φ) (hp : plains args = true) : HCalls P G f (hpOf []) args (fun r l => φ r ∧ l = []) := by
  obtain ⟨hf, h⟩ := h
  refine ⟨hf, fun w g us hb hG hargs _ _ => ?_⟩
  have hpl := fun vs us => plains_P (w := w) (g := g) (hp := hpOf []) vs us
  refine (h w g.imm us hb hG (hpl _ _ hp hargs)).mono fun e w' ho => ⟨?_⟩
  obtain ⟨u, r, imm', he, hφ, hrep, h1, h2, h3, h4, h5, h6⟩ := ho.out
  have hn : ∀ i, hpOf [] i = Eng.Obj.none := fun i => rfl
  refine ⟨u, r, [], ⟨imm', g.blk, g.val⟩, he, ⟨hφ, rfl⟩, by simp, RepP.to rfl _ r u hrep, fun id => by rw [hn]; trivial, fun i j b _ hi => by rw [hn] at hi; simp [Eng.Obj.live] at hi, h4, h1, fun b hb' _ => h2 b hb',
    ⟨⟨h3, fun b o hi => ?_⟩, fun id hu => by rw [hn] at hu; simp [Eng.Obj.used] at hu, fun _ _ _ => rfl, fun _ _ _ => rfl, fun id hu => by rw [hn] at hu; simp [Eng.Obj.used] at hu, fun id e n hu => by rw [hn] at hu; simp [Eng.Obj.used] at hu⟩, fun b o hi hb' => .inl (h5 b o hi hb'), fun id b hi => by rw [hn] at hi; simp [Eng.Obj.live] at hi, h6⟩
  unfold World.cell?
  rw [h2 b (hb b o hi)]

def szF (n : Int) (k : Nat) : Int := if n - k < 0 then -1 else n - k
def zEnt : List D := [.int .i64 0, .int .i64 0, .int .i64 0, .int .i64 0, .int .i64 0]
/-- The first of a list, and nothing yet in the place of the rest. -/
def part (z : List D) (l : List (List D)) (i : Nat) : List (List D) := l.take i ++ List.replicate (l.length - i) z
theorem part_len (z : List D) (l : List (List D)) {i : Nat} (h : i ≤ l.length) : (part z l i).length = l.length := by simp [part]; omega
theorem part_get (z : List D) (l : List (List D)) {i : Nat} (h : i < l.length) : (part z l i)[i]? = some z := by
  unfold part
  rw [List.getElem?_append_right (by simp; omega), List.getElem?_replicate, if_pos (by simp; omega)]
theorem part_set (z : List D) (l : List (List D)) {i : Nat} {r : List D} (h : l[i]? = some r) : (part z l i).set i r = part z l (i + 1) := by
  obtain ⟨hi, hr⟩ := List.getElem?_eq_some_iff.1 h
  apply List.ext_getElem?
  intro j
  rw [List.getElem?_set]
  unfold part
  rcases Nat.lt_trichotomy j i with hj | hj | hj
  · rw [if_neg (by omega), List.getElem?_append_left (by simp; omega), List.getElem?_append_left (by simp; omega), List.getElem?_take, List.getElem?_take, if_pos hj, if_pos (by omega)]
  · subst hj
    rw [if_pos rfl, if_pos (by simp; omega), List.getElem?_append_left (by simp; omega), List.getElem?_take, if_pos (by omega), h]
  · rw [if_neg (by omega), List.getElem?_append_right (by simp; omega), List.getElem?_append_right (by simp; omega), List.getElem?_replicate, List.getElem?_replicate]
    simp only [List.length_take]
    rw [Nat.min_eq_left (by omega), Nat.min_eq_left (by omega)]
    by_cases hjl : j < l.length
    · rw [if_pos (by omega), if_pos (by omega)]
    · rw [if_neg (by omega), if_neg (by omega)]
def Small (g : Game) : Prop := g.ents.length ≤ 1048576 ∧ g.floor.length ≤ 1048576 ∧ g.last.length ≤ 1048576
end Go.Proofs.YtdfneaponidfgaaDoor
/- The exact laws' own functions: comparisons of the same, marks, and what is held. -/
set_option linter.unusedVariables false
set_option linter.unusedSimpArgs false
set_option maxRecDepth 10000
namespace Go.Proofs.YtdfneaponidfgaaDoor
open Go Eng

theorem eqReq_ok (x : Req) : ACalls Tryd.prog G0 25 [vReq x, vReq x] (· = vb true) := by
  refine spec_intro tabOk Tryd.func25 (by kernel_rfl) rfl ?_
  conv => whnf
  refine ⟨fun h => absurd rfl h, fun _ => ?_⟩
  conv => whnf
  refine ⟨fun h => absurd rfl h, fun _ => ?_⟩
  conv => whnf
  refine ⟨fun h => absurd rfl h, fun _ => ?_⟩
  conv => whnf
  refine ⟨fun h => absurd rfl h, fun _ => ?_⟩
  conv => whnf
  refine ⟨fun h => absurd rfl h, fun _ => ?_⟩
  conv => whnf
  rfl
theorem eqReqS_ok (f1 f2 : Bool) (l : List Req) : ACalls Tryd.prog G0 10 [.d (.slc f1 5 (l.map encReq)), .d (.slc f2 5 (l.map encReq))] (· = vb true) := by
  refine spec_intro tabOk Tryd.func10 (by kernel_rfl) rfl ?_
  conv => whnf
  intro hlen
  have hlen := le_map hlen
  conv => whnf
  intro _
  conv => whnf
  refine ⟨fun h => absurd rfl h, fun _ => ?_⟩
  conv => whnf
  let P : Nat → Prop := fun i => True
  let I : Nat → SL := fun i => ⟨[(0, .d (.slc f1 5 (l.map encReq))), (1, .d (.slc f2 5 (l.map encReq))), (5, vi i)], []⟩
  refine loop_up l.length P I trivial ?_ ?_
  · exact ⟨weakSl_cons rfl rfl (weakSl_cons rfl rfl (weakSl_cons rfl rfl weakSl_nil)), weakHp_nil, rfl⟩
  intro i hi _
  conv => whnf
  intro _
  refine ⟨fun hlt => ?_, fun hge => ?_⟩ <;> conv => whnf
  · have hlt := lt_map hlt
    refine (entsAt hlt).elim fun n hn => ?_
    refine ⟨by omega, encReq n, row_map hn, ?_⟩
    conv => whnf
    refine ⟨by omega, encReq n, row_map hn, ?_⟩
    conv => whnf
    refine drawn_bool (eqReq_ok n) (fun _ => ?_) (fun h => absurd h (by simp))
    conv => whnf
    exact up_next hlt trivial ⟨weakSl_cons rfl rfl (weakSl_cons rfl rfl (weakSl_cons (wrap_succ (by omega)) rfl weakSl_nil)), weakHp_nil, rfl⟩
  rfl
def mk5 (k : Int) : List D := [.int .i64 k, .int .i64 (k + 1), .int .i64 (k + 2), .int .i64 (k + 3), .int .i64 (k + 4)]
def mk1 (k : Int) : List D := [.int .i64 k]
/-- Rows of marks, from the first one on. -/
def marks (f : Int → List D) (s : Int) (k : Int) (n : Nat) : List (List D) := (List.range n).map fun i : Nat => f (k + s * (i : Int))
theorem marks_len (f : Int → List D) (s k : Int) (n : Nat) : (marks f s k n).length = n := by simp [marks]
theorem marks_get (f : Int → List D) (s k : Int) {n i : Nat} (h : i < n) : (marks f s k n)[i]? = some (f (k + s * (i : Int))) := by simp [marks, h]
theorem marks_succ (f : Int → List D) (s k : Int) (n : Nat) : marks f s k (n + 1) = marks f s k n ++ [f (k + s * (n : Int))] := by simp [marks, List.range_succ]
/-- The first rows are marked. -/
def marked (f : Int → List D) (s k : Int) (rows : List (List D)) (i : Nat) : List (List D) := marks f s k i ++ rows.drop i
theorem marked_len (f : Int → List D) (s k : Int) (rows : List (List D)) {i : Nat} (h : i ≤ rows.length) : (marked f s k rows i).length = rows.length := by simp [marked, marks_len]; omega
theorem marked_get (f : Int → List D) (s k : Int) {rows : List (List D)} {i : Nat} {r : List D} (h : rows[i]? = some r) : (marked f s k rows i)[i]? = some r := by
  unfold marked
  rw [List.getElem?_append_right (by simp [marks_len]), marks_len, List.getElem?_drop]
  simpa using h
theorem marked_set (f : Int → List D) (s k : Int) {rows : List (List D)} {i : Nat} {r : List D} (h : i < rows.length) (hr : r = f (k + s * (i : Int))) : (marked f s k rows i).set i r = marked f s k rows (i + 1) := by
  subst hr
  unfold marked
  rw [List.set_append_right _ _ (by simp [marks_len]), marks_len, Nat.sub_self, marks_succ, List.append_assoc]
  congr 1
  rw [List.drop_eq_getElem_cons h]
  rfl
theorem marked_all (f : Int → List D) (s k : Int) (rows : List (List D)) : marked f s k rows rows.length = marks f s k rows.length := by simp [marked]
theorem len5 {r : List D} (h : r.length = 5) : ∃ a b c d e, r = [a, b, c, d, e] := by
  match r, h with
  | [a, b, c, d, e], _ => exact ⟨a, b, c, d, e, rfl⟩
theorem len1 {r : List D} (h : r.length = 1) : ∃ a, r = [a] := by
  match r, h with
  | [a], _ => exact ⟨a, rfl⟩
/-- The numbers of objects in a contract of one array do not matter. -/
theorem at_id {P : Program} {G : Nat → V} {f : FuncId} {o o' : Eng.Obj} {k n : Int} {i : Nat} (h : HCalls P G f (hpOf [(i, o)]) [.own i, vi k] (fun r l => r = vi n ∧ l = [(i, o')])) (ho : ∀ ρ, o.ren ρ = o) (ho' : ∀ ρ, o'.ren ρ = o') (d : Nat) :
    HCalls P G f (hpOf [(d, o)]) [.own d, vi k] (fun r l => r = vi n ∧ l = [(d, o')]) := by
  have he : swp i d i = d := by simp [swp]
  have := HCalls.swap (ψ := fun r l => r = vi n ∧ l = [(d, o')]) h i d (fun r l ⟨h1, h2⟩ => by
    subst h1; subst h2
    exact ⟨rfl, by simp only [List.map_cons, List.map_nil, renP, he, ho']⟩)
  simp only [List.map_cons, List.map_nil, renP, he, ho, rens, V.ren] at this
  exact this
end Go.Proofs.YtdfneaponidfgaaDoor
/- The exact law of checks, as a contract: its own functions (sizes, copies of what comes in, comparisons), and the law. -/
set_option linter.unusedVariables false
set_option linter.unusedSimpArgs false
set_option maxRecDepth 10000
namespace Go.Proofs.YtdfneaponidfgaaDoor
open Go Eng

theorem szR_ok (f : Bool) (rows : List (List D)) (n : Int) (h0 : 0 ≤ n) (h1 : n ≤ 1048576) : ACalls Tryd.prog G0 5 [.d (.slc f 5 rows), vi n] (· = vi (szF n rows.length)) := by
  refine spec_intro tabOk Tryd.func5 (by kernel_rfl) rfl ?_
  conv => whnf
  intro hlen
  have w1 : IntKind.i64.wrap (n - (rows.length : Int)) = n - rows.length := wrap_id (by omega) (by omega)
  conv => whnf
  rw [w1]
  refine ⟨fun h => ?_, fun h => ?_⟩ <;> conv => whnf
  · exact congrArg vi (by unfold szF; rw [if_pos h])
  · refine congrArg vi ?_
    unfold szF; rw [if_neg h]
theorem toReq_ok (r : Req) : ACalls Tryd.prog G0 21 [vReq r] (· = vReq r) := by
  refine spec_intro tabOk Tryd.func21 (by kernel_rfl) rfl ?_
  conv => whnf
  rfl
def zReq : List D := [.int .i64 0, .int .i64 0, .int .i64 0, .int .i64 0, .int .i64 0]
theorem toReqS_ok (f : Bool) (l : List Req) (h1 : l.length ≤ 1048576) : ACalls Tryd.prog G0 7 [.d (.slc f 5 (l.map encReq))] (· = .d (.slc true 5 (l.map encReq))) := by
  refine spec_intro tabOk Tryd.func7 (by kernel_rfl) rfl ?_
  conv => whnf
  intro _
  conv => whnf
  refine ⟨rfl, by simp, by simp; omega, by simp; omega, ?_⟩
  conv => whnf
  let P : Nat → Prop := fun i => True
  let I : Nat → SL := fun i => ⟨[(0, .d (.slc f 5 (l.map encReq))), (3, .own 7), (4, vi i)], [(7, .arr true 5 (part zReq (l.map encReq) i))]⟩
  refine loop_up l.length P I trivial ?_ ?_
  · refine ⟨?_, ?_, rfl⟩
    · exact weakSl_cons rfl rfl (weakSl_cons rfl rfl (weakSl_cons rfl rfl weakSl_nil))
    · refine weakHp_cons (congrArg (Obj.arr true 5) ?_) rfl weakHp_nil
      simp [part, zReq]
  intro i hi _
  conv => whnf
  intro _
  refine ⟨fun hlt => ?_, fun hge => ?_⟩ <;> conv => whnf
  · have hlt := lt_map hlt
    refine (entsAt hlt).elim fun e he => ?_
    refine ⟨by omega, encReq e, row_map he, ?_⟩
    conv => whnf
    refine call_eq (toReq_ok e) ?_
    conv => whnf
    refine ⟨by omega, by rw [part_len _ _ (by simp; omega)]; simp; omega, ?_⟩
    conv => whnf
    refine ⟨zReq, part_get _ _ (by simp; omega), ?_⟩
    conv => whnf
    have hs : (part zReq (l.map encReq) i).set i (encReq e) = part zReq (l.map encReq) (i + 1) := part_set _ _ (row_map he)
    exact up_next hlt trivial ⟨weakSl_cons rfl rfl (weakSl_cons rfl rfl (weakSl_cons (wrap_succ (by omega)) rfl weakSl_nil)), weakHp_cons (congrArg (Obj.arr true 5) hs) rfl weakHp_nil, rfl⟩
  have hin := ge_map hge hi
  have hfull : part zReq (l.map encReq) i = l.map encReq := by
    subst hin
    unfold part
    have : (l.map encReq).take l.length = l.map encReq := List.take_of_length_le (by simp)
    simp [this]
  exact congrArg (fun r => V.d (.slc true 5 r)) hfull
theorem eqCheck_ok (a b c : Int) : ACalls Tryd.prog G0 9 [vChk a b c, vChk a b c] (· = vb true) := by
  refine spec_intro tabOk Tryd.func9 (by kernel_rfl) rfl ?_
  conv => whnf
  refine ⟨fun h => absurd rfl h, fun _ => ?_⟩
  conv => whnf
  refine ⟨fun h => absurd rfl h, fun _ => ?_⟩
  conv => whnf
  refine ⟨fun h => absurd rfl h, fun _ => ?_⟩
  conv => whnf
  rfl

theorem law_exCheck (f : Bool) (c : Int) (l : List Req) (n : Int) : ACalls Tryd.prog G0 3 [vi c, .d (.slc f 5 (l.map encReq)), vi n] (· = vb true) := by
  refine spec_intro tabOk Tryd.func3 (by kernel_rfl) rfl ?_
  conv => whnf
  refine call_eq (szR_ok f (l.map encReq) 1048576 (by omega) (by omega)) ?_
  conv => whnf
  refine ⟨fun hbig => ?_, fun hsmall => ?_⟩ <;> conv => whnf
  · rfl
  have hl : l.length ≤ 1048576 := by
    have hs : ¬ szF 1048576 (l.map encReq).length < 0 := hsmall
    unfold szF at hs
    simp only [List.length_map] at hs
    split at hs <;> omega
  refine call_eq (toReqS_ok f l hl) ?_
  conv => whnf
  cases hG : chkG c l n with
  | false =>
    refine call_eq (chkS_f hG) ?_
    conv => whnf
    refine call_eq (toReqS_ok f l hl) ?_
    conv => whnf
    refine call_eq (chkI_f hG) ?_
    conv => whnf
    refine call_eq' (eqCheck_ok 0 0 0) rfl ?_
    conv => whnf
    refine call_eq (toReqS_ok f l hl) ?_
    conv => whnf
    refine call_eq (eqReqS_ok true true l) ?_
    conv => whnf
    rfl
  | true =>
    refine call_eq (chkS_t hG) ?_
    conv => whnf
    refine call_eq (toReqS_ok f l hl) ?_
    conv => whnf
    refine call_eq (chkI_t hG) ?_
    conv => whnf
    refine call_eq' (eqCheck_ok c n (sumF (l.take n.toNat))) rfl ?_
    conv => whnf
    refine call_eq (toReqS_ok f l hl) ?_
    conv => whnf
    refine call_eq (eqReqS_ok true true l) ?_
    conv => whnf
    rfl
end Go.Proofs.YtdfneaponidfgaaDoor
