/- What the reader of a code computes. -/
import Derived.Test.YtnnmkenloijkcaaSpecA
set_option linter.unusedVariables false
set_option maxRecDepth 10000
namespace Go.Proofs.Ytnnmkenloijkcaa
open Go Eng

def encB (n : Int) : List D := [.int .u8 n]
abbrev rdC (full : Bool) (bs : List Int) (p : Int) : List V := [.d (.slc full 1 (bs.map encB)), vi p]
def Bytes (bs : List Int) : Prop := ∀ (i : Nat) b, bs[i]? = some b → 0 ≤ b ∧ b ≤ 255
def bAt (bs : List Int) (i : Int) : Int := (bs[i.toNat]?).getD 0
def mixF (bs : List Int) (k : Int) : Int :=
  let x := bAt bs (k.tmod bs.length) * 131 + bAt bs ((k * 7 + 3).tmod bs.length) * 1117 + k * 29 + k.tdiv bs.length * 53
  (BitVec.ofInt 64 x ^^^ BitVec.ofInt 64 (x.tdiv 64)).toNat
def pickF (bs : List Int) (p n : Int) : Int :=
  if n < 1 ∨ bs.length = 0 then 0
  else if p < bs.length then (bAt bs p).tmod n
  else (mixF bs p).tmod n

theorem open_ok (full : Bool) (bs : List Int) : HCalls Try.prog G0 30 (hpOf []) [.d (.slc full 1 (bs.map encB))]
    (fun r l => ∃ f' bs', r = .ref 1000 0 0 0 ∧ l = [(1000, .box (rdC f' bs' 0))] ∧ ∀ b, b ∈ bs' → b ∈ bs) := by
  refine HCalls.swap (hin := []) (args := [.d (.slc full 1 (bs.map encB))]) (φ := fun r l => ∃ f' bs', r = .ref 10 0 0 0 ∧ l = [(10, .box (rdC f' bs' 0))] ∧ ∀ b, b ∈ bs' → b ∈ bs) ?_ 10 1000 ?_
  · refine hspec tabOk Try.func30 (by kernel_rfl) true [] [] rfl ?_
    conv => whnf
    intro hlen
    refine ⟨fun h => ?_, fun h => ?_⟩ <;> conv => whnf
    · refine ⟨by omega, by omega, ?_⟩
      conv => whnf
      refine ⟨[(10, .box (rdC false (bs.take 2000) 0))], ⟨weakHp_cons ?_ rfl weakHp_nil, rfl, rfl⟩, rfl, false, bs.take 2000, rfl, rfl, fun b hb => List.mem_of_mem_take hb⟩
      show _ = Obj.box [.d (.slc false 1 ((bs.take 2000).map encB)), vi 0]
      rw [List.map_take]; rfl
    · exact ⟨[(10, .box (rdC full bs 0))], ⟨weakHp_cons rfl rfl weakHp_nil, rfl, rfl⟩, rfl, full, bs, rfl, rfl, fun b hb => hb⟩
  · rintro r l ⟨f', bs', rfl, rfl, h⟩
    exact ⟨f', bs', rfl, rfl, h⟩

theorem bAt_row {bs : List Int} {k : Int} (h0 : 0 ≤ k) (h1 : k < bs.length) : (bs.map encB)[k.toNat]? = some (encB (bAt bs k)) := by
  have : k.toNat < bs.length := by omega
  refine row_map ?_
  unfold bAt
  simp [this]
theorem bAt_range {bs : List Int} (hb : Bytes bs) (k : Int) : 0 ≤ bAt bs k ∧ bAt bs k ≤ 255 := by
  unfold bAt
  cases h : bs[k.toNat]? with
  | none => simp
  | some b => exact hb _ _ h

theorem xor_range {a b : Int} (ha : 0 ≤ a) (ha' : a < 4611686018427387904) (hb : 0 ≤ b) (hb' : b < 4611686018427387904) : (0 : Int) ≤ ((BitVec.ofInt 64 a ^^^ BitVec.ofInt 64 b).toNat : Int) ∧ ((BitVec.ofInt 64 a ^^^ BitVec.ofInt 64 b).toNat : Int) < 4611686018427387904 := by
  refine ⟨by omega, ?_⟩
  have : (BitVec.ofInt 64 a ^^^ BitVec.ofInt 64 b).toNat < 2 ^ 62 := by
    rw [BitVec.toNat_xor]
    refine Nat.xor_lt_two_pow ?_ ?_
    · rw [BitVec.toNat_ofInt]; omega
    · rw [BitVec.toNat_ofInt]; omega
  omega
theorem mix_wraps {a b k d : Int} (a0 : 0 ≤ a) (a1 : a ≤ 255) (b0 : 0 ≤ b) (b1 : b ≤ 255) (k0 : 0 ≤ k) (k1 : k ≤ 1099511627776) (d0 : 0 ≤ d) (d1 : d ≤ k) :
    IntKind.i64.wrap ((BitVec.ofInt IntKind.i64.bits (IntKind.i64.wrap (IntKind.i64.wrap (IntKind.i64.wrap (IntKind.i64.wrap (IntKind.i64.wrap a * 131) + IntKind.i64.wrap (IntKind.i64.wrap b * 1117)) + IntKind.i64.wrap (k * 29)) + IntKind.i64.wrap (IntKind.i64.wrap d * 53))) ^^^
      BitVec.ofInt IntKind.i64.bits (IntKind.i64.wrap ((IntKind.i64.wrap (IntKind.i64.wrap (IntKind.i64.wrap (IntKind.i64.wrap (IntKind.i64.wrap a * 131) + IntKind.i64.wrap (IntKind.i64.wrap b * 1117)) + IntKind.i64.wrap (k * 29)) + IntKind.i64.wrap (IntKind.i64.wrap d * 53))).tdiv 64))).toNat : Nat) =
    ((BitVec.ofInt 64 (a * 131 + b * 1117 + k * 29 + d * 53) ^^^ BitVec.ofInt 64 ((a * 131 + b * 1117 + k * 29 + d * 53).tdiv 64)).toNat : Nat) := by
  have e : ∀ z, 0 ≤ z → z < 4611686018427387904 → IntKind.i64.wrap z = z := fun z h1 h2 => wrap_id (by omega) (by omega)
  have hx : 0 ≤ a * 131 + b * 1117 + k * 29 + d * 53 := by omega
  have hx2 : a * 131 + b * 1117 + k * 29 + d * 53 < 4611686018427387904 := by omega
  have hd : 0 ≤ (a * 131 + b * 1117 + k * 29 + d * 53).tdiv 64 ∧ (a * 131 + b * 1117 + k * 29 + d * 53).tdiv 64 ≤ a * 131 + b * 1117 + k * 29 + d * 53 := ⟨Int.tdiv_nonneg hx (by omega), Int.tdiv_le_self _ hx⟩
  rw [e a a0 (by omega), e b b0 (by omega), e d d0 (by omega), e (a * 131) (by omega) (by omega), e (b * 1117) (by omega) (by omega), e (k * 29) (by omega) (by omega), e (d * 53) (by omega) (by omega), e (a * 131 + b * 1117) (by omega) (by omega),
    e (a * 131 + b * 1117 + k * 29) (by omega) (by omega), e (a * 131 + b * 1117 + k * 29 + d * 53) hx hx2, e _ hd.1 (by omega)]
  have := xor_range hx hx2 hd.1 (by omega)
  exact e _ this.1 this.2
theorem pick_range {bs : List Int} (hb : Bytes bs) {p n : Int} (h0 : 0 ≤ p) (h1 : p ≤ 1099511627776) : 0 ≤ pickF bs p n ∧ (1 ≤ n → pickF bs p n < n) := by
  unfold pickF
  split
  · omega
  · rename_i hn
    split
    · have := bAt_range hb p
      exact ⟨Int.tmod_nonneg _ this.1, fun h => Int.tmod_lt_of_pos _ (by omega)⟩
    · have : 0 ≤ mixF bs p := Int.natCast_nonneg _
      exact ⟨Int.tmod_nonneg _ this, fun h => Int.tmod_lt_of_pos _ (by omega)⟩
def oneF (bs : List Int) (p : Int) (list : List Int) : Int := (list[(pickF bs p list.length).toNat]?).getD 0
theorem one_mem {bs : List Int} (hb : Bytes bs) {p : Int} (h0 : 0 ≤ p) (h1 : p ≤ 1099511627776) {list : List Int} (hl : 0 < list.length) : list[(pickF bs p list.length).toNat]? = some (oneF bs p list) := by
  have := pick_range (n := list.length) hb h0 h1
  have h2 := this.2 (by omega)
  have : (pickF bs p list.length).toNat < list.length := by omega
  unfold oneF
  simp [this]

theorem pick_ok (full : Bool) (bs : List Int) (hb : Bytes bs) (p n : Int) (h0 : 0 ≤ p) (h1 : p ≤ 1099511627776) (id : Nat) : HCalls Try.prog G0 45 (hpOf [(id, .box (rdC full bs p))]) [.ref id 0 0 0, vi n]
    (Box1 id (vi (pickF bs p n)) (rdC full bs (p + 1))) := by
  refine HCalls.box (φ := fun r c => r = vi (pickF bs p n) ∧ c = rdC full bs (p + 1)) ?_ rfl rfl id
  refine hspec tabOk Try.func45 (by kernel_rfl) false [] [] rfl ?_
  conv => whnf
  have hp1 : vi (IntKind.i64.wrap (p + 1)) = vi (p + 1) := congrArg vi (wrap_id (by omega) (by omega))
  have fin : ∀ (s : St) (v : Int), v = pickF bs p n → s.hp 1000 = .box [.d (.slc full 1 (bs.map encB)), vi (IntKind.i64.wrap (p + 1))] →
      ∃ l, HRest s [1000] l ∧ ∃ c, l = [(1000, Obj.box c)] ∧ (vi v).plain = true ∧ plains c = true ∧ (vi v = vi (pickF bs p n) ∧ c = rdC full bs (p + 1)) := fun s v hv hs => by
    refine ⟨_, ⟨weakHp_cons hs rfl weakHp_nil, rfl, rfl⟩, _, rfl, rfl, rfl, congrArg vi hv, ?_⟩
    rw [hp1]
  refine ⟨fun hn => ?_, fun hn => ?_⟩ <;> conv => whnf
  · exact fin _ _ (by simp [pickF, hn]) rfl
  intro hlen
  have hlen := le_map hlen
  refine ⟨fun hz => ?_, fun hz => ?_⟩ <;> conv => whnf
  · exact fin _ _ (by simp at hz; simp [pickF, hz]) rfl
  intro _
  have hkp : IntKind.i64.wrap (IntKind.i64.wrap (p + 1) - 1) = p := by rw [wrap_id (n := p + 1) (by omega) (by omega), wrap_id (by omega) (by omega)]; omega
  refine ⟨fun hk => ?_, fun hk => ?_⟩ <;> conv => whnf
  · refine ⟨by rw [hkp]; omega, encB (bAt bs p), by rw [hkp]; exact bAt_row h0 (by rw [hkp] at hk; simpa using hk), ?_⟩
    conv => whnf
    refine ⟨by omega, ?_⟩
    conv => whnf
    have hr := bAt_range hb p
    refine fin _ _ ?_ rfl
    have hk' : p < bs.length := by rw [hkp] at hk; simpa using hk
    rw [wrap_id (by omega) (by omega)]
    have hz' : bs.length ≠ 0 := by simpa using hz
    simp only [pickF, hn, hz', hk', or_self, if_false, if_true]
  have hk' : ¬ p < bs.length := by rw [hkp] at hk; simpa using hk
  have hz' : 0 < (bs.length : Int) := by have : bs.length ≠ 0 := by simpa using hz
                                         omega
  have hL : ((bs.map encB).length : Int) = bs.length := by simp
  have q1 := Int.tmod_nonneg (bs.length : Int) h0
  have q2 := Int.tmod_lt_of_pos p hz'
  have q3 := Int.tmod_nonneg (bs.length : Int) (a := p * 7 + 3) (by omega)
  have q4 := Int.tmod_lt_of_pos (p * 7 + 3) hz'
  have w7 : IntKind.i64.wrap (IntKind.i64.wrap (IntKind.i64.wrap (IntKind.i64.wrap (p + 1) - 1) * 7) + 3) = p * 7 + 3 := by
    rw [hkp, wrap_id (n := p * 7) (by omega) (by omega), wrap_id (by omega) (by omega)]
  refine ⟨hz, ?_⟩
  conv => whnf
  refine ⟨by rw [hkp, hL]; exact q1, encB (bAt bs (p.tmod bs.length)), by rw [hkp, hL]; exact bAt_row q1 q2, ?_⟩
  conv => whnf
  refine ⟨hz, ?_⟩
  conv => whnf
  refine ⟨by rw [w7, hL]; exact q3, encB (bAt bs ((p * 7 + 3).tmod bs.length)), by rw [w7, hL]; exact bAt_row q3 q4, ?_⟩
  conv => whnf
  refine ⟨hz, ?_⟩
  conv => whnf
  refine ⟨by omega, ?_⟩
  conv => whnf
  refine ⟨by omega, ?_⟩
  conv => whnf
  refine fin _ _ ?_ rfl
  have r1 := bAt_range hb (p.tmod bs.length)
  have r2 := bAt_range hb ((p * 7 + 3).tmod bs.length)
  have r3 : 0 ≤ p.tdiv bs.length ∧ p.tdiv bs.length ≤ p := ⟨Int.tdiv_nonneg h0 (by omega), Int.tdiv_le_self _ h0⟩
  rw [hkp, hL]
  rw [mix_wraps r1.1 r1.2 r2.1 r2.2 h0 h1 r3.1 r3.2]
  have hz2 : bs.length ≠ 0 := by omega
  simp only [pickF, hn, hz2, hk', or_self, if_false]
  rfl

theorem one_ok (full fl : Bool) (bs : List Int) (hb : Bytes bs) (p : Int) (h0 : 0 ≤ p) (h1 : p ≤ 1099511627776) (list : List Int) (hl : 0 < list.length) (id : Nat) :
    HCalls Try.prog G0 32 (hpOf [(id, .box (rdC full bs p))]) [.ref id 0 0 0, .d (dInts fl list)]
    (Box1 id (vi (oneF bs p list)) (rdC full bs (p + 1))) := by
  refine HCalls.box (φ := fun r c => r = vi (oneF bs p list) ∧ c = rdC full bs (p + 1)) ?_ rfl rfl id
  refine hspec tabOk Try.func32 (by kernel_rfl) false [] [45] rfl ?_
  conv => whnf
  intro _
  conv => whnf
  refine hcall_box (pick_ok full bs hb p _ h0 h1 1000) rfl rfl rfl ⟨⟨trivial, trivial⟩, ?_⟩
  conv => whnf
  have hr := pick_range (n := list.length) hb h0 h1
  have hm := one_mem hb h0 h1 hl
  have hL : ((list.map encI).length : Int) = list.length := by simp
  refine ⟨by rw [hL]; exact hr.1, encI (oneF bs p list), by rw [hL]; exact row_map hm, ?_⟩
  conv => whnf
  exact ⟨_, ⟨weakHp_cons rfl rfl weakHp_nil, rfl, rfl⟩, _, rfl, rfl, rfl, rfl, rfl⟩
end Go.Proofs.Ytnnmkenloijkcaa
