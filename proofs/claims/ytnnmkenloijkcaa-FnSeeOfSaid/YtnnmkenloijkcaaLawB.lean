/- The law of what a player sees holds, whatever the code. -/
import Derived.Test.YtnnmkenloijkcaaLawA
set_option linter.unusedVariables false
set_option maxRecDepth 10000
namespace Go.Proofs.Ytnnmkenloijkcaa
open Go Eng

theorem see_use {full : Bool} {bs : List Int} (hb : Bytes bs) {ψ : V → Prop} (k : ∀ a b c g cl, ψ (.tup [vGame a b c g, vi cl])) : ∃ φ, ACalls Try.prog G0 7 [.d (.slc full 1 (bs.map encB))] φ ∧ ∀ r, φ r → ψ r :=
  ⟨_, see_ok full bs hb, fun r ⟨a, b, c, g, cl, e⟩ => by subst e; exact k a b c g cl⟩
theorem seeI_no {a b c : Bool} {g : Game} {cl : Int} (h : ¬ (okG g = true ∧ 0 ≤ atF g.ents cl)) : ACalls Try.prog G0 8 [vGame a b c g, vi cl] (· = .tup [vGame true true true ⟨[], [], []⟩, vb false]) := by
  have := seeOf_ok a b c g cl
  simp only [seeI, if_neg h] at this; exact this
theorem seeS_no {a b c : Bool} {g : Game} {cl : Int} (h : ¬ (okG g = true ∧ 0 ≤ atF g.ents cl)) : ACalls Try.prog G0 9 [vGame a b c g, vi cl] (· = .tup [vGame true true true ⟨[], [], []⟩, vb false]) := by
  have := seeOfS_ok a b c g cl
  simp only [seeS, if_neg h] at this; exact this
theorem seeI_yes {a b c : Bool} {g : Game} {cl : Int} (h : okG g = true ∧ 0 ≤ atF g.ents cl) : ACalls Try.prog G0 8 [vGame a b c g, vi cl] (· = .tup [vGame true true true (seeF (entAt g.ents (atF g.ents cl)) g), vb true]) := by
  have := seeOf_ok a b c g cl
  simp only [seeI, if_pos h] at this; exact this
theorem seeS_yes {a b c : Bool} {g : Game} {cl : Int} (h : okG g = true ∧ 0 ≤ atF g.ents cl) : ACalls Try.prog G0 9 [vGame a b c g, vi cl] (· = .tup [vGame (seen (entAt g.ents (atF g.ents cl)) g.ents).isEmpty false false (seeF (entAt g.ents (atF g.ents cl)) g), vb true]) := by
  have := seeOfS_ok a b c g cl
  simp only [seeS, if_pos h] at this; exact this

theorem hid_spec (me : Ent) (fl : List Int) : ∀ k (j : Nat) n, (hid me fl k)[j]? = some n → n = -1 ∨ fl[j]? = some n
  | 0, j, n, h => .inr h
  | k + 1, j, n, h => by
    unfold hid at h
    split at h
    · exact hid_spec me fl k j n h
    · rw [List.getElem?_set] at h
      split at h
      · split at h
        · injection h with h; exact .inl h.symm
        · simp at h
      · exact hid_spec me fl k j n h

structure LIn where
  i : Nat
  m : Bool
def mineB (l : List Ent) (cl : Int) (i : Nat) : Bool := (l.take i).any fun e => e.client == cl
def isB (l : List Ent) (x : Ent) (k : Nat) : Bool := (l.take k).any fun e => entB e x
theorem mineB_succ {l : List Ent} {cl : Int} {i : Nat} {e : Ent} (h : l[i]? = some e) : mineB l cl (i + 1) = (mineB l cl i || (e.client == cl)) := by
  unfold mineB; rw [List.take_add_one, h]; simp
theorem isB_succ {l : List Ent} {x : Ent} {i : Nat} {e : Ent} (h : l[i]? = some e) : isB l x (i + 1) = (isB l x i || entB e x) := by
  unfold isB; rw [List.take_add_one, h]; simp
theorem isB_all {l : List Ent} {x : Ent} (h : x ∈ l) : isB l x l.length = true := by
  unfold isB; rw [List.take_length, List.any_eq_true]; exact ⟨x, h, entB_t.2 rfl⟩
structure MInv (l : List Ent) (cl : Int) (x : LIn) : Prop where
  i : x.i ≤ l.length
  m : x.m = mineB l cl x.i
structure KInv (l : List Ent) (e : Ent) (x : LIn) : Prop where
  i : x.i ≤ l.length
  m : x.m = isB l e x.i
theorem seen_me {g : Game} {cl : Int} (h0 : 0 ≤ atF g.ents cl) (hg : Good g) : mineB (seen (entAt g.ents (atF g.ents cl)) g.ents) cl (seen (entAt g.ents (atF g.ents cl)) g.ents).length = true := by
  rcases atF_spec g.ents cl with ⟨h, _⟩ | ⟨i, h, hi, hc⟩
  · omega
  · rw [h]
    have hm : entAt g.ents i ∈ g.ents := entAt_mem (by simpa using hi)
    unfold mineB
    rw [List.take_length, List.any_eq_true]
    refine ⟨entAt g.ents i, List.mem_filter.2 ⟨hm, ?_⟩, by simpa using hc⟩
    simp [nearF, inB_t]

def LM (a b c : Bool) (g xs : Game) (cl : Int) (x : LIn) : SL :=
  ⟨[(3, .ref 3 0 0 0), (4, vi cl), (5, .ref 5 0 0 0), (9, vb x.m), (10, vi x.i)], [(3, .box [.d (dEnts a g.ents), .d (dInts b g.floor), .d (dInts c g.last)]), (5, .box [.d (dEnts true xs.ents), .d (dInts true xs.floor), .d (dInts true xs.last)])]⟩
def LK (a b c : Bool) (g xs : Game) (cl : Int) (m : Bool) (i : Nat) (x : LIn) : SL :=
  ⟨[(3, .ref 3 0 0 0), (4, vi cl), (5, .ref 5 0 0 0), (9, vb m), (10, vi i), (11, vb x.m), (12, vi x.i)], [(3, .box [.d (dEnts a g.ents), .d (dInts b g.floor), .d (dInts c g.last)]), (5, .box [.d (dEnts true xs.ents), .d (dInts true xs.floor), .d (dInts true xs.last)])]⟩

theorem law_see (full : Bool) (bs : List Int) (hb : Bytes bs) : ACalls Try.prog G0 3 [.d (.slc full 1 (bs.map encB))] (· = vb true) := by
  refine spec_own tabOk Try.func3 (by kernel_rfl) [] [] rfl ?_
  conv => whnf
  intro _
  conv => whnf
  refine ⟨fun hbig => ?_, fun hsmall => ?_⟩ <;> conv => whnf
  · rfl
  refine see_use hb fun a b c g cl => ?_
  conv => whnf
  by_cases hyes : okG g = true ∧ 0 ≤ atF g.ents cl
  · refine call_eq (seeI_yes hyes) ?_
    conv => whnf
    refine call_eq (seeS_yes hyes) ?_
    conv => whnf
    refine call_bool (game_eq _ _ _ _ _ _ (seeF (entAt g.ents (atF g.ents cl)) g) (seeF (entAt g.ents (atF g.ents cl)) g)) (fun h => ?_) (fun h => ?_) <;> conv => whnf
    · have hg := ok_good (of_okG hyes.1)
      refine ⟨{ x : LIn // MInv (seeF (entAt g.ents (atF g.ents cl)) g).ents cl x }, fun x => LM a b c g (seeF (entAt g.ents (atF g.ents cl)) g) cl x.1, fun x => (seeF (entAt g.ents (atF g.ents cl)) g).ents.length - x.1.i, ⟨⟨0, false⟩, ⟨by simp, by simp [mineB]⟩⟩, ?_, ?_⟩
      · refine ⟨?_, ?_, rfl⟩ <;> repeat' (first | exact weakSl_nil | exact weakHp_nil | refine weakSl_cons ?_ rfl ?_ | refine weakHp_cons ?_ rfl ?_)
        all_goals rfl
      have hxl : (seeF (entAt g.ents (atF g.ents cl)) g).ents.length ≤ 4 := by
        have h1 := good_len hg
        have h2 : (seen (entAt g.ents (atF g.ents cl)) g.ents).length ≤ g.ents.length := List.length_filter_le _ _
        show (seen (entAt g.ents (atF g.ents cl)) g.ents).length ≤ 4
        omega
      have hgl := good_len hg
      have hfl : (seeF (entAt g.ents (atF g.ents cl)) g).floor.length = 16 := by
        show (hid _ _ _).length = 16
        rw [hid_len]; exact hg.nfloor
      rintro ⟨⟨i, m⟩, hinv⟩
      have hi : i ≤ (seeF (entAt g.ents (atF g.ents cl)) g).ents.length := hinv.i
      have hm : m = mineB (seeF (entAt g.ents (atF g.ents cl)) g).ents cl i := hinv.m
      cases m with
      | false =>
        conv => whnf
        intro _
        refine ⟨fun hlt1 => ?_, fun hge => ?_⟩ <;> conv => whnf
        · skip
          have hlt1 : i < (seeF (entAt g.ents (atF g.ents cl)) g).ents.length := lt_map hlt1
          refine (entsAt hlt1).elim fun e he => ?_
          have hmem : e ∈ g.ents := (List.mem_filter.1 (List.mem_of_getElem? he)).1
          refine ⟨by show (0 : Int) ≤ (i : Int); omega, encEnt e, row_map he, ?_⟩
          conv => whnf
          refine ⟨fun hc => ?_, fun hc => ?_⟩ <;> conv => whnf
          · skip
            refine ⟨{ x : LIn // KInv g.ents e x }, fun x => LK a b c g (seeF (entAt g.ents (atF g.ents cl)) g) cl true i x.1, fun x => g.ents.length - x.1.i, ⟨⟨0, false⟩, ⟨by simp, by simp [isB]⟩⟩, ?_, ?_⟩
            · refine ⟨?_, ?_, rfl⟩ <;> repeat' (first | exact weakSl_nil | exact weakHp_nil | refine weakSl_cons ?_ rfl ?_ | refine weakHp_cons ?_ rfl ?_)
              all_goals first | rfl | exact rfl
            rintro ⟨⟨k, is⟩, hkinv⟩
            have hk : k ≤ g.ents.length := hkinv.i
            have hm2 : is = isB g.ents e k := hkinv.m
            cases is with
            | false =>
              conv => whnf
              intro _
              refine ⟨fun hlt => ?_, fun hge => ?_⟩ <;> conv => whnf
              · have hlt : k < g.ents.length := lt_map hlt
                refine (entsAt hlt).elim fun f hf => ?_
                refine ⟨by show (0 : Int) ≤ (k : Int); omega, encEnt f, row_map hf, ?_⟩
                conv => whnf
                refine ⟨by show (0 : Int) ≤ (i : Int); omega, encEnt e, row_map he, ?_⟩
                conv => whnf
                refine ⟨fun hd => ?_, fun hd => ?_⟩ <;> conv => whnf
                · have hd : entB f e = true := hd
                  exact ⟨⟨⟨k + 1, true⟩, ⟨hlt, by show true = _; rw [isB_succ hf, ← hm2, hd]; rfl⟩⟩, by show g.ents.length - (k + 1) < g.ents.length - k; omega, ⟨(weakSl_cons rfl rfl (weakSl_cons rfl rfl (weakSl_cons rfl rfl (weakSl_cons rfl rfl (weakSl_cons rfl rfl (weakSl_cons rfl rfl (weakSl_cons (wrap_succ (by omega)) rfl weakSl_nil))))))), (weakHp_cons rfl rfl (weakHp_cons rfl rfl weakHp_nil)), rfl⟩⟩
                · have hd : entB f e = false := hd
                  exact ⟨⟨⟨k + 1, false⟩, ⟨hlt, by show false = _; rw [isB_succ hf, ← hm2, hd]; rfl⟩⟩, by show g.ents.length - (k + 1) < g.ents.length - k; omega, ⟨(weakSl_cons rfl rfl (weakSl_cons rfl rfl (weakSl_cons rfl rfl (weakSl_cons rfl rfl (weakSl_cons rfl rfl (weakSl_cons rfl rfl (weakSl_cons (wrap_succ (by omega)) rfl weakSl_nil))))))), (weakHp_cons rfl rfl (weakHp_cons rfl rfl weakHp_nil)), rfl⟩⟩
              · have hin : k = g.ents.length := ge_map hge hk
                rw [hin, isB_all hmem] at hm2
                exact absurd hm2 (by simp)
            | true =>
              conv => whnf
              intro _
              refine ⟨fun hlt => ?_, fun hge => ?_⟩ <;> conv => whnf
              · have hlt : k < g.ents.length := lt_map hlt
                exact ⟨⟨⟨k + 1, true⟩, ⟨hlt, by
                  refine (entsAt hlt).elim fun f hf => ?_
                  show true = _; rw [isB_succ hf, ← hm2]; rfl⟩⟩, by show g.ents.length - (k + 1) < g.ents.length - k; omega, ⟨(weakSl_cons rfl rfl (weakSl_cons rfl rfl (weakSl_cons rfl rfl (weakSl_cons rfl rfl (weakSl_cons rfl rfl (weakSl_cons rfl rfl (weakSl_cons (wrap_succ (by omega)) rfl weakSl_nil))))))), (weakHp_cons rfl rfl (weakHp_cons rfl rfl weakHp_nil)), rfl⟩⟩
              · exact ⟨⟨⟨i + 1, true⟩, ⟨hlt1, by show true = _; rw [mineB_succ he, ← hm]; simp; exact hc⟩⟩, by show (seeF (entAt g.ents (atF g.ents cl)) g).ents.length - (i + 1) < (seeF (entAt g.ents (atF g.ents cl)) g).ents.length - i; omega, ⟨(weakSl_cons rfl rfl (weakSl_cons rfl rfl (weakSl_cons rfl rfl (weakSl_cons rfl rfl (weakSl_cons (wrap_succ (by omega)) rfl weakSl_nil))))), (weakHp_cons rfl rfl (weakHp_cons rfl rfl weakHp_nil)), rfl⟩⟩
          · skip
            refine ⟨{ x : LIn // KInv g.ents e x }, fun x => LK a b c g (seeF (entAt g.ents (atF g.ents cl)) g) cl false i x.1, fun x => g.ents.length - x.1.i, ⟨⟨0, false⟩, ⟨by simp, by simp [isB]⟩⟩, ?_, ?_⟩
            · refine ⟨?_, ?_, rfl⟩ <;> repeat' (first | exact weakSl_nil | exact weakHp_nil | refine weakSl_cons ?_ rfl ?_ | refine weakHp_cons ?_ rfl ?_)
              all_goals first | rfl | exact rfl
            rintro ⟨⟨k, is⟩, hkinv⟩
            have hk : k ≤ g.ents.length := hkinv.i
            have hm2 : is = isB g.ents e k := hkinv.m
            cases is with
            | false =>
              conv => whnf
              intro _
              refine ⟨fun hlt => ?_, fun hge => ?_⟩ <;> conv => whnf
              · have hlt : k < g.ents.length := lt_map hlt
                refine (entsAt hlt).elim fun f hf => ?_
                refine ⟨by show (0 : Int) ≤ (k : Int); omega, encEnt f, row_map hf, ?_⟩
                conv => whnf
                refine ⟨by show (0 : Int) ≤ (i : Int); omega, encEnt e, row_map he, ?_⟩
                conv => whnf
                refine ⟨fun hd => ?_, fun hd => ?_⟩ <;> conv => whnf
                · have hd : entB f e = true := hd
                  exact ⟨⟨⟨k + 1, true⟩, ⟨hlt, by show true = _; rw [isB_succ hf, ← hm2, hd]; rfl⟩⟩, by show g.ents.length - (k + 1) < g.ents.length - k; omega, ⟨(weakSl_cons rfl rfl (weakSl_cons rfl rfl (weakSl_cons rfl rfl (weakSl_cons rfl rfl (weakSl_cons rfl rfl (weakSl_cons rfl rfl (weakSl_cons (wrap_succ (by omega)) rfl weakSl_nil))))))), (weakHp_cons rfl rfl (weakHp_cons rfl rfl weakHp_nil)), rfl⟩⟩
                · have hd : entB f e = false := hd
                  exact ⟨⟨⟨k + 1, false⟩, ⟨hlt, by show false = _; rw [isB_succ hf, ← hm2, hd]; rfl⟩⟩, by show g.ents.length - (k + 1) < g.ents.length - k; omega, ⟨(weakSl_cons rfl rfl (weakSl_cons rfl rfl (weakSl_cons rfl rfl (weakSl_cons rfl rfl (weakSl_cons rfl rfl (weakSl_cons rfl rfl (weakSl_cons (wrap_succ (by omega)) rfl weakSl_nil))))))), (weakHp_cons rfl rfl (weakHp_cons rfl rfl weakHp_nil)), rfl⟩⟩
              · have hin : k = g.ents.length := ge_map hge hk
                rw [hin, isB_all hmem] at hm2
                exact absurd hm2 (by simp)
            | true =>
              conv => whnf
              intro _
              refine ⟨fun hlt => ?_, fun hge => ?_⟩ <;> conv => whnf
              · have hlt : k < g.ents.length := lt_map hlt
                exact ⟨⟨⟨k + 1, true⟩, ⟨hlt, by
                  refine (entsAt hlt).elim fun f hf => ?_
                  show true = _; rw [isB_succ hf, ← hm2]; rfl⟩⟩, by show g.ents.length - (k + 1) < g.ents.length - k; omega, ⟨(weakSl_cons rfl rfl (weakSl_cons rfl rfl (weakSl_cons rfl rfl (weakSl_cons rfl rfl (weakSl_cons rfl rfl (weakSl_cons rfl rfl (weakSl_cons (wrap_succ (by omega)) rfl weakSl_nil))))))), (weakHp_cons rfl rfl (weakHp_cons rfl rfl weakHp_nil)), rfl⟩⟩
              · exact ⟨⟨⟨i + 1, false⟩, ⟨hlt1, by show false = _; rw [mineB_succ he, ← hm]; simp; exact hc⟩⟩, by show (seeF (entAt g.ents (atF g.ents cl)) g).ents.length - (i + 1) < (seeF (entAt g.ents (atF g.ents cl)) g).ents.length - i; omega, ⟨(weakSl_cons rfl rfl (weakSl_cons rfl rfl (weakSl_cons rfl rfl (weakSl_cons rfl rfl (weakSl_cons (wrap_succ (by omega)) rfl weakSl_nil))))), (weakHp_cons rfl rfl (weakHp_cons rfl rfl weakHp_nil)), rfl⟩⟩
        · have hin : i = (seeF (entAt g.ents (atF g.ents cl)) g).ents.length := ge_map hge hi
          rw [hin] at hm
          exact absurd (seen_me hyes.2 hg) (by show ¬ mineB (seeF (entAt g.ents (atF g.ents cl)) g).ents cl (seeF (entAt g.ents (atF g.ents cl)) g).ents.length = true; rw [← hm]; simp)
      | true =>
        conv => whnf
        intro _
        refine ⟨fun hlt1 => ?_, fun hge => ?_⟩ <;> conv => whnf
        · skip
          have hlt1 : i < (seeF (entAt g.ents (atF g.ents cl)) g).ents.length := lt_map hlt1
          refine (entsAt hlt1).elim fun e he => ?_
          have hmem : e ∈ g.ents := (List.mem_filter.1 (List.mem_of_getElem? he)).1
          refine ⟨{ x : LIn // KInv g.ents e x }, fun x => LK a b c g (seeF (entAt g.ents (atF g.ents cl)) g) cl true i x.1, fun x => g.ents.length - x.1.i, ⟨⟨0, false⟩, ⟨by simp, by simp [isB]⟩⟩, ?_, ?_⟩
          · refine ⟨?_, ?_, rfl⟩ <;> repeat' (first | exact weakSl_nil | exact weakHp_nil | refine weakSl_cons ?_ rfl ?_ | refine weakHp_cons ?_ rfl ?_)
            all_goals first | rfl | exact rfl
          rintro ⟨⟨k, is⟩, hkinv⟩
          have hk : k ≤ g.ents.length := hkinv.i
          have hm2 : is = isB g.ents e k := hkinv.m
          cases is with
          | false =>
            conv => whnf
            intro _
            refine ⟨fun hlt => ?_, fun hge => ?_⟩ <;> conv => whnf
            · have hlt : k < g.ents.length := lt_map hlt
              refine (entsAt hlt).elim fun f hf => ?_
              refine ⟨by show (0 : Int) ≤ (k : Int); omega, encEnt f, row_map hf, ?_⟩
              conv => whnf
              refine ⟨by show (0 : Int) ≤ (i : Int); omega, encEnt e, row_map he, ?_⟩
              conv => whnf
              refine ⟨fun hd => ?_, fun hd => ?_⟩ <;> conv => whnf
              · have hd : entB f e = true := hd
                exact ⟨⟨⟨k + 1, true⟩, ⟨hlt, by show true = _; rw [isB_succ hf, ← hm2, hd]; rfl⟩⟩, by show g.ents.length - (k + 1) < g.ents.length - k; omega, ⟨(weakSl_cons rfl rfl (weakSl_cons rfl rfl (weakSl_cons rfl rfl (weakSl_cons rfl rfl (weakSl_cons rfl rfl (weakSl_cons rfl rfl (weakSl_cons (wrap_succ (by omega)) rfl weakSl_nil))))))), (weakHp_cons rfl rfl (weakHp_cons rfl rfl weakHp_nil)), rfl⟩⟩
              · have hd : entB f e = false := hd
                exact ⟨⟨⟨k + 1, false⟩, ⟨hlt, by show false = _; rw [isB_succ hf, ← hm2, hd]; rfl⟩⟩, by show g.ents.length - (k + 1) < g.ents.length - k; omega, ⟨(weakSl_cons rfl rfl (weakSl_cons rfl rfl (weakSl_cons rfl rfl (weakSl_cons rfl rfl (weakSl_cons rfl rfl (weakSl_cons rfl rfl (weakSl_cons (wrap_succ (by omega)) rfl weakSl_nil))))))), (weakHp_cons rfl rfl (weakHp_cons rfl rfl weakHp_nil)), rfl⟩⟩
            · have hin : k = g.ents.length := ge_map hge hk
              rw [hin, isB_all hmem] at hm2
              exact absurd hm2 (by simp)
          | true =>
            conv => whnf
            intro _
            refine ⟨fun hlt => ?_, fun hge => ?_⟩ <;> conv => whnf
            · have hlt : k < g.ents.length := lt_map hlt
              exact ⟨⟨⟨k + 1, true⟩, ⟨hlt, by
                refine (entsAt hlt).elim fun f hf => ?_
                show true = _; rw [isB_succ hf, ← hm2]; rfl⟩⟩, by show g.ents.length - (k + 1) < g.ents.length - k; omega, ⟨(weakSl_cons rfl rfl (weakSl_cons rfl rfl (weakSl_cons rfl rfl (weakSl_cons rfl rfl (weakSl_cons rfl rfl (weakSl_cons rfl rfl (weakSl_cons (wrap_succ (by omega)) rfl weakSl_nil))))))), (weakHp_cons rfl rfl (weakHp_cons rfl rfl weakHp_nil)), rfl⟩⟩
            · exact ⟨⟨⟨i + 1, true⟩, ⟨hlt1, by show true = _; rw [mineB_succ he, ← hm]; rfl⟩⟩, by show (seeF (entAt g.ents (atF g.ents cl)) g).ents.length - (i + 1) < (seeF (entAt g.ents (atF g.ents cl)) g).ents.length - i; omega, ⟨(weakSl_cons rfl rfl (weakSl_cons rfl rfl (weakSl_cons rfl rfl (weakSl_cons rfl rfl (weakSl_cons (wrap_succ (by omega)) rfl weakSl_nil))))), (weakHp_cons rfl rfl (weakHp_cons rfl rfl weakHp_nil)), rfl⟩⟩
        · skip
          have hin : i = (seeF (entAt g.ents (atF g.ents cl)) g).ents.length := ge_map hge hi
          let P3 : Nat → Prop := fun j => True
          let I3 : Nat → SL := fun j => ⟨[(3, .ref 3 0 0 0), (4, vi cl), (5, .ref 5 0 0 0), (9, vb true), (13, vi j)], [(3, .box [.d (dEnts a g.ents), .d (dInts b g.floor), .d (dInts c g.last)]), (5, .box [.d (dEnts true (seeF (entAt g.ents (atF g.ents cl)) g).ents), .d (dInts true (seeF (entAt g.ents (atF g.ents cl)) g).floor), .d (dInts true (seeF (entAt g.ents (atF g.ents cl)) g).last)])]⟩
          refine loop_up (seeF (entAt g.ents (atF g.ents cl)) g).floor.length P3 I3 trivial ?_ ?_
          · refine ⟨?_, ?_, rfl⟩ <;> repeat' (first | exact weakSl_nil | exact weakHp_nil | refine weakSl_cons ?_ rfl ?_ | refine weakHp_cons ?_ rfl ?_)
            all_goals rfl
          intro j hj _
          conv => whnf
          intro _
          refine ⟨fun hlt => ?_, fun hge => ?_⟩ <;> conv => whnf
          · have hlt : j < (seeF (entAt g.ents (atF g.ents cl)) g).floor.length := lt_map hlt
            refine (entsAt hlt).elim fun n hn => ?_
            refine ⟨by omega, encI n, row_map hn, ?_⟩
            conv => whnf
            refine ⟨fun hd => ?_, fun hd => ?_⟩ <;> conv => whnf
            · have hgn : g.floor[j]? = some n := (hid_spec _ _ _ j n hn).resolve_left hd
              refine ⟨by omega, encI n, row_map hn, ?_⟩
              conv => whnf
              refine ⟨by omega, encI n, row_map hgn, ?_⟩
              conv => whnf
              refine ⟨fun hd => ?_, fun hd => ?_⟩ <;> conv => whnf
              · exact absurd rfl hd
              · exact up_next hlt trivial ⟨(weakSl_cons rfl rfl (weakSl_cons rfl rfl (weakSl_cons rfl rfl (weakSl_cons rfl rfl (weakSl_cons (wrap_succ (by omega)) rfl weakSl_nil))))), (weakHp_cons rfl rfl (weakHp_cons rfl rfl weakHp_nil)), rfl⟩
            · exact up_next hlt trivial ⟨(weakSl_cons rfl rfl (weakSl_cons rfl rfl (weakSl_cons rfl rfl (weakSl_cons rfl rfl (weakSl_cons (wrap_succ (by omega)) rfl weakSl_nil))))), (weakHp_cons rfl rfl (weakHp_cons rfl rfl weakHp_nil)), rfl⟩
          refine call_bool (ints_ok true c (seeF (entAt g.ents (atF g.ents cl)) g).last g.last) (fun h => ?_) (fun h => ?_) <;> conv => whnf
          · rfl
          · exact absurd (eqI_self g.last) (by show ¬ eqI g.last g.last = true; have h : eqI g.last g.last = false := h; rw [h]; simp)
    · exact absurd (eqG_self (seeF (entAt g.ents (atF g.ents cl)) g)) (by rw [h]; simp)
  · refine call_eq (seeI_no hyes) ?_
    conv => whnf
    refine call_eq (seeS_no hyes) ?_
    conv => whnf
    refine call_bool (game_eq _ _ _ _ _ _ ⟨[], [], []⟩ ⟨[], [], []⟩) (fun h => ?_) (fun h => ?_) <;> conv => whnf
    · refine call_bool (game_eq _ _ _ _ _ _ ⟨[], [], []⟩ ⟨[], [], []⟩) (fun h => ?_) (fun h => ?_) <;> conv => whnf
      · rfl
      · exact absurd (eqG_self ⟨[], [], []⟩) (by rw [h]; simp)
    · exact absurd (eqG_self ⟨[], [], []⟩) (by rw [h]; simp)
end Go.Proofs.Ytnnmkenloijkcaa
