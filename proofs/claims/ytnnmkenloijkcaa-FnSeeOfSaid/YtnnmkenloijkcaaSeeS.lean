/- What the reference shows to a figure. -/
import Derived.Test.YtnnmkenloijkcaaSeeI
set_option linter.unusedVariables false
set_option maxRecDepth 10000
namespace Go.Proofs.Ytnnmkenloijkcaa
open Go Eng

theorem inB_neg (a b : Int) : inB (a - b) (-1) 1 = inB (b - a) (-1) 1 := by
  rw [Bool.eq_iff_iff, inB_t, inB_t]; omega
theorem sees_ok (e : Ent) (x y : Int) (he : xyOk e) (hx : 0 ≤ x ∧ x ≤ 3) (hy : 0 ≤ y ∧ y ≤ 3) : ACalls Try.prog G0 39 [vEnt e, vi x, vi y] (· = vb (nearF e ⟨0, x, y, 0, 0⟩)) := by
  unfold xyOk at he
  refine spec_intro tabOk Try.func39 (by kernel_rfl) rfl ?_
  conv => whnf
  have w1 : IntKind.i64.wrap (x - e.x) = x - e.x := wrap_id (by omega) (by omega)
  have w2 : IntKind.i64.wrap (y - e.y) = y - e.y := wrap_id (by omega) (by omega)
  refine call_bool (l1In_ok _ _ _) (fun h => ?_) (fun h => ?_) <;> conv => whnf
  · rw [w1, inB_neg] at h
    refine call_bool (l1In_ok _ _ _) (fun h2 => ?_) (fun h2 => ?_) <;> conv => whnf
    · rw [w2, inB_neg] at h2; simp [vb, nearF, h, h2]
    · rw [w2, inB_neg] at h2; simp [vb, nearF, h, h2]
  · rw [w1, inB_neg] at h; simp [vb, nearF, h]

abbrev hq6 (a b c : Bool) (g : Game) (me : Ent) (v : V) (fl : List (List D)) : HP := [(2, .box [.d (dEnts a g.ents), .d (dInts b g.floor), .d (dInts c g.last)]), (4, .box [.d (.slc true 5 []), .d (.slc true 1 []), .d (.slc true 1 [])]), (6, .box [vi me.client, vi me.x, vi me.y, vi me.life, vi me.gold]),
     (7, .box [v, .own 30, .own 34]), (30, .arr false 1 fl), (34, .arr false 1 (g.last.map encI))]
def TI9 (a b c : Bool) (g : Game) (me : Ent) (x : SIn) : SL :=
  match x.es with
  | [] => ⟨[(2, .ref 2 0 0 0), (4, .ref 4 0 0 0), (6, .ref 6 0 0 0), (7, .ref 7 0 0 0), (9, vi x.i)], hq6 a b c g me (.d (.slc true 5 [])) ((hid me g.floor g.floor.length).map encI)⟩
  | r :: rs => ⟨[(2, .ref 2 0 0 0), (4, .ref 4 0 0 0), (6, .ref 6 0 0 0), (7, .ref 7 0 0 0), (9, vi x.i)], hq6 a b c g me (.osl 83 5 ((r :: rs).map encEnt)) ((hid me g.floor g.floor.length).map encI) ++ [(83, .grow 5 (rs.length + 1))]⟩
noncomputable def seeS (a b c : Bool) (g : Game) (cl : Int) : V :=
  if okG g = true ∧ 0 ≤ atF g.ents cl then .tup [vGame (seen (entAt g.ents (atF g.ents cl)) g.ents).isEmpty false false (seeF (entAt g.ents (atF g.ents cl)) g), vb true]
  else .tup [vGame true true true ⟨[], [], []⟩, vb false]

theorem seeOfS_ok (a b c : Bool) (g : Game) (cl : Int) : ACalls Try.prog G0 9 [vGame a b c g, vi cl] (· = seeS a b c g cl) := by
  refine spec_own tabOk Try.func9 (by kernel_rfl) [30, 34] [] rfl ?_
  conv => whnf
  have no : ∀ {v : V}, ¬ (okG g = true ∧ 0 ≤ atF g.ents cl) → v = .tup [vGame true true true ⟨[], [], []⟩, vb false] → v = seeS a b c g cl := fun hn hv => by
    rw [hv]; simp only [seeS, if_neg hn]
  refine call_bool (l2Ok_ok a b c g) (fun hok => ?_) (fun hok => ?_) <;> conv => whnf
  · refine call_eq (at_ok a b c g cl) ?_
    conv => whnf
    refine ⟨fun hat => ?_, fun hat => ?_⟩ <;> conv => whnf
    · exact no (by omega) rfl
    have hyes : okG g = true ∧ 0 ≤ atF g.ents cl := ⟨hok, by omega⟩
    have hyesv : seeS a b c g cl = .tup [vGame (seen (entAt g.ents (atF g.ents cl)) g.ents).isEmpty false false (seeF (entAt g.ents (atF g.ents cl)) g), vb true] := by simp only [seeS, if_pos hyes]
    have hok' := of_okG hok
    have hg := ok_good hok'
    have h0 := hyes.2
    have h1 : atF g.ents cl < g.ents.length := by rcases atF_spec g.ents cl with ⟨h, _⟩ | ⟨i, h, hi, _⟩ <;> omega
    have hfl := hg.nfloor
    have hla := hg.nlast
    have hen := good_len hg
    have hme : xyOk (entAt g.ents (atF g.ents cl)) := good_xy hg (entAt_mem (by omega))
    refine drawn_eq (at_ok a b c g cl) ?_
    conv => whnf
    refine ⟨h0, _, entAt_row h0 h1, ?_⟩
    conv => whnf
    refine ⟨room (by simp; omega) rfl, room' (by simp; omega), ?_⟩
    conv => whnf
    refine ⟨room (by simp; omega) rfl, room' (by simp; omega), ?_⟩
    conv => whnf
    let P2 : Nat → Prop := fun k => True
    let I2 : Nat → SL := fun k => ⟨[(2, .ref 2 0 0 0), (4, .ref 4 0 0 0), (6, .ref 6 0 0 0), (7, .ref 7 0 0 0), (8, vi k)], hq6 a b c g (entAt g.ents (atF g.ents cl)) (.d (.slc true 5 [])) ((hid (entAt g.ents (atF g.ents cl)) g.floor k).map encI)⟩
    refine loop_up g.floor.length P2 I2 trivial ?_ ?_
    · refine ⟨?_, ?_, rfl⟩ <;> repeat' (first | exact weakSl_nil | exact weakHp_nil | refine weakSl_cons ?_ rfl ?_ | refine weakHp_cons ?_ rfl ?_)
      all_goals rfl
    intro k hk _
    conv => whnf
    intro _
    refine ⟨fun hlt => ?_, fun hge => ?_⟩ <;> conv => whnf
    · have hlt : k < g.floor.length := by have := lt_map hlt; rw [hid_len] at this; exact this
      have hxy := cellE_xy (i := k) (by omega)
      unfold xyOk cellE at hxy
      have w1 : IntKind.i64.wrap ((k : Int).tdiv 4) = (k : Int).tdiv 4 := wrap_id (by dsimp only at hxy; omega) (by dsimp only at hxy; omega)
      refine ⟨by omega, ?_⟩
      conv => whnf
      refine ⟨by omega, ?_⟩
      conv => whnf
      refine call_bool' (sees_ok (entAt g.ents (atF g.ents cl)) ((k : Int).tmod 4) ((k : Int).tdiv 4) hme ⟨hxy.1, hxy.2.1⟩ ⟨hxy.2.2.1, hxy.2.2.2⟩) (by rw [w1]; rfl) (fun hn => ?_) (fun hn => ?_) <;> conv => whnf
      · have hn : nearF (entAt g.ents (atF g.ents cl)) (cellE k) = true := hn
        have hh : hid (entAt g.ents (atF g.ents cl)) g.floor (k + 1) = hid (entAt g.ents (atF g.ents cl)) g.floor k := by simp only [hid, hn]
        refine up_next hlt trivial ⟨(weakSl_cons rfl rfl (weakSl_cons rfl rfl (weakSl_cons rfl rfl (weakSl_cons rfl rfl (weakSl_cons (wrap_succ (by omega)) rfl weakSl_nil))))), (weakHp_cons rfl rfl (weakHp_cons rfl rfl (weakHp_cons rfl rfl (weakHp_cons rfl rfl (weakHp_cons (congrArg (fun z : List Int => Obj.arr false 1 (z.map encI)) hh.symm) rfl (weakHp_cons rfl rfl weakHp_nil)))))), rfl⟩
      · have hn : nearF (entAt g.ents (atF g.ents cl)) (cellE k) = false := hn
        refine ⟨by omega, by simp [hid_len]; omega, ?_⟩
        conv => whnf
        refine ⟨encI (intAt (hid (entAt g.ents (atF g.ents cl)) g.floor k) k), intAt_row (by omega) (by rw [hid_len]; omega), ?_⟩
        conv => whnf
        have hh : (hid (entAt g.ents (atF g.ents cl)) g.floor k).set k (-1) = hid (entAt g.ents (atF g.ents cl)) g.floor (k + 1) := by simp only [hid, hn]
        have hh2 : Obj.arr false 1 (((hid (entAt g.ents (atF g.ents cl)) g.floor k).map encI).set (k : Int).toNat (encI (-1))) = .arr false 1 ((hid (entAt g.ents (atF g.ents cl)) g.floor (k + 1)).map encI) := by
          rw [← hh]; exact congrArg (Obj.arr false 1) (set_row rfl)
        refine up_next hlt trivial ⟨(weakSl_cons rfl rfl (weakSl_cons rfl rfl (weakSl_cons rfl rfl (weakSl_cons rfl rfl (weakSl_cons (wrap_succ (by omega)) rfl weakSl_nil))))), (weakHp_cons rfl rfl (weakHp_cons rfl rfl (weakHp_cons rfl rfl (weakHp_cons rfl rfl (weakHp_cons hh2 rfl (weakHp_cons rfl rfl weakHp_nil)))))), rfl⟩
    have hkn : k = g.floor.length := ge_map hge (by rw [hid_len]; exact hk) |>.trans (hid_len _ _ _)
    refine ⟨{ x : SIn // SInv g (entAt g.ents (atF g.ents cl)) x }, fun x => TI9 a b c g (entAt g.ents (atF g.ents cl)) x.1, fun x => g.ents.length - x.1.i, ⟨⟨0, []⟩, ⟨by simp, by simp [seen]⟩⟩, ?_, ?_⟩
    · refine ⟨?_, ?_, rfl⟩ <;> repeat' (first | exact weakSl_nil | exact weakHp_nil | refine weakSl_cons ?_ rfl ?_ | refine weakHp_cons ?_ rfl ?_)
      any_goals rfl
      exact congrArg (fun z => Obj.arr false 1 ((hid (entAt g.ents (atF g.ents cl)) g.floor z).map encI)) hkn
    rintro ⟨⟨i, es⟩, hinv⟩
    have hi : i ≤ g.ents.length := hinv.i
    have hes : es = seen (entAt g.ents (atF g.ents cl)) (g.ents.take i) := hinv.es
    cases es with
    | nil =>
      conv => whnf
      intro _
      refine ⟨fun hlt => ?_, fun hge => ?_⟩ <;> conv => whnf
      · have hlt : i < g.ents.length := lt_map hlt
        refine (entsAt hlt).elim fun e he => ?_
        refine ⟨by show (0 : Int) ≤ (i : Int); omega, encEnt e, row_map he, ?_⟩
        conv => whnf
        refine ⟨by show (0 : Int) ≤ (i : Int); omega, encEnt e, row_map he, ?_⟩
        conv => whnf
        have hexy := good_xy hg (List.mem_of_getElem? he)
        refine drawn_bool (sees_ok (entAt g.ents (atF g.ents cl)) e.x e.y hme ⟨hexy.1, hexy.2.1⟩ ⟨hexy.2.2.1, hexy.2.2.2⟩) (fun hn => ?_) (fun hn => ?_) <;> conv => whnf
        · have hn : nearF (entAt g.ents (atF g.ents cl)) e = true := hn
          refine ⟨by show (0 : Int) ≤ (i : Int); omega, encEnt e, row_map he, ?_⟩
          conv => whnf
          refine ⟨room (by simp) rfl, room' (by simp), ?_⟩
          conv => whnf
          have hinv' : SInv g (entAt g.ents (atF g.ents cl)) ⟨i + 1, [e]⟩ := ⟨hlt, by show [e] = _; rw [seen_succ he, ← hes, hn]; rfl⟩
          exact ⟨⟨⟨i + 1, [e]⟩, hinv'⟩, by show g.ents.length - (i + 1) < g.ents.length - i; omega, ⟨(weakSl_cons rfl rfl (weakSl_cons rfl rfl (weakSl_cons rfl rfl (weakSl_cons rfl rfl (weakSl_cons (wrap_succ (by omega)) rfl weakSl_nil))))), (weakHp_cons rfl rfl (weakHp_cons rfl rfl (weakHp_cons rfl rfl (weakHp_cons rfl rfl (weakHp_cons rfl rfl (weakHp_cons rfl rfl (weakHp_cons rfl rfl weakHp_nil))))))), rfl⟩⟩
        · have hn : nearF (entAt g.ents (atF g.ents cl)) e = false := hn
          have hinv' : SInv g (entAt g.ents (atF g.ents cl)) ⟨i + 1, []⟩ := ⟨hlt, by show [] = _; rw [seen_succ he, ← hes, hn]; simp⟩
          exact ⟨⟨⟨i + 1, []⟩, hinv'⟩, by show g.ents.length - (i + 1) < g.ents.length - i; omega, ⟨(weakSl_cons rfl rfl (weakSl_cons rfl rfl (weakSl_cons rfl rfl (weakSl_cons rfl rfl (weakSl_cons (wrap_succ (by omega)) rfl weakSl_nil))))), (weakHp_cons rfl rfl (weakHp_cons rfl rfl (weakHp_cons rfl rfl (weakHp_cons rfl rfl (weakHp_cons rfl rfl (weakHp_cons rfl rfl weakHp_nil)))))), rfl⟩⟩
      have hin : i = g.ents.length := ge_map hge hi
      have hseen : [] = seen (entAt g.ents (atF g.ents cl)) g.ents := by
        rw [hes, hin, List.take_length]
      have hflag : (seen (entAt g.ents (atF g.ents cl)) g.ents).isEmpty = true := by rw [← hseen]; rfl
      refine (?_ : V.tup [_, vb true] = _)
      rw [hyesv, hflag]
      refine congrArg (fun v => V.tup [v, vb true]) (vGame_ext ?_ rfl rfl)
      show ([] : List Ent).map encEnt = (seen (entAt g.ents (atF g.ents cl)) g.ents).map encEnt
      rw [← hseen]
    | cons r rs =>
      have hrl : rs.length ≤ 4 := by
        have h1 : (r :: rs).length ≤ (g.ents.take i).length := by rw [hes]; exact List.length_filter_le _ _
        simp at h1; omega
      conv => whnf
      intro _
      refine ⟨fun hlt => ?_, fun hge => ?_⟩ <;> conv => whnf
      · have hlt : i < g.ents.length := lt_map hlt
        refine (entsAt hlt).elim fun e he => ?_
        refine ⟨by show (0 : Int) ≤ (i : Int); omega, encEnt e, row_map he, ?_⟩
        conv => whnf
        refine ⟨by show (0 : Int) ≤ (i : Int); omega, encEnt e, row_map he, ?_⟩
        conv => whnf
        have hexy := good_xy hg (List.mem_of_getElem? he)
        refine drawn_bool (sees_ok (entAt g.ents (atF g.ents cl)) e.x e.y hme ⟨hexy.1, hexy.2.1⟩ ⟨hexy.2.2.1, hexy.2.2.2⟩) (fun hn => ?_) (fun hn => ?_) <;> conv => whnf
        · have hn : nearF (entAt g.ents (atF g.ents cl)) e = true := hn
          refine ⟨by show (0 : Int) ≤ (i : Int); omega, encEnt e, row_map he, ?_⟩
          conv => whnf
          refine ⟨by simp, room (by simp; omega) rfl, room' (by simp; omega), ?_⟩
          conv => whnf
          have happ : Obj.box [.osl 83 5 ((r :: rs).map encEnt ++ [encEnt e]), .own 30, .own 34] = .box [.osl 83 5 ((r :: (rs ++ [e])).map encEnt), .own 30, .own 34] := by simp
          have hgrow : Obj.grow 5 (((r :: rs).map encEnt).length + 1) = .grow 5 ((rs ++ [e]).length + 1) := by simp
          have hinv' : SInv g (entAt g.ents (atF g.ents cl)) ⟨i + 1, r :: (rs ++ [e])⟩ := ⟨hlt, by show r :: (rs ++ [e]) = _; rw [seen_succ he, ← hes, hn]; rfl⟩
          exact ⟨⟨⟨i + 1, r :: (rs ++ [e])⟩, hinv'⟩, by show g.ents.length - (i + 1) < g.ents.length - i; omega, ⟨(weakSl_cons rfl rfl (weakSl_cons rfl rfl (weakSl_cons rfl rfl (weakSl_cons rfl rfl (weakSl_cons (wrap_succ (by omega)) rfl weakSl_nil))))), (weakHp_cons rfl rfl (weakHp_cons rfl rfl (weakHp_cons rfl rfl (weakHp_cons happ rfl (weakHp_cons rfl rfl (weakHp_cons rfl rfl (weakHp_cons hgrow rfl weakHp_nil))))))), rfl⟩⟩
        · have hn : nearF (entAt g.ents (atF g.ents cl)) e = false := hn
          have hinv' : SInv g (entAt g.ents (atF g.ents cl)) ⟨i + 1, r :: rs⟩ := ⟨hlt, by show r :: rs = _; rw [seen_succ he, ← hes, hn]; simp⟩
          exact ⟨⟨⟨i + 1, r :: rs⟩, hinv'⟩, by show g.ents.length - (i + 1) < g.ents.length - i; omega, ⟨(weakSl_cons rfl rfl (weakSl_cons rfl rfl (weakSl_cons rfl rfl (weakSl_cons rfl rfl (weakSl_cons (wrap_succ (by omega)) rfl weakSl_nil))))), (weakHp_cons rfl rfl (weakHp_cons rfl rfl (weakHp_cons rfl rfl (weakHp_cons rfl rfl (weakHp_cons rfl rfl (weakHp_cons rfl rfl (weakHp_cons rfl rfl weakHp_nil))))))), rfl⟩⟩
      have hin : i = g.ents.length := ge_map hge hi
      have hseen : r :: rs = seen (entAt g.ents (atF g.ents cl)) g.ents := by
        rw [hes, hin, List.take_length]
      have hflag : (seen (entAt g.ents (atF g.ents cl)) g.ents).isEmpty = false := by rw [← hseen]; rfl
      refine (?_ : V.tup [_, vb true] = _)
      rw [hyesv, hflag]
      refine congrArg (fun v => V.tup [v, vb true]) (vGame_ext ?_ rfl rfl)
      show (r :: rs : List Ent).map encEnt = (seen (entAt g.ents (atF g.ents cl)) g.ents).map encEnt
      rw [← hseen]
  · exact no (by simp [hok]) rfl
end Go.Proofs.Ytnnmkenloijkcaa
