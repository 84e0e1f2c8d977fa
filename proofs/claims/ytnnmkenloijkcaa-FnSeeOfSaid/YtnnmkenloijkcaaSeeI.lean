/- What the program shows to a figure. -/
import Derived.Test.YtnnmkenloijkcaaImplB
set_option linter.unusedVariables false
set_option maxRecDepth 10000
namespace Go.Proofs.Ytnnmkenloijkcaa
open Go Eng

def cellE (i : Nat) : Ent := ⟨0, (i : Int).tmod 4, (i : Int).tdiv 4, 0, 0⟩
/-- The floor, of which the first places are looked at. -/
def hid (me : Ent) (fl : List Int) : Nat → List Int
  | 0 => fl
  | i + 1 => match nearF me (cellE i) with
    | true => hid me fl i
    | false => (hid me fl i).set i (-1)
theorem hid_len (me : Ent) (fl : List Int) : ∀ i, (hid me fl i).length = fl.length
  | 0 => rfl
  | i + 1 => by
    unfold hid
    split
    · exact hid_len me fl i
    · simp [hid_len me fl i]
def seen (me : Ent) (l : List Ent) : List Ent := l.filter (nearF me)
def seeF (me : Ent) (g : Game) : Game := ⟨seen me g.ents, hid me g.floor g.floor.length, g.last⟩
theorem seen_succ {me : Ent} {l : List Ent} {i : Nat} {e : Ent} (h : l[i]? = some e) : seen me (l.take (i + 1)) = seen me (l.take i) ++ (match nearF me e with | true => [e] | false => []) := by
  rw [List.take_add_one, h]
  simp only [seen, List.filter_append, Option.toList_some]
  cases hb : nearF me e <;> simp [List.filter_cons, hb]

/-- What the first loop holds of what is seen. -/
structure SIn where
  i : Nat
  es : List Ent
structure SInv (g : Game) (me : Ent) (x : SIn) : Prop where
  i : x.i ≤ g.ents.length
  es : x.es = seen me (g.ents.take x.i)
abbrev hp6 (a b c : Bool) (g : Game) (me : Ent) (v : V) (fl : List (List D)) : HP := [(2, .box [.d (dEnts a g.ents), .d (dInts b g.floor), .d (dInts c g.last)]), (4, .box [.d (.slc true 5 []), .d (.slc true 1 []), .d (.slc true 1 [])]), (7, .box [vi me.client, vi me.x, vi me.y, vi me.life, vi me.gold]),
     (8, .box [v, .own 30, .own 33]), (30, .arr true 1 fl), (33, .arr true 1 (g.last.map encI))]
def SI (a b c : Bool) (g : Game) (me : Ent) (x : SIn) : SL :=
  match x.es with
  | [] => ⟨[(2, .ref 2 0 0 0), (4, .ref 4 0 0 0), (7, .ref 7 0 0 0), (8, .ref 8 0 0 0), (36, .d (dEnts a g.ents)), (37, vi (g.ents.map encEnt).length), (38, vi x.i)], hp6 a b c g me (.d (.slc true 5 [])) (g.floor.map encI)⟩
  | r :: rs => ⟨[(2, .ref 2 0 0 0), (4, .ref 4 0 0 0), (7, .ref 7 0 0 0), (8, .ref 8 0 0 0), (36, .d (dEnts a g.ents)), (37, vi (g.ents.map encEnt).length), (38, vi x.i)], hp6 a b c g me (.osl 49 5 ((r :: rs).map encEnt)) (g.floor.map encI) ++ [(49, .grow 5 (rs.length + 1))]⟩

noncomputable def seeI (a b c : Bool) (g : Game) (cl : Int) : V :=
  if okG g = true ∧ 0 ≤ atF g.ents cl then .tup [vGame true true true (seeF (entAt g.ents (atF g.ents cl)) g), vb true]
  else .tup [vGame true true true ⟨[], [], []⟩, vb false]

theorem good_xy {g : Game} (h : Good g) {e : Ent} (he : e ∈ g.ents) : xyOk e := by
  have := h.ent e he
  unfold xyOk; omega
theorem cellE_xy {i : Nat} (h : i < 16) : xyOk (cellE i) := by
  unfold xyOk cellE
  have h1 := Int.tmod_nonneg (4 : Int) (a := (i : Int)) (by omega)
  have h2 := Int.tmod_lt_of_pos (i : Int) (b := 4) (by omega)
  have h3 := Int.tdiv_nonneg (a := (i : Int)) (b := 4) (by omega) (by omega)
  have h4 : (i : Int).tdiv 4 < 4 := by rw [Int.tdiv_eq_ediv_of_nonneg (by omega)]; omega
  dsimp only
  omega

theorem seeOf_ok (a b c : Bool) (g : Game) (cl : Int) : ACalls Try.prog G0 8 [vGame a b c g, vi cl] (· = seeI a b c g cl) := by
  refine spec_own tabOk Try.func8 (by kernel_rfl) [30, 33] [34] rfl ?_
  conv => whnf
  refine call_eq (figure_ok a b c g cl) ?_
  conv => whnf
  have no : ∀ {v : V}, ¬ (okG g = true ∧ 0 ≤ atF g.ents cl) → v = .tup [vGame true true true ⟨[], [], []⟩, vb false] → v = seeI a b c g cl := fun hn hv => by
    rw [hv]; simp only [seeI, if_neg hn]
  refine call_bool (gameOk_ok a b c g) (fun hok => ?_) (fun hok => ?_) <;> conv => whnf
  · refine ⟨fun hat => ?_, fun hat => ?_⟩ <;> conv => whnf
    · exact no (by omega) rfl
    have hyes : okG g = true ∧ 0 ≤ atF g.ents cl := ⟨hok, by omega⟩
    have hyesv : seeI a b c g cl = .tup [vGame true true true (seeF (entAt g.ents (atF g.ents cl)) g), vb true] := by simp only [seeI, if_pos hyes]
    have hok' := of_okG hok
    have hg := ok_good hok'
    have h0 := hyes.2
    have h1 : atF g.ents cl < g.ents.length := by rcases atF_spec g.ents cl with ⟨h, _⟩ | ⟨i, h, hi, _⟩ <;> omega
    have hfl := hg.nfloor
    have hla := hg.nlast
    have hen := good_len hg
    have hme : xyOk (entAt g.ents (atF g.ents cl)) := good_xy hg (entAt_mem (by omega))
    refine ⟨h0, _, entAt_row h0 h1, ?_⟩
    conv => whnf
    refine ⟨.arr true 1 (g.floor.map encI), cloneI_own b g.floor (by rintro h; rw [h] at hfl; simp at hfl) (by omega) 30, ?_⟩
    conv => whnf
    refine ⟨.arr true 1 (g.last.map encI), cloneI_own c g.last (by rintro h; rw [h] at hla; simp at hla) (by omega) 33, ?_⟩
    conv => whnf
    intro hlen
    refine ⟨{ x : SIn // SInv g (entAt g.ents (atF g.ents cl)) x }, fun x => SI a b c g (entAt g.ents (atF g.ents cl)) x.1, fun x => g.ents.length - x.1.i, ⟨⟨0, []⟩, ⟨by simp, by simp [seen]⟩⟩, ?_, ?_⟩
    · refine ⟨?_, ?_, rfl⟩ <;> repeat' (first | exact weakSl_nil | exact weakHp_nil | refine weakSl_cons ?_ rfl ?_ | refine weakHp_cons ?_ rfl ?_)
      all_goals rfl
    rintro ⟨⟨i, es⟩, hinv⟩
    have hi : i ≤ g.ents.length := hinv.i
    have hes : es = seen (entAt g.ents (atF g.ents cl)) (g.ents.take i) := hinv.es
    cases es with
    | nil =>
      conv => whnf
      refine ⟨fun hlt => ?_, fun hge => ?_⟩ <;> conv => whnf
      · have hlt : i < g.ents.length := lt_map hlt
        refine (entsAt hlt).elim fun e he => ?_
        refine ⟨by show (0 : Int) ≤ (i : Int); omega, encEnt e, row_map he, ?_⟩
        conv => whnf
        refine call_bool (nearI_ok (entAt g.ents (atF g.ents cl)) e hme (good_xy hg (List.mem_of_getElem? he))) (fun hn => ?_) (fun hn => ?_) <;> conv => whnf
        · refine ⟨room (by simp) rfl, room' (by simp), ?_⟩
          conv => whnf
          have hinv' : SInv g (entAt g.ents (atF g.ents cl)) ⟨i + 1, [e]⟩ := ⟨hlt, by show [e] = _; rw [seen_succ he, ← hes, hn]; rfl⟩
          exact ⟨⟨⟨i + 1, [e]⟩, hinv'⟩, by show g.ents.length - (i + 1) < g.ents.length - i; omega, ⟨(weakSl_cons rfl rfl (weakSl_cons rfl rfl (weakSl_cons rfl rfl (weakSl_cons rfl rfl (weakSl_cons rfl rfl (weakSl_cons rfl rfl (weakSl_cons (wrap_succ (by omega)) rfl weakSl_nil))))))), (weakHp_cons rfl rfl (weakHp_cons rfl rfl (weakHp_cons rfl rfl (weakHp_cons rfl rfl (weakHp_cons rfl rfl (weakHp_cons rfl rfl (weakHp_cons rfl rfl weakHp_nil))))))), rfl⟩⟩
        · have hinv' : SInv g (entAt g.ents (atF g.ents cl)) ⟨i + 1, []⟩ := ⟨hlt, by show [] = _; rw [seen_succ he, ← hes, hn]; simp⟩
          exact ⟨⟨⟨i + 1, []⟩, hinv'⟩, by show g.ents.length - (i + 1) < g.ents.length - i; omega, ⟨(weakSl_cons rfl rfl (weakSl_cons rfl rfl (weakSl_cons rfl rfl (weakSl_cons rfl rfl (weakSl_cons rfl rfl (weakSl_cons rfl rfl (weakSl_cons (wrap_succ (by omega)) rfl weakSl_nil))))))), (weakHp_cons rfl rfl (weakHp_cons rfl rfl (weakHp_cons rfl rfl (weakHp_cons rfl rfl (weakHp_cons rfl rfl (weakHp_cons rfl rfl weakHp_nil)))))), rfl⟩⟩
      have hin : i = g.ents.length := ge_map hge hi
      have hseen : [] = seen (entAt g.ents (atF g.ents cl)) g.ents := by
        rw [hes, hin, List.take_length]
      intro _
      let P2 : Nat → Prop := fun k => True
      let I2 : Nat → SL := fun k => ⟨[(2, .ref 2 0 0 0), (4, .ref 4 0 0 0), (7, .ref 7 0 0 0), (8, .ref 8 0 0 0), (54, vi (g.floor.map encI).length), (55, vi k)], hp6 a b c g (entAt g.ents (atF g.ents cl)) (.d (.slc true 5 [])) ((hid (entAt g.ents (atF g.ents cl)) g.floor k).map encI)⟩
      refine loop_up g.floor.length P2 I2 trivial ?_ ?_
      · refine ⟨?_, ?_, rfl⟩ <;> repeat' (first | exact weakSl_nil | exact weakHp_nil | refine weakSl_cons ?_ rfl ?_ | refine weakHp_cons ?_ rfl ?_)
        all_goals rfl
      intro k hk _
      conv => whnf
      refine ⟨fun hlt => ?_, fun hge => ?_⟩ <;> conv => whnf
      · have hlt : k < g.floor.length := lt_map hlt
        have w1 : IntKind.i64.wrap ((k : Int).tdiv 4) = (k : Int).tdiv 4 := by
          have := cellE_xy (i := k) (by omega)
          unfold xyOk cellE at this
          exact wrap_id (by dsimp only at this; omega) (by dsimp only at this; omega)
        refine ⟨by omega, ?_⟩
        conv => whnf
        refine ⟨by omega, ?_⟩
        conv => whnf
        refine call_bool' (nearI_ok (entAt g.ents (atF g.ents cl)) (cellE k) hme (cellE_xy (by omega))) (by rw [w1]; rfl) (fun hn => ?_) (fun hn => ?_) <;> conv => whnf
        · have hh : hid (entAt g.ents (atF g.ents cl)) g.floor (k + 1) = hid (entAt g.ents (atF g.ents cl)) g.floor k := by simp only [hid, hn]
          refine up_next hlt trivial ⟨(weakSl_cons rfl rfl (weakSl_cons rfl rfl (weakSl_cons rfl rfl (weakSl_cons rfl rfl (weakSl_cons rfl rfl (weakSl_cons (wrap_succ (by omega)) rfl weakSl_nil)))))), (weakHp_cons rfl rfl (weakHp_cons rfl rfl (weakHp_cons rfl rfl (weakHp_cons rfl rfl (weakHp_cons (congrArg (fun z : List Int => Obj.arr true 1 (z.map encI)) hh.symm) rfl (weakHp_cons rfl rfl weakHp_nil)))))), rfl⟩
        · refine ⟨by omega, by simp [hid_len]; omega, ?_⟩
          conv => whnf
          refine ⟨encI (intAt (hid (entAt g.ents (atF g.ents cl)) g.floor k) k), intAt_row (by omega) (by rw [hid_len]; omega), ?_⟩
          conv => whnf
          have hh : (hid (entAt g.ents (atF g.ents cl)) g.floor k).set k (-1) = hid (entAt g.ents (atF g.ents cl)) g.floor (k + 1) := by simp only [hid, hn]
          have hh2 : Obj.arr true 1 (((hid (entAt g.ents (atF g.ents cl)) g.floor k).map encI).set (k : Int).toNat (encI (-1))) = .arr true 1 ((hid (entAt g.ents (atF g.ents cl)) g.floor (k + 1)).map encI) := by
            rw [← hh]; exact congrArg (Obj.arr true 1) (set_row rfl)
          refine up_next hlt trivial ⟨(weakSl_cons rfl rfl (weakSl_cons rfl rfl (weakSl_cons rfl rfl (weakSl_cons rfl rfl (weakSl_cons rfl rfl (weakSl_cons (wrap_succ (by omega)) rfl weakSl_nil)))))), (weakHp_cons rfl rfl (weakHp_cons rfl rfl (weakHp_cons rfl rfl (weakHp_cons rfl rfl (weakHp_cons hh2 rfl (weakHp_cons rfl rfl weakHp_nil)))))), rfl⟩
      have hkn : k = g.floor.length := ge_map hge hk
      refine call_eq (clipE_ok true []) ?_
      conv => whnf
      refine (?_ : V.tup [_, vb true] = _)
      rw [hyesv]
      refine congrArg (fun v => V.tup [v, vb true]) (vGame_ext ?_ ?_ rfl)
      · show ([] : List Ent).map encEnt = (seen (entAt g.ents (atF g.ents cl)) g.ents).map encEnt
        rw [← hseen]
      · show (hid (entAt g.ents (atF g.ents cl)) g.floor k).map encI = (hid (entAt g.ents (atF g.ents cl)) g.floor g.floor.length).map encI
        rw [hkn]
    | cons r rs =>
      have hrl : rs.length ≤ 4 := by
        have h1 : (r :: rs).length ≤ (g.ents.take i).length := by rw [hes]; exact List.length_filter_le _ _
        simp at h1; omega
      conv => whnf
      refine ⟨fun hlt => ?_, fun hge => ?_⟩ <;> conv => whnf
      · have hlt : i < g.ents.length := lt_map hlt
        refine (entsAt hlt).elim fun e he => ?_
        refine ⟨by show (0 : Int) ≤ (i : Int); omega, encEnt e, row_map he, ?_⟩
        conv => whnf
        refine call_bool (nearI_ok (entAt g.ents (atF g.ents cl)) e hme (good_xy hg (List.mem_of_getElem? he))) (fun hn => ?_) (fun hn => ?_) <;> conv => whnf
        · refine ⟨by simp, room (by simp; omega) rfl, room' (by simp; omega), ?_⟩
          conv => whnf
          have happ : Obj.box [.osl 49 5 ((r :: rs).map encEnt ++ [encEnt e]), .own 30, .own 33] = .box [.osl 49 5 ((r :: (rs ++ [e])).map encEnt), .own 30, .own 33] := by simp
          have hgrow : Obj.grow 5 (((r :: rs).map encEnt).length + 1) = .grow 5 ((rs ++ [e]).length + 1) := by simp
          have hinv' : SInv g (entAt g.ents (atF g.ents cl)) ⟨i + 1, r :: (rs ++ [e])⟩ := ⟨hlt, by show r :: (rs ++ [e]) = _; rw [seen_succ he, ← hes, hn]; rfl⟩
          exact ⟨⟨⟨i + 1, r :: (rs ++ [e])⟩, hinv'⟩, by show g.ents.length - (i + 1) < g.ents.length - i; omega, ⟨(weakSl_cons rfl rfl (weakSl_cons rfl rfl (weakSl_cons rfl rfl (weakSl_cons rfl rfl (weakSl_cons rfl rfl (weakSl_cons rfl rfl (weakSl_cons (wrap_succ (by omega)) rfl weakSl_nil))))))), (weakHp_cons rfl rfl (weakHp_cons rfl rfl (weakHp_cons rfl rfl (weakHp_cons happ rfl (weakHp_cons rfl rfl (weakHp_cons rfl rfl (weakHp_cons hgrow rfl weakHp_nil))))))), rfl⟩⟩
        · have hinv' : SInv g (entAt g.ents (atF g.ents cl)) ⟨i + 1, r :: rs⟩ := ⟨hlt, by show r :: rs = _; rw [seen_succ he, ← hes, hn]; simp⟩
          exact ⟨⟨⟨i + 1, r :: rs⟩, hinv'⟩, by show g.ents.length - (i + 1) < g.ents.length - i; omega, ⟨(weakSl_cons rfl rfl (weakSl_cons rfl rfl (weakSl_cons rfl rfl (weakSl_cons rfl rfl (weakSl_cons rfl rfl (weakSl_cons rfl rfl (weakSl_cons (wrap_succ (by omega)) rfl weakSl_nil))))))), (weakHp_cons rfl rfl (weakHp_cons rfl rfl (weakHp_cons rfl rfl (weakHp_cons rfl rfl (weakHp_cons rfl rfl (weakHp_cons rfl rfl (weakHp_cons rfl rfl weakHp_nil))))))), rfl⟩⟩
      have hin : i = g.ents.length := ge_map hge hi
      have hseen : r :: rs = seen (entAt g.ents (atF g.ents cl)) g.ents := by
        rw [hes, hin, List.take_length]
      intro _
      let P2 : Nat → Prop := fun k => True
      let I2 : Nat → SL := fun k => ⟨[(2, .ref 2 0 0 0), (4, .ref 4 0 0 0), (7, .ref 7 0 0 0), (8, .ref 8 0 0 0), (54, vi (g.floor.map encI).length), (55, vi k)], hp6 a b c g (entAt g.ents (atF g.ents cl)) (.osl 49 5 ((r :: rs).map encEnt)) ((hid (entAt g.ents (atF g.ents cl)) g.floor k).map encI) ++ [(49, .grow 5 (rs.length + 1))]⟩
      refine loop_up g.floor.length P2 I2 trivial ?_ ?_
      · refine ⟨?_, ?_, rfl⟩ <;> repeat' (first | exact weakSl_nil | exact weakHp_nil | refine weakSl_cons ?_ rfl ?_ | refine weakHp_cons ?_ rfl ?_)
        all_goals rfl
      intro k hk _
      conv => whnf
      refine ⟨fun hlt => ?_, fun hge => ?_⟩ <;> conv => whnf
      · have hlt : k < g.floor.length := lt_map hlt
        have w1 : IntKind.i64.wrap ((k : Int).tdiv 4) = (k : Int).tdiv 4 := by
          have := cellE_xy (i := k) (by omega)
          unfold xyOk cellE at this
          exact wrap_id (by dsimp only at this; omega) (by dsimp only at this; omega)
        refine ⟨by omega, ?_⟩
        conv => whnf
        refine ⟨by omega, ?_⟩
        conv => whnf
        refine call_bool' (nearI_ok (entAt g.ents (atF g.ents cl)) (cellE k) hme (cellE_xy (by omega))) (by rw [w1]; rfl) (fun hn => ?_) (fun hn => ?_) <;> conv => whnf
        · have hh : hid (entAt g.ents (atF g.ents cl)) g.floor (k + 1) = hid (entAt g.ents (atF g.ents cl)) g.floor k := by simp only [hid, hn]
          refine up_next hlt trivial ⟨(weakSl_cons rfl rfl (weakSl_cons rfl rfl (weakSl_cons rfl rfl (weakSl_cons rfl rfl (weakSl_cons rfl rfl (weakSl_cons (wrap_succ (by omega)) rfl weakSl_nil)))))), (weakHp_cons rfl rfl (weakHp_cons rfl rfl (weakHp_cons rfl rfl (weakHp_cons rfl rfl (weakHp_cons (congrArg (fun z : List Int => Obj.arr true 1 (z.map encI)) hh.symm) rfl (weakHp_cons rfl rfl (weakHp_cons rfl rfl weakHp_nil))))))), rfl⟩
        · refine ⟨by omega, by simp [hid_len]; omega, ?_⟩
          conv => whnf
          refine ⟨encI (intAt (hid (entAt g.ents (atF g.ents cl)) g.floor k) k), intAt_row (by omega) (by rw [hid_len]; omega), ?_⟩
          conv => whnf
          have hh : (hid (entAt g.ents (atF g.ents cl)) g.floor k).set k (-1) = hid (entAt g.ents (atF g.ents cl)) g.floor (k + 1) := by simp only [hid, hn]
          have hh2 : Obj.arr true 1 (((hid (entAt g.ents (atF g.ents cl)) g.floor k).map encI).set (k : Int).toNat (encI (-1))) = .arr true 1 ((hid (entAt g.ents (atF g.ents cl)) g.floor (k + 1)).map encI) := by
            rw [← hh]; exact congrArg (Obj.arr true 1) (set_row rfl)
          refine up_next hlt trivial ⟨(weakSl_cons rfl rfl (weakSl_cons rfl rfl (weakSl_cons rfl rfl (weakSl_cons rfl rfl (weakSl_cons rfl rfl (weakSl_cons (wrap_succ (by omega)) rfl weakSl_nil)))))), (weakHp_cons rfl rfl (weakHp_cons rfl rfl (weakHp_cons rfl rfl (weakHp_cons rfl rfl (weakHp_cons hh2 rfl (weakHp_cons rfl rfl (weakHp_cons rfl rfl weakHp_nil))))))), rfl⟩
      have hkn : k = g.floor.length := ge_map hge hk
      refine call_eq (clipE_ok false ((r :: rs).map encEnt)) ?_
      conv => whnf
      refine (?_ : V.tup [_, vb true] = _)
      rw [hyesv]
      refine congrArg (fun v => V.tup [v, vb true]) (vGame_ext ?_ ?_ rfl)
      · show (r :: rs : List Ent).map encEnt = (seen (entAt g.ents (atF g.ents cl)) g.ents).map encEnt
        rw [← hseen]
      · show (hid (entAt g.ents (atF g.ents cl)) g.floor k).map encI = (hid (entAt g.ents (atF g.ents cl)) g.floor g.floor.length).map encI
        rw [hkn]
  · exact no (by simp [hok]) rfl
end Go.Proofs.Ytnnmkenloijkcaa
