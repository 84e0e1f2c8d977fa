/- Parts of the proof, in order: the engine, the contracts of the functions, the laws. -/
import Derived.Test.YtnnmkenloijkcaaMvsC
/- The program's copies of a game, and a square's place. -/
set_option linter.unusedVariables false
set_option linter.unusedSimpArgs false
set_option maxRecDepth 10000
namespace Go.Proofs.Ytnnmkenloijkcaa
open Go Eng

/-- A slice of nothing may be taken for an array of nothing. -/
theorem adopt {P : Program} {G : Nat → V} {f : FuncId} {args : List V} {φ ψ : V → HP → Prop} (h : HCalls P G f (hpOf []) args φ) (d : Nat)
    (k : ∀ r l, φ r l → ψ r l ∨ ∃ e, r = .d (.slc true e []) ∧ l = [] ∧ ψ (.own d) [(d, .arr true e [])]) : HCalls P G f (hpOf []) args ψ := by
  obtain ⟨hf, h⟩ := h
  refine ⟨hf, fun w g us h1 h2 h3 h4 h5 => (h w g us h1 h2 h3 h4 h5).mono fun e w' hout => ?_⟩
  obtain ⟨u, r, l, g', q1, q2, q3, q4, q5, q6, q7, q8, q9, q10, q11, q12, q13⟩ := hout.out
  rcases k r l q2 with hψ | ⟨ee, rfl, rfl, hψ⟩
  · exact ⟨u, r, l, g', q1, hψ, q3, q4, q5, q6, q7, q8, q9, q10, q11, q12, q13⟩
  · simp only [RepV] at q4
    have hu : ∃ A, u = .slice A 0 0 := by
      cases q4 with
      | slc _ _ _ A c vals hc hn hf hrow hA hcell hrep => have := hf rfl; simp at this; subst this; exact ⟨A, rfl⟩
    obtain ⟨A, rfl⟩ := hu
    have hp : ∀ i, hpOf [(d, Eng.Obj.arr true ee [])] i = if i = d then .arr true ee [] else .none := fun i => by
      unfold hpOf Eng.look
      by_cases hi : i = d
      · subst hi; simp
      · have : Nat.beq i d = false := by cases hb : Nat.beq i d with | true => exact absurd (Nat.eq_of_beq_eq_true hb) hi | false => rfl
        simp [this, hi, Eng.look]
    have hlive : ∀ i, (hpOf [(d, Eng.Obj.arr true ee [])] i).live = true → i = d := fun i hi => by
      rw [hp] at hi
      split at hi
      · assumption
      · simp [Eng.Obj.live] at hi
    refine ⟨.slice A 0 0, .own d, [(d, .arr true ee [])], ⟨g'.imm, upd g'.blk d none, upd g'.val d (.slice A 0 0)⟩, q1, hψ, by simp [Eng.Obj.used], ?_, fun id => ?_, fun i j b hij hi hj => ?_, q7, q8, q9, ?_, q11, fun id b hi hb => ?_, q13⟩
    · simp only [RepV]
      exact ⟨by rw [hp]; simp [Eng.Obj.used], by simp [upd_same], by rw [hp]; simp, A, 0, 0, rfl⟩
    · rw [hp]
      split
      · rename_i hid
        subst hid
        exact ⟨A, 0, by simp [upd_same], by simp, by simp, by simp, by simp, by simp, by simp [upd_same]⟩
      · trivial
    · have := hlive i hi
      have := hlive j hj
      omega
    · refine ⟨q10.ext, fun id hu => (by cases hu), fun id hu => (by cases hu), fun id hu => (by cases hu), fun id hu => (by cases hu), fun id e n hu => (by cases hu)⟩
    · have := hlive id hi
      subst this
      simp [upd_same] at hb

theorem cloneE_pure0 (f : Bool) (rows : List (List D)) (h1 : rows.length ≤ 1000) : ACalls Try.prog G0 87 [.d (.slc f 5 rows)] (fun r => ∃ f', r = .d (.slc f' 5 rows)) := by
  refine spec_intro tabOk Try.func87 (by kernel_rfl) rfl ?_
  conv => whnf
  refine ⟨fun h => ?_, ?_⟩ <;> conv => whnf
  · exact ⟨true, by rw [h]⟩
  · refine ⟨room (by simp; omega) rfl, room' (by simp; omega), ?_⟩
    conv => whnf
    exact ⟨false, rfl⟩
theorem clone0_use {f : Bool} {rows : List (List D)} (h1 : rows.length ≤ 1000) {ψ : V → Prop} (k : ∀ f', ψ (.d (.slc f' 5 rows))) : ∃ φ, ACalls Try.prog G0 87 [.d (.slc f 5 rows)] φ ∧ ∀ r, φ r → ψ r :=
  ⟨_, cloneE_pure0 f rows h1, fun r ⟨f', e⟩ => by subst e; exact k f'⟩
theorem cloneE_pure (f : Bool) (rows : List (List D)) (h1 : rows.length ≤ 1000) : ACalls Try.prog G0 75 [.d (.slc f 5 rows)] (· = .d (.slc true 5 rows)) := by
  refine spec_intro tabOk Try.func75 (by kernel_rfl) rfl ?_
  conv => whnf
  refine clone0_use h1 fun f' => ?_
  conv => whnf
  refine call_eq (clipE_ok f' rows) ?_
  conv => whnf

theorem cloneE_own0 (f : Bool) (rows : List (List D)) (h1 : rows.length ≤ 1000) : HCalls Try.prog G0 87 (hpOf []) [.d (.slc f 5 rows)] (fun r k => r = .own 7 ∧ ∃ f', k = [(7, .arr f' 5 rows)]) := by
  refine adopt (φ := fun r k => (r = .own 7 ∧ k = [(7, .arr false 5 rows)]) ∨ (rows = [] ∧ r = .d (.slc true 5 []) ∧ k = [])) ?_ 7 ?_
  · refine hspec tabOk Try.func87 (by kernel_rfl) true [7] [] rfl ?_
    conv => whnf
    refine ⟨fun h => ?_, ?_⟩ <;> conv => whnf
    · exact ⟨[], ⟨trivial, rfl, rfl⟩, rfl, .inr ⟨h, rfl, rfl⟩⟩
    · refine ⟨room (by omega) rfl, room' (by omega), ?_⟩
      conv => whnf
      exact ⟨[(7, .arr false 5 rows)], ⟨weakHp_cons rfl rfl weakHp_nil, rfl, rfl⟩, rfl, .inl ⟨rfl, rfl⟩⟩
  · rintro r l (⟨rfl, rfl⟩ | ⟨h, rfl, rfl⟩)
    · exact .inl ⟨rfl, false, rfl⟩
    · exact .inr ⟨5, rfl, rfl, rfl, true, by rw [h]⟩
theorem cloneE0_use {f : Bool} {rows : List (List D)} (h1 : rows.length ≤ 1000) {s : St} {K : HP → V → HP → Prop} (k : ∀ f', K [] (.own 7) [(7, .arr f' 5 rows)]) :
    ∃ hin φ, HCalls Try.prog G0 87 (hpOf hin) [.d (.slc f 5 rows)] φ ∧ weakHp s (hin.map (·.1)) hin ∧ okVs (hin.map (·.1)) [.d (.slc f 5 rows)] = true ∧ ∀ r l, φ r l → K hin r l :=
  ⟨[], _, cloneE_own0 f rows h1, trivial, rfl, fun r l ⟨e1, f', e2⟩ => by subst e1; subst e2; exact k f'⟩
theorem clipE_own (f : Bool) (rows : List (List D)) : HCalls Try.prog G0 36 (hpOf [(7, .arr f 5 rows)]) [.own 7] (fun r l => r = .own 8 ∧ l = [(7, .dead), (8, .arr true 5 rows)]) := by
  refine hspec tabOk Try.func36 (by kernel_rfl) true [8] [] rfl ?_
  conv => whnf
  intro _
  conv => whnf
  intro _
  conv => whnf
  refine ⟨rfl, rfl, ?_⟩
  conv => whnf
  exact ⟨[(7, .dead), (8, .arr true 5 rows)], ⟨weakHp_cons rfl rfl (weakHp_cons rfl rfl weakHp_nil), rfl, rfl⟩, rfl, rfl, rfl⟩
theorem cloneE_own8 (f : Bool) (rows : List (List D)) (h1 : rows.length ≤ 1000) : HCalls Try.prog G0 75 (hpOf []) [.d (.slc f 5 rows)] (fun r k => r = .own 8 ∧ k = [(8, .arr true 5 rows)]) := by
  refine hspec tabOk Try.func75 (by kernel_rfl) true [] [36, 87] rfl ?_
  conv => whnf
  refine cloneE0_use h1 fun f' => ⟨⟨rfl, trivial⟩, ?_⟩
  conv => whnf
  refine hcall_eq (hin := [(7, .arr f' 5 rows)]) (clipE_own f' rows) ⟨rfl, rfl, trivial⟩ rfl ⟨⟨trivial, rfl, trivial⟩, ?_⟩
  conv => whnf
  exact ⟨[(8, .arr true 5 rows)], ⟨weakHp_cons rfl rfl weakHp_nil, rfl, rfl⟩, rfl, rfl, rfl⟩
theorem cloneE_own (f : Bool) (rows : List (List D)) (h1 : rows.length ≤ 1000) (d : Nat) : HCalls Try.prog G0 75 (hpOf []) [.d (.slc f 5 rows)] (fun r k => r = .own d ∧ k = [(d, .arr true 5 rows)]) := by
  refine HCalls.swap (hin := []) (args := [.d (.slc f 5 rows)]) (cloneE_own8 f rows h1) 8 d ?_
  rintro r k ⟨rfl, rfl⟩
  have : swp 8 d 8 = d := by simp [swp]
  refine ⟨?_, ?_⟩
  · simp only [V.ren, this]
  · simp only [List.map_cons, List.map_nil, renP, this, Obj.ren]

abbrev ownG2 (g : Game) : HP := [(5, .arr true 5 (g.ents.map encEnt)), (8, .arr true 1 (g.floor.map encI)), (11, .arr true 1 (g.last.map encI))]
abbrev ownV2 : V := .agg [.own 5, .own 8, .own 11]
theorem copyI_own (a b c : Bool) (g : Game) (h1 : g.ents.length ≤ 1000) (h2 : g.floor.length ≤ 1000) (h3 : g.last.length ≤ 1000) (n2 : g.floor ≠ []) (n3 : g.last ≠ []) : HCalls Try.prog G0 48 (hpOf []) [vGame a b c g]
    (fun r l => r = ownV2 ∧ l = ownG2 g) := by
  refine hspec tabOk Try.func48 (by kernel_rfl) true [5, 8, 11] [34, 75] rfl ?_
  conv => whnf
  refine ⟨.arr true 5 (g.ents.map encEnt), cloneE_own a (g.ents.map encEnt) (by simp; omega) 5, ?_⟩
  conv => whnf
  refine ⟨.arr true 1 (g.floor.map encI), cloneI_own b g.floor n2 h2 8, ?_⟩
  conv => whnf
  refine ⟨.arr true 1 (g.last.map encI), cloneI_own c g.last n3 h3 11, ?_⟩
  conv => whnf
  exact ⟨ownG2 g, ⟨weakHp_cons rfl rfl (weakHp_cons rfl rfl (weakHp_cons rfl rfl weakHp_nil)), rfl, rfl⟩, rfl, rfl, rfl⟩

theorem square_ok (E F L : List (List D)) (e : Ent) (he : xyOk e) (hF : F.length = 16) : HCalls Try.prog G0 77 (hpOf [(5, .arr true 5 E), (8, .arr true 1 F), (11, .arr true 1 L)]) [ownV2, vEnt e]
    (fun r l => r = .ref 8 (at4 e).toNat 1 0 ∧ l = [(5, .arr true 5 E), (8, .arr true 1 F), (11, .arr true 1 L)]) := by
  refine hspec tabOk Try.func77 (by kernel_rfl) true [] [] rfl ?_
  conv => whnf
  unfold xyOk at he
  have w0 : IntKind.i64.wrap (IntKind.i64.wrap (e.y * 4) + e.x) = at4 e := by
    rw [wrap_id (n := e.y * 4) (by omega) (by omega), wrap_id (by omega) (by omega)]; rfl
  have ha : 0 ≤ at4 e ∧ at4 e < 16 := by unfold at4; omega
  refine ⟨by rw [w0]; omega, by rw [w0]; omega, ?_⟩
  conv => whnf
  exact ⟨[(5, .arr true 5 E), (8, .arr true 1 F), (11, .arr true 1 L)], ⟨weakHp_cons rfl rfl (weakHp_cons rfl rfl (weakHp_cons rfl rfl weakHp_nil)), rfl, rfl⟩, rfl, by rw [w0], rfl⟩
end Go.Proofs.Ytnnmkenloijkcaa
/- What the program shows to a figure. -/
set_option linter.unusedVariables false
set_option linter.unusedSimpArgs false
set_option maxRecDepth 10000
namespace Go.Proofs.Ytnnmkenloijkcaa
open Go Eng

def cellE (i : Nat) : Ent := ⟨0, (i : Int).tmod 4, (i : Int).tdiv 4, 0, 0⟩
/-- The floor, of which the first places are looked at. -/
def hid (me : Ent) (fl : List Int) : Nat → List Int
  | 0 => fl
  | i + 1 => match nearF me (cellE i) with
    | true => hid me fl i
    | false => (hid me fl i).set i (-1)
theorem hid_len (me : Ent) (fl : List Int) : ∀ i, (hid me fl i).length = fl.length
  | 0 => rfl
  | i + 1 => by
    unfold hid
    split
    · exact hid_len me fl i
    · simp [hid_len me fl i]
def seen (me : Ent) (l : List Ent) : List Ent := l.filter (nearF me)
def seeF (me : Ent) (g : Game) : Game := ⟨seen me g.ents, hid me g.floor g.floor.length, g.last⟩
theorem seen_succ {me : Ent} {l : List Ent} {i : Nat} {e : Ent} (h : l[i]? = some e) : seen me (l.take (i + 1)) = seen me (l.take i) ++ (match nearF me e with | true => [e] | false => []) := by
  rw [List.take_add_one, h]
  simp only [seen, List.filter_append, Option.toList_some]
  cases hb : nearF me e <;> simp [List.filter_cons, hb]

/-- What the first loop holds of what is seen. -/
structure SIn where
  i : Nat
  es : List Ent
structure SInv (g : Game) (me : Ent) (x : SIn) : Prop where
  i : x.i ≤ g.ents.length
  es : x.es = seen me (g.ents.take x.i)
abbrev hp6 (a b c : Bool) (g : Game) (me : Ent) (v : V) (fl : List (List D)) : HP := [(2, .box [.d (dEnts a g.ents), .d (dInts b g.floor), .d (dInts c g.last)]), (4, .box [.d (.slc true 5 []), .d (.slc true 1 []), .d (.slc true 1 [])]), (7, .box [vi me.client, vi me.x, vi me.y, vi me.life, vi me.gold]),
     (8, .box [v, .own 30, .own 33]), (30, .arr true 1 fl), (33, .arr true 1 (g.last.map encI))]
def SI (a b c : Bool) (g : Game) (me : Ent) (x : SIn) : SL :=
  match x.es with
  | [] => ⟨[(2, .ref 2 0 0 0), (4, .ref 4 0 0 0), (7, .ref 7 0 0 0), (8, .ref 8 0 0 0), (36, .d (dEnts a g.ents)), (37, vi (g.ents.map encEnt).length), (38, vi x.i)], hp6 a b c g me (.d (.slc true 5 [])) (g.floor.map encI)⟩
  | r :: rs => ⟨[(2, .ref 2 0 0 0), (4, .ref 4 0 0 0), (7, .ref 7 0 0 0), (8, .ref 8 0 0 0), (36, .d (dEnts a g.ents)), (37, vi (g.ents.map encEnt).length), (38, vi x.i)], hp6 a b c g me (.osl 49 5 ((r :: rs).map encEnt)) (g.floor.map encI) ++ [(49, .grow 5 (rs.length + 1))]⟩

noncomputable def seeI (a b c : Bool) (g : Game) (cl : Int) : V :=
  if okG g = true ∧ 0 ≤ atF g.ents cl then .tup [vGame true true true (seeF (entAt g.ents (atF g.ents cl)) g), vb true]
  else .tup [vGame true true true ⟨[], [], []⟩, vb false]

theorem good_xy {g : Game} (h : Good g) {e : Ent} (he : e ∈ g.ents) : xyOk e := by
  have := h.ent e he
  unfold xyOk; omega
theorem cellE_xy {i : Nat} (h : i < 16) : xyOk (cellE i) := by
  unfold xyOk cellE
  have h1 := Int.tmod_nonneg (4 : Int) (a := (i : Int)) (by omega)
  have h2 := Int.tmod_lt_of_pos (i : Int) (b := 4) (by omega)
  have h3 := Int.tdiv_nonneg (a := (i : Int)) (b := 4) (by omega) (by omega)
  have h4 : (i : Int).tdiv 4 < 4 := by rw [Int.tdiv_eq_ediv_of_nonneg (by omega)]; omega
  dsimp only
  omega

theorem seeOf_ok (a b c : Bool) (g : Game) (cl : Int) : ACalls Try.prog G0 8 [vGame a b c g, vi cl] (· = seeI a b c g cl) := by
  refine spec_own tabOk Try.func8 (by kernel_rfl) [30, 33] [34] rfl ?_
  conv => whnf
  refine call_eq (figure_ok a b c g cl) ?_
  conv => whnf
  have no : ∀ {v : V}, ¬ (okG g = true ∧ 0 ≤ atF g.ents cl) → v = .tup [vGame true true true ⟨[], [], []⟩, vb false] → v = seeI a b c g cl := fun hn hv => by
    rw [hv]; simp only [seeI, if_neg hn]
  refine call_bool (gameOk_ok a b c g) (fun hok => ?_) (fun hok => ?_) <;> conv => whnf
  · refine ⟨fun hat => ?_, fun hat => ?_⟩ <;> conv => whnf
    · exact no (by omega) rfl
    have hyes : okG g = true ∧ 0 ≤ atF g.ents cl := ⟨hok, by omega⟩
    have hyesv : seeI a b c g cl = .tup [vGame true true true (seeF (entAt g.ents (atF g.ents cl)) g), vb true] := by simp only [seeI, if_pos hyes]
    have hok' := of_okG hok
    have hg := ok_good hok'
    have h0 := hyes.2
    have h1 : atF g.ents cl < g.ents.length := by rcases atF_spec g.ents cl with ⟨h, _⟩ | ⟨i, h, hi, _⟩ <;> omega
    have hfl := hg.nfloor
    have hla := hg.nlast
    have hen := good_len hg
    have hme : xyOk (entAt g.ents (atF g.ents cl)) := good_xy hg (entAt_mem (by omega))
    refine ⟨h0, _, entAt_row h0 h1, ?_⟩
    conv => whnf
    refine ⟨.arr true 1 (g.floor.map encI), cloneI_own b g.floor (by rintro h; rw [h] at hfl; simp at hfl) (by omega) 30, ?_⟩
    conv => whnf
    refine ⟨.arr true 1 (g.last.map encI), cloneI_own c g.last (by rintro h; rw [h] at hla; simp at hla) (by omega) 33, ?_⟩
    conv => whnf
    intro hlen
    refine ⟨{ x : SIn // SInv g (entAt g.ents (atF g.ents cl)) x }, fun x => SI a b c g (entAt g.ents (atF g.ents cl)) x.1, fun x => g.ents.length - x.1.i, ⟨⟨0, []⟩, ⟨by simp, by simp [seen]⟩⟩, ?_, ?_⟩
    · refine ⟨?_, ?_, rfl⟩ <;> repeat' (first | exact weakSl_nil | exact weakHp_nil | refine weakSl_cons ?_ rfl ?_ | refine weakHp_cons ?_ rfl ?_)
      all_goals rfl
    rintro ⟨⟨i, es⟩, hinv⟩
    have hi : i ≤ g.ents.length := hinv.i
    have hes : es = seen (entAt g.ents (atF g.ents cl)) (g.ents.take i) := hinv.es
    cases es with
    | nil =>
      conv => whnf
      refine ⟨fun hlt => ?_, fun hge => ?_⟩ <;> conv => whnf
      · have hlt : i < g.ents.length := lt_map hlt
        refine (entsAt hlt).elim fun e he => ?_
        refine ⟨by show (0 : Int) ≤ (i : Int); omega, encEnt e, row_map he, ?_⟩
        conv => whnf
        refine call_bool (nearI_ok (entAt g.ents (atF g.ents cl)) e hme (good_xy hg (List.mem_of_getElem? he))) (fun hn => ?_) (fun hn => ?_) <;> conv => whnf
        · refine ⟨room (by simp) rfl, room' (by simp), ?_⟩
          conv => whnf
          have hinv' : SInv g (entAt g.ents (atF g.ents cl)) ⟨i + 1, [e]⟩ := ⟨hlt, by show [e] = _; rw [seen_succ he, ← hes, hn]; rfl⟩
          exact ⟨⟨⟨i + 1, [e]⟩, hinv'⟩, by show g.ents.length - (i + 1) < g.ents.length - i; omega, ⟨(weakSl_cons rfl rfl (weakSl_cons rfl rfl (weakSl_cons rfl rfl (weakSl_cons rfl rfl (weakSl_cons rfl rfl (weakSl_cons rfl rfl (weakSl_cons (wrap_succ (by omega)) rfl weakSl_nil))))))), (weakHp_cons rfl rfl (weakHp_cons rfl rfl (weakHp_cons rfl rfl (weakHp_cons rfl rfl (weakHp_cons rfl rfl (weakHp_cons rfl rfl (weakHp_cons rfl rfl weakHp_nil))))))), rfl⟩⟩
        · have hinv' : SInv g (entAt g.ents (atF g.ents cl)) ⟨i + 1, []⟩ := ⟨hlt, by show [] = _; rw [seen_succ he, ← hes, hn]; simp⟩
          exact ⟨⟨⟨i + 1, []⟩, hinv'⟩, by show g.ents.length - (i + 1) < g.ents.length - i; omega, ⟨(weakSl_cons rfl rfl (weakSl_cons rfl rfl (weakSl_cons rfl rfl (weakSl_cons rfl rfl (weakSl_cons rfl rfl (weakSl_cons rfl rfl (weakSl_cons (wrap_succ (by omega)) rfl weakSl_nil))))))), (weakHp_cons rfl rfl (weakHp_cons rfl rfl (weakHp_cons rfl rfl (weakHp_cons rfl rfl (weakHp_cons rfl rfl (weakHp_cons rfl rfl weakHp_nil)))))), rfl⟩⟩
      have hin : i = g.ents.length := ge_map hge hi
      have hseen : [] = seen (entAt g.ents (atF g.ents cl)) g.ents := by
        rw [hes, hin, List.take_length]
      intro _
      let P2 : Nat → Prop := fun k => True
      let I2 : Nat → SL := fun k => ⟨[(2, .ref 2 0 0 0), (4, .ref 4 0 0 0), (7, .ref 7 0 0 0), (8, .ref 8 0 0 0), (54, vi (g.floor.map encI).length), (55, vi k)], hp6 a b c g (entAt g.ents (atF g.ents cl)) (.d (.slc true 5 [])) ((hid (entAt g.ents (atF g.ents cl)) g.floor k).map encI)⟩
      refine loop_up g.floor.length P2 I2 trivial ?_ ?_
      · refine ⟨?_, ?_, rfl⟩ <;> repeat' (first | exact weakSl_nil | exact weakHp_nil | refine weakSl_cons ?_ rfl ?_ | refine weakHp_cons ?_ rfl ?_)
        all_goals rfl
      intro k hk _
      conv => whnf
      refine ⟨fun hlt => ?_, fun hge => ?_⟩ <;> conv => whnf
      · have hlt : k < g.floor.length := lt_map hlt
        have w1 : IntKind.i64.wrap ((k : Int).tdiv 4) = (k : Int).tdiv 4 := by
          have := cellE_xy (i := k) (by omega)
          unfold xyOk cellE at this
          exact wrap_id (by dsimp only at this; omega) (by dsimp only at this; omega)
        refine ⟨by omega, ?_⟩
        conv => whnf
        refine ⟨by omega, ?_⟩
        conv => whnf
        refine call_bool' (nearI_ok (entAt g.ents (atF g.ents cl)) (cellE k) hme (cellE_xy (by omega))) (by rw [w1]; rfl) (fun hn => ?_) (fun hn => ?_) <;> conv => whnf
        · have hh : hid (entAt g.ents (atF g.ents cl)) g.floor (k + 1) = hid (entAt g.ents (atF g.ents cl)) g.floor k := by simp only [hid, hn]
          refine up_next hlt trivial ⟨(weakSl_cons rfl rfl (weakSl_cons rfl rfl (weakSl_cons rfl rfl (weakSl_cons rfl rfl (weakSl_cons rfl rfl (weakSl_cons (wrap_succ (by omega)) rfl weakSl_nil)))))), (weakHp_cons rfl rfl (weakHp_cons rfl rfl (weakHp_cons rfl rfl (weakHp_cons rfl rfl (weakHp_cons (congrArg (fun z : List Int => Obj.arr true 1 (z.map encI)) hh.symm) rfl (weakHp_cons rfl rfl weakHp_nil)))))), rfl⟩
        · refine ⟨by omega, by simp [hid_len]; omega, ?_⟩
          conv => whnf
          refine ⟨encI (intAt (hid (entAt g.ents (atF g.ents cl)) g.floor k) k), intAt_row (by omega) (by rw [hid_len]; omega), ?_⟩
          conv => whnf
          have hh : (hid (entAt g.ents (atF g.ents cl)) g.floor k).set k (-1) = hid (entAt g.ents (atF g.ents cl)) g.floor (k + 1) := by simp only [hid, hn]
          have hh2 : Obj.arr true 1 (((hid (entAt g.ents (atF g.ents cl)) g.floor k).map encI).set (k : Int).toNat (encI (-1))) = .arr true 1 ((hid (entAt g.ents (atF g.ents cl)) g.floor (k + 1)).map encI) := by
            rw [← hh]; exact congrArg (Obj.arr true 1) (set_row rfl)
          refine up_next hlt trivial ⟨(weakSl_cons rfl rfl (weakSl_cons rfl rfl (weakSl_cons rfl rfl (weakSl_cons rfl rfl (weakSl_cons rfl rfl (weakSl_cons (wrap_succ (by omega)) rfl weakSl_nil)))))), (weakHp_cons rfl rfl (weakHp_cons rfl rfl (weakHp_cons rfl rfl (weakHp_cons rfl rfl (weakHp_cons hh2 rfl (weakHp_cons rfl rfl weakHp_nil)))))), rfl⟩
      have hkn : k = g.floor.length := ge_map hge hk
      refine call_eq (clipE_ok true []) ?_
      conv => whnf
      refine (?_ : V.tup [_, vb true] = _)
      rw [hyesv]
      refine congrArg (fun v => V.tup [v, vb true]) (vGame_ext ?_ ?_ rfl)
      · show ([] : List Ent).map encEnt = (seen (entAt g.ents (atF g.ents cl)) g.ents).map encEnt
        rw [← hseen]
      · show (hid (entAt g.ents (atF g.ents cl)) g.floor k).map encI = (hid (entAt g.ents (atF g.ents cl)) g.floor g.floor.length).map encI
        rw [hkn]
    | cons r rs =>
      have hrl : rs.length ≤ 4 := by
        have h1 : (r :: rs).length ≤ (g.ents.take i).length := by rw [hes]; exact List.length_filter_le _ _
        simp at h1; omega
      conv => whnf
      refine ⟨fun hlt => ?_, fun hge => ?_⟩ <;> conv => whnf
      · have hlt : i < g.ents.length := lt_map hlt
        refine (entsAt hlt).elim fun e he => ?_
        refine ⟨by show (0 : Int) ≤ (i : Int); omega, encEnt e, row_map he, ?_⟩
        conv => whnf
        refine call_bool (nearI_ok (entAt g.ents (atF g.ents cl)) e hme (good_xy hg (List.mem_of_getElem? he))) (fun hn => ?_) (fun hn => ?_) <;> conv => whnf
        · refine ⟨by simp, room (by simp; omega) rfl, room' (by simp; omega), ?_⟩
          conv => whnf
          have happ : Obj.box [.osl 49 5 ((r :: rs).map encEnt ++ [encEnt e]), .own 30, .own 33] = .box [.osl 49 5 ((r :: (rs ++ [e])).map encEnt), .own 30, .own 33] := by simp
          have hgrow : Obj.grow 5 (((r :: rs).map encEnt).length + 1) = .grow 5 ((rs ++ [e]).length + 1) := by simp
          have hinv' : SInv g (entAt g.ents (atF g.ents cl)) ⟨i + 1, r :: (rs ++ [e])⟩ := ⟨hlt, by show r :: (rs ++ [e]) = _; rw [seen_succ he, ← hes, hn]; rfl⟩
          exact ⟨⟨⟨i + 1, r :: (rs ++ [e])⟩, hinv'⟩, by show g.ents.length - (i + 1) < g.ents.length - i; omega, ⟨(weakSl_cons rfl rfl (weakSl_cons rfl rfl (weakSl_cons rfl rfl (weakSl_cons rfl rfl (weakSl_cons rfl rfl (weakSl_cons rfl rfl (weakSl_cons (wrap_succ (by omega)) rfl weakSl_nil))))))), (weakHp_cons rfl rfl (weakHp_cons rfl rfl (weakHp_cons rfl rfl (weakHp_cons happ rfl (weakHp_cons rfl rfl (weakHp_cons rfl rfl (weakHp_cons hgrow rfl weakHp_nil))))))), rfl⟩⟩
        · have hinv' : SInv g (entAt g.ents (atF g.ents cl)) ⟨i + 1, r :: rs⟩ := ⟨hlt, by show r :: rs = _; rw [seen_succ he, ← hes, hn]; simp⟩
          exact ⟨⟨⟨i + 1, r :: rs⟩, hinv'⟩, by show g.ents.length - (i + 1) < g.ents.length - i; omega, ⟨(weakSl_cons rfl rfl (weakSl_cons rfl rfl (weakSl_cons rfl rfl (weakSl_cons rfl rfl (weakSl_cons rfl rfl (weakSl_cons rfl rfl (weakSl_cons (wrap_succ (by omega)) rfl weakSl_nil))))))), (weakHp_cons rfl rfl (weakHp_cons rfl rfl (weakHp_cons rfl rfl (weakHp_cons rfl rfl (weakHp_cons rfl rfl (weakHp_cons rfl rfl (weakHp_cons rfl rfl weakHp_nil))))))), rfl⟩⟩
      have hin : i = g.ents.length := ge_map hge hi
      have hseen : r :: rs = seen (entAt g.ents (atF g.ents cl)) g.ents := by
        rw [hes, hin, List.take_length]
      intro _
      let P2 : Nat → Prop := fun k => True
      let I2 : Nat → SL := fun k => ⟨[(2, .ref 2 0 0 0), (4, .ref 4 0 0 0), (7, .ref 7 0 0 0), (8, .ref 8 0 0 0), (54, vi (g.floor.map encI).length), (55, vi k)], hp6 a b c g (entAt g.ents (atF g.ents cl)) (.osl 49 5 ((r :: rs).map encEnt)) ((hid (entAt g.ents (atF g.ents cl)) g.floor k).map encI) ++ [(49, .grow 5 (rs.length + 1))]⟩
      refine loop_up g.floor.length P2 I2 trivial ?_ ?_
      · refine ⟨?_, ?_, rfl⟩ <;> repeat' (first | exact weakSl_nil | exact weakHp_nil | refine weakSl_cons ?_ rfl ?_ | refine weakHp_cons ?_ rfl ?_)
        all_goals rfl
      intro k hk _
      conv => whnf
      refine ⟨fun hlt => ?_, fun hge => ?_⟩ <;> conv => whnf
      · have hlt : k < g.floor.length := lt_map hlt
        have w1 : IntKind.i64.wrap ((k : Int).tdiv 4) = (k : Int).tdiv 4 := by
          have := cellE_xy (i := k) (by omega)
          unfold xyOk cellE at this
          exact wrap_id (by dsimp only at this; omega) (by dsimp only at this; omega)
        refine ⟨by omega, ?_⟩
        conv => whnf
        refine ⟨by omega, ?_⟩
        conv => whnf
        refine call_bool' (nearI_ok (entAt g.ents (atF g.ents cl)) (cellE k) hme (cellE_xy (by omega))) (by rw [w1]; rfl) (fun hn => ?_) (fun hn => ?_) <;> conv => whnf
        · have hh : hid (entAt g.ents (atF g.ents cl)) g.floor (k + 1) = hid (entAt g.ents (atF g.ents cl)) g.floor k := by simp only [hid, hn]
          refine up_next hlt trivial ⟨(weakSl_cons rfl rfl (weakSl_cons rfl rfl (weakSl_cons rfl rfl (weakSl_cons rfl rfl (weakSl_cons rfl rfl (weakSl_cons (wrap_succ (by omega)) rfl weakSl_nil)))))), (weakHp_cons rfl rfl (weakHp_cons rfl rfl (weakHp_cons rfl rfl (weakHp_cons rfl rfl (weakHp_cons (congrArg (fun z : List Int => Obj.arr true 1 (z.map encI)) hh.symm) rfl (weakHp_cons rfl rfl (weakHp_cons rfl rfl weakHp_nil))))))), rfl⟩
        · refine ⟨by omega, by simp [hid_len]; omega, ?_⟩
          conv => whnf
          refine ⟨encI (intAt (hid (entAt g.ents (atF g.ents cl)) g.floor k) k), intAt_row (by omega) (by rw [hid_len]; omega), ?_⟩
          conv => whnf
          have hh : (hid (entAt g.ents (atF g.ents cl)) g.floor k).set k (-1) = hid (entAt g.ents (atF g.ents cl)) g.floor (k + 1) := by simp only [hid, hn]
          have hh2 : Obj.arr true 1 (((hid (entAt g.ents (atF g.ents cl)) g.floor k).map encI).set (k : Int).toNat (encI (-1))) = .arr true 1 ((hid (entAt g.ents (atF g.ents cl)) g.floor (k + 1)).map encI) := by
            rw [← hh]; exact congrArg (Obj.arr true 1) (set_row rfl)
          refine up_next hlt trivial ⟨(weakSl_cons rfl rfl (weakSl_cons rfl rfl (weakSl_cons rfl rfl (weakSl_cons rfl rfl (weakSl_cons rfl rfl (weakSl_cons (wrap_succ (by omega)) rfl weakSl_nil)))))), (weakHp_cons rfl rfl (weakHp_cons rfl rfl (weakHp_cons rfl rfl (weakHp_cons rfl rfl (weakHp_cons hh2 rfl (weakHp_cons rfl rfl (weakHp_cons rfl rfl weakHp_nil))))))), rfl⟩
      have hkn : k = g.floor.length := ge_map hge hk
      refine call_eq (clipE_ok false ((r :: rs).map encEnt)) ?_
      conv => whnf
      refine (?_ : V.tup [_, vb true] = _)
      rw [hyesv]
      refine congrArg (fun v => V.tup [v, vb true]) (vGame_ext ?_ ?_ rfl)
      · show (r :: rs : List Ent).map encEnt = (seen (entAt g.ents (atF g.ents cl)) g.ents).map encEnt
        rw [← hseen]
      · show (hid (entAt g.ents (atF g.ents cl)) g.floor k).map encI = (hid (entAt g.ents (atF g.ents cl)) g.floor g.floor.length).map encI
        rw [hkn]
  · exact no (by simp [hok]) rfl
end Go.Proofs.Ytnnmkenloijkcaa
/- What the program's act of a figure computes, given what slices.Insert and slices.Delete do. -/
set_option linter.unusedVariables false
set_option linter.unusedSimpArgs false
set_option maxRecDepth 10000
namespace Go.Proofs.Ytnnmkenloijkcaa
open Go Eng

def InsOk : Prop := ∀ (l : List Ent) (k : Nat) (e : Ent), k ≤ l.length → l.length ≤ 4 → HCalls Try.prog G0 76 (hpOf [(5, .arr true 5 (l.map encEnt))]) [.own 5, vi k, .d (.slc true 5 [encEnt e])]
  (fun r m => r = .d (.slc false 5 ((l.take k ++ [e] ++ l.drop k).map encEnt)) ∧ m = [(5, .dead)])
def DelOk : Prop := ∀ (l : List Ent) (k : Int), 0 ≤ k → k < l.length → l.length ≤ 4 → HCalls Try.prog G0 78 (hpOf [(5, .arr true 5 (l.map encEnt))]) [.own 5, vi k, vi (k + 1)]
  (fun r m => r = .d (.slc false 5 ((l.take k.toNat ++ l.drop (k.toNat + 1)).map encEnt)) ∧ m = [(5, .dead)])

/-- What an ask does to a game, behind its number's being noted. -/
def stepV (y : GV) (r : Req) : GV × Int :=
  if r.op = 1 then
    if 0 ≤ atF y.g.ents r.client then (y, 4) else (⟨false, y.b, y.c, ⟨joinF y.g.ents r.client, y.g.floor, y.g.last⟩⟩, 0)
  else if atF y.g.ents r.client < 0 then (y, 5)
  else actV y (atF y.g.ents r.client) r
abbrev actHP (v : V) (o : Eng.Obj) (F L : List (List D)) : HP := [(6, .box [v, .own 8, .own 11]), (5, o), (8, .arr true 1 F), (11, .arr true 1 L)]
def ActL (g : Game) (l : HP) : Prop :=
  l = actHP (.own 5) (.arr true 5 (g.ents.map encEnt)) (g.floor.map encI) (g.last.map encI) ∨
  l = actHP (.d (.slc true 5 (g.ents.map encEnt))) .dead (g.floor.map encI) (g.last.map encI)

theorem set2 {l : List Ent} {i : Nat} {e : Ent} {q r : List D} (hr : r = encEnt e) : ((l.map encEnt).set i q).set i r = (l.set i e).map encEnt := by
  rw [List.set_set]; exact set_row hr
theorem hcall_eq' {P : Program} {G : Nat → V} {f : FuncId} {hin : HP} {args args' : List V} {R : V} {L : HP} (h : HCalls P G f (hpOf hin) args (fun r l => r = R ∧ l = L)) (e : args' = args) {s : St} (hw : weakHp s (hin.map (·.1)) hin) (ha : okVs (hin.map (·.1)) args' = true) {K : HP → V → HP → Prop}
    (k : K hin R L) : ∃ hin φ, HCalls P G f (hpOf hin) args' φ ∧ weakHp s (hin.map (·.1)) hin ∧ okVs (hin.map (·.1)) args' = true ∧ ∀ r l, φ r l → K hin r l := by subst e; exact hcall_eq h hw ha k
theorem set_swap {l : List Ent} {i j : Nat} {e f : Ent} {q r : List D} (hij : i ≠ j) (hq : q = encEnt e) (hr : r = encEnt f) : ((l.map encEnt).set i q).set j r = ((l.set j f).set i e).map encEnt := by
  subst hq; subst hr; rw [List.set_comm _ _ hij]; simp only [List.map_set]
theorem entAt_other {l : List Ent} {k n : Int} {e : Ent} (h : k.toNat ≠ n.toNat) : entAt (setEnt l k e) n = entAt l n := by
  simp only [entAt, setEnt]; rw [List.getElem?_set_ne h]
theorem entAt_same {l : List Ent} {n : Int} {e : Ent} (h : n.toNat < l.length) : entAt (setEnt l n e) n = e := by
  simp [entAt, setEnt, h]
/-- A call in a drawing region that is given an array, and uses it up. -/
theorem drawn_own {P : Program} {G : Nat → V} {f : FuncId} {id : Nat} {o : Eng.Obj} {args : List V} {R : V} (h : HCalls P G f (hpOf [(id, o)]) args (fun r m => r = R ∧ m = [(id, .dead)])) {K : V → Prop}
    (k : K R) : ∃ r, HCalls P G f (hpOf [(id, o)]) args (fun r' l => r' = r ∧ l = [(id, .dead)]) ∧ K r := ⟨R, h, k⟩
/-- A call in a drawing region that reads objects. -/
theorem drawn_ro {P : Program} {G : Nat → V} {f : FuncId} {hin : HP} {args : List V} {R : V} (h : HCalls P G f (hpOf hin) args (fun r m => r = R ∧ m = hin)) {K : HP → V → Prop}
    (k : K hin R) : ∃ hin r, HCalls P G f (hpOf hin) args (fun r' l => r' = r ∧ l = hin) ∧ K hin r := ⟨hin, R, h, k⟩

theorem actI_ok (hI : InsOk) (hD : DelOk) (g : Game) (r : Req) (hg : Good g) (hr : okR r = true) : HCalls Try.prog G0 49 (hpOf (actHP (.own 5) (.arr true 5 (g.ents.map encEnt)) (g.floor.map encI) (g.last.map encI))) [.ref 6 0 0 0, vReq r]
    (fun q l => q = vi (stepV ⟨true, true, true, g⟩ r).2 ∧ ActL (stepV ⟨true, true, true, g⟩ r).1.g l) := by
  refine hspec_ro tabOk Try.func49 (by kernel_rfl) false [] [76, 77, 78] [77] rfl ?_
  conv => whnf
  have hlen := good_len hg
  have hfl := hg.nfloor
  have hcl := okR_client hr
  refine drawn_eq (figure_ok true true true g r.client) ?_
  conv => whnf
  have fin : ∀ (s : St) (code : Int) (g' : Game), (stepV ⟨true, true, true, g⟩ r).2 = code → (stepV ⟨true, true, true, g⟩ r).1.g = g' → s.hp 6 = .box [.own 5, .own 8, .own 11] → (∃ E, s.hp 5 = .arr true 5 E ∧ E = g'.ents.map encEnt) → (∃ F, s.hp 8 = .arr true 1 F ∧ F = g'.floor.map encI) → s.hp 11 = .arr true 1 (g'.last.map encI) →
      ∃ l, HRest s [6, 5, 8, 11] l ∧ vi code = vi (stepV ⟨true, true, true, g⟩ r).2 ∧ ActL (stepV ⟨true, true, true, g⟩ r).1.g l := fun s code g' h1 h2 h6 h5 h8 h11 => by
    obtain ⟨E, h5, rfl⟩ := h5
    obtain ⟨F, h8, rfl⟩ := h8
    refine ⟨_, ⟨weakHp_cons h6 rfl (weakHp_cons h5 rfl (weakHp_cons h8 rfl (weakHp_cons h11 rfl weakHp_nil))), rfl, rfl⟩, congrArg vi h1.symm, .inl (by rw [h2])⟩
  have fin2 : ∀ (s : St) (code : Int) (g' : Game) (E : List (List D)), (stepV ⟨true, true, true, g⟩ r).2 = code → (stepV ⟨true, true, true, g⟩ r).1.g = g' → E = g'.ents.map encEnt → s.hp 6 = .box [.d (.slc true 5 E), .own 8, .own 11] → s.hp 5 = .dead → (∃ F, s.hp 8 = .arr true 1 F ∧ F = g'.floor.map encI) → s.hp 11 = .arr true 1 (g'.last.map encI) →
      ∃ l, HRest s [6, 5, 8, 11] l ∧ vi code = vi (stepV ⟨true, true, true, g⟩ r).2 ∧ ActL (stepV ⟨true, true, true, g⟩ r).1.g l := fun s code g' E h1 h2 hE h6 h5 h8 h11 => by
    subst hE
    obtain ⟨F, h8, rfl⟩ := h8
    refine ⟨_, ⟨weakHp_cons h6 rfl (weakHp_cons h5 rfl (weakHp_cons h8 rfl (weakHp_cons h11 rfl weakHp_nil))), rfl, rfl⟩, congrArg vi h1.symm, .inr (by rw [h2])⟩
  refine ⟨fun o1 => ?_, fun o1 => ?_⟩ <;> conv => whnf
  · refine ⟨fun hat => ?_, fun hat => ?_⟩ <;> conv => whnf
    · refine fin _ 4 g ?_ ?_ ?_ ?_ ?_ ?_
      · simp only [stepV, if_pos o1, if_pos hat]
      · simp only [stepV, if_pos o1, if_pos hat]
      all_goals first | rfl | exact ⟨_, rfl, rfl⟩
    have hs : stepV ⟨true, true, true, g⟩ r = (⟨false, true, true, ⟨joinF g.ents r.client, g.floor, g.last⟩⟩, 0) := by simp only [stepV, if_pos o1, if_neg hat]
    let P : Nat → Prop := fun i => ∀ (j : Nat) e, j < i → g.ents[j]? = some e → e.client < r.client
    let I : Nat → SL := fun i => ⟨[(0, .ref 6 0 0 0), (3, .ref 3 0 0 0), (6, vi i)], actHP (.own 5) (.arr true 5 (g.ents.map encEnt)) (g.floor.map encI) (g.last.map encI) ++ [(3, .box [vi r.client, vi r.num, vi r.op, vi r.x, vi r.y])]⟩
    refine loop_up g.ents.length P I (by intro j e h; omega) ?_ ?_
    · refine ⟨?_, ?_, rfl⟩ <;> repeat' (first | exact weakSl_nil | exact weakHp_nil | refine weakSl_cons ?_ rfl ?_ | refine weakHp_cons ?_ rfl ?_)
      all_goals rfl
    intro i hi hP
    conv => whnf
    have wc : IntKind.i64.wrap (r.client - 1) = r.client - 1 := wrap_id (by omega) (by omega)
    have clean : under g.ents r.client = i → (g.ents.take i ++ [(⟨r.client, IntKind.i64.wrap (r.client - 1), IntKind.i64.wrap (r.client - 1), 3, 0⟩ : Ent)] ++ g.ents.drop i).map encEnt = (joinF g.ents r.client).map encEnt := fun hu => by
      rw [wc]; simp only [joinF, hu]
    refine ⟨fun hlt => ?_, fun hge => ?_⟩ <;> conv => whnf
    · have hlt := lt_map hlt
      refine (entsAt hlt).elim fun e he => ?_
      refine ⟨by omega, by simp; omega, ?_⟩
      conv => whnf
      refine ⟨encEnt e, row_map he, ?_⟩
      conv => whnf
      refine ⟨fun h => ?_, fun h => ?_⟩ <;> conv => whnf
      · exact up_next hlt (fun j y hj hy => by
          by_cases hji : j = i
          · subst hji; rw [he] at hy; injection hy with hy; subst hy; exact h
          · exact hP j y (by omega) hy) ⟨weakSl_cons rfl rfl (weakSl_cons rfl rfl (weakSl_cons (wrap_succ (by omega)) rfl weakSl_nil)), weakHp_cons rfl rfl (weakHp_cons rfl rfl (weakHp_cons rfl rfl (weakHp_cons rfl rfl (weakHp_cons rfl rfl weakHp_nil)))), rfl⟩
      · have hu : under g.ents r.client = i := under_spec hi hP fun y hy => by rw [he] at hy; injection hy with hy; subst hy; exact h
        refine drawn_own (hI g.ents i ⟨r.client, IntKind.i64.wrap (r.client - 1), IntKind.i64.wrap (r.client - 1), 3, 0⟩ hi hlen) ?_
        conv => whnf
        refine drawn_eq (cloneE_pure false _ (by simp; omega)) ?_
        conv => whnf
        refine fin2 _ 0 ⟨joinF g.ents r.client, g.floor, g.last⟩ _ ?_ ?_ (clean hu) ?_ ?_ ?_ ?_
        · rw [hs]
        · rw [hs]
        all_goals first | rfl | exact ⟨_, rfl, rfl⟩
    · have hin := ge_map hge hi
      have hu : under g.ents r.client = i := under_spec hi hP fun y hy => absurd (List.getElem?_eq_some_iff.1 hy).1 (by omega)
      refine drawn_own (hI g.ents i ⟨r.client, IntKind.i64.wrap (r.client - 1), IntKind.i64.wrap (r.client - 1), 3, 0⟩ hi hlen) ?_
      conv => whnf
      refine drawn_eq (cloneE_pure false _ (by simp; omega)) ?_
      conv => whnf
      refine fin2 _ 0 ⟨joinF g.ents r.client, g.floor, g.last⟩ _ ?_ ?_ (clean hu) ?_ ?_ ?_ ?_
      · rw [hs]
      · rw [hs]
      all_goals first | rfl | exact ⟨_, rfl, rfl⟩
  refine ⟨fun hat => ?_, fun hat => ?_⟩ <;> conv => whnf
  · refine fin _ 5 g ?_ ?_ ?_ ?_ ?_ ?_
    · simp only [stepV, if_neg o1, if_pos hat]
    · simp only [stepV, if_neg o1, if_pos hat]
    all_goals first | rfl | exact ⟨_, rfl, rfl⟩
  have hstep : stepV ⟨true, true, true, g⟩ r = actV ⟨true, true, true, g⟩ (atF g.ents r.client) r := by simp only [stepV, if_neg o1, if_neg hat]
  have h0 : 0 ≤ atF g.ents r.client := by omega
  have h1 : atF g.ents r.client < g.ents.length := by rcases atF_spec g.ents r.client with ⟨h, _⟩ | ⟨i, h, hi, _⟩ <;> omega
  have hkk : (atF g.ents r.client).toNat < g.ents.length := by omega
  have he := (good_fit hg).at h0 h1
  have hxy : xyOk (entAt g.ents (atF g.ents r.client)) := good_xy hg (entAt_mem hkk)
  have hrx : -4 ≤ r.x ∧ r.x ≤ 4 ∧ -9 ≤ r.y ∧ r.y ≤ 9 := by
    unfold okR at hr
    simp only [Bool.and_eq_true] at hr
    have h := hr.2.2
    split at h
    · simp at h; omega
    · split at h
      · simp only [Bool.and_eq_true, inB_t] at h; omega
      · split at h
        · simp only [Bool.and_eq_true, inB_t, decide_eq_true_eq] at h; omega
        · split at h
          · simp only [Bool.and_eq_true, inB_t] at h; omega
          · simp at h
  refine ⟨h0, by simp; omega, ?_⟩
  conv => whnf
  refine ⟨fun o2 => ?_, fun o2 => ?_⟩ <;> conv => whnf
  · have wx : IntKind.i64.wrap ((entAt g.ents (atF g.ents r.client)).x + r.x) = (entAt g.ents (atF g.ents r.client)).x + r.x := wrap_id (by omega) (by omega)
    have wy : IntKind.i64.wrap ((entAt g.ents (atF g.ents r.client)).y + r.y) = (entAt g.ents (atF g.ents r.client)).y + r.y := wrap_id (by omega) (by omega)
    refine ⟨encEnt (entAt g.ents (atF g.ents r.client)), entAt_row h0 h1, ?_⟩
    conv => whnf
    refine ⟨encEnt (entAt g.ents (atF g.ents r.client)), entAt_row h0 h1, ?_⟩
    conv => whnf
    refine drawn_bool (board_ok _ _) (fun hb => ?_) (fun hb => ?_) <;> conv => whnf
    · rw [wx, wy] at hb
      unfold boardB at hb
      simp only [Bool.and_eq_true] at hb
      have ha : stepV ⟨true, true, true, g⟩ r = (⟨false, true, true, ⟨setEnt g.ents (atF g.ents r.client) { entAt g.ents (atF g.ents r.client) with x := (entAt g.ents (atF g.ents r.client)).x + r.x, y := (entAt g.ents (atF g.ents r.client)).y + r.y }, g.floor, g.last⟩⟩, 0) := by
        rw [hstep]; simp only [actV, if_pos o2, hb.1, hb.2, Bool.true_eq_false, or_self, if_false]
      refine ⟨encEnt (entAt g.ents (atF g.ents r.client)), entAt_row h0 h1, ?_⟩
      conv => whnf
      refine ⟨encEnt (entAt g.ents (atF g.ents r.client)), entAt_row h0 h1, ?_⟩
      conv => whnf
      refine ⟨encEnt { entAt g.ents (atF g.ents r.client) with x := (entAt g.ents (atF g.ents r.client)).x + r.x }, by rw [wx]; exact set_get rfl hkk, ?_⟩
      conv => whnf
      refine ⟨encEnt { entAt g.ents (atF g.ents r.client) with x := (entAt g.ents (atF g.ents r.client)).x + r.x }, by rw [wx]; exact set_get rfl hkk, ?_⟩
      conv => whnf
      refine fin _ 0 ⟨setEnt g.ents (atF g.ents r.client) { entAt g.ents (atF g.ents r.client) with x := (entAt g.ents (atF g.ents r.client)).x + r.x, y := (entAt g.ents (atF g.ents r.client)).y + r.y }, g.floor, g.last⟩ (by rw [ha]) (by rw [ha]) ?_ ⟨_, rfl, by rw [wy]; exact set2 rfl⟩ ⟨_, rfl, rfl⟩ ?_ <;> rfl
    · rw [wx, wy] at hb
      have ha : stepV ⟨true, true, true, g⟩ r = (⟨true, true, true, g⟩, 6) := by
        rw [hstep]
        have hor : inB ((entAt g.ents (atF g.ents r.client)).x + r.x) 0 3 = false ∨ inB ((entAt g.ents (atF g.ents r.client)).y + r.y) 0 3 = false := by
          unfold boardB at hb
          exact Bool.and_eq_false_iff.1 hb
        simp only [actV, if_pos o2, if_pos hor]
      refine fin _ 6 g (by rw [ha]) (by rw [ha]) ?_ ⟨_, rfl, rfl⟩ ⟨_, rfl, rfl⟩ ?_ <;> rfl
  refine ⟨fun o3 => ?_, fun o3 => ?_⟩ <;> conv => whnf
  · have ha4 : 0 ≤ at4 (entAt g.ents (atF g.ents r.client)) ∧ at4 (entAt g.ents (atF g.ents r.client)) < 16 := by unfold at4; omega
    have hF := (good_fit hg).floor ha4.1 ha4.2
    refine ⟨encEnt (entAt g.ents (atF g.ents r.client)), entAt_row h0 h1, ?_⟩
    conv => whnf
    refine drawn_ro (square_ok (g.ents.map encEnt) (g.floor.map encI) (g.last.map encI) (entAt g.ents (atF g.ents r.client)) hxy (by simp [hfl])) ⟨⟨rfl, rfl, rfl, rfl, rfl, rfl, trivial⟩, rfl, rfl, rfl, ?_⟩
    conv => whnf
    refine ⟨encI (intAt g.floor (at4 (entAt g.ents (atF g.ents r.client)))), intAt_row ha4.1 (by omega), ?_⟩
    conv => whnf
    refine ⟨fun hz => ?_, fun hz => ?_⟩ <;> conv => whnf
    · have ha : stepV ⟨true, true, true, g⟩ r = (⟨true, true, true, g⟩, 7) := by
        rw [hstep]; simp only [actV, if_neg o2, if_pos o3, if_pos hz]
      refine fin _ 7 g (by rw [ha]) (by rw [ha]) ?_ ⟨_, rfl, rfl⟩ ⟨_, rfl, rfl⟩ ?_ <;> rfl
    have ha : stepV ⟨true, true, true, g⟩ r = (⟨false, false, true, ⟨setEnt g.ents (atF g.ents r.client) { entAt g.ents (atF g.ents r.client) with gold := (entAt g.ents (atF g.ents r.client)).gold + 1 }, addAt g.floor (at4 (entAt g.ents (atF g.ents r.client))) (-1), g.last⟩⟩, 0) := by
      rw [hstep]; simp only [actV, if_neg o2, if_pos o3, if_neg hz]
    have w1 : IntKind.i64.wrap (intAt g.floor (at4 (entAt g.ents (atF g.ents r.client))) - 1) = intAt g.floor (at4 (entAt g.ents (atF g.ents r.client))) - 1 := wrap_id (by omega) (by omega)
    have w2 : IntKind.i64.wrap ((entAt g.ents (atF g.ents r.client)).gold + 1) = (entAt g.ents (atF g.ents r.client)).gold + 1 := wrap_id (by omega) (by omega)
    refine ⟨encI (intAt g.floor (at4 (entAt g.ents (atF g.ents r.client)))), intAt_row ha4.1 (by omega), ?_⟩
    conv => whnf
    refine ⟨encI (intAt g.floor (at4 (entAt g.ents (atF g.ents r.client)))), intAt_row ha4.1 (by omega), ?_⟩
    conv => whnf
    refine ⟨encEnt (entAt g.ents (atF g.ents r.client)), entAt_row h0 h1, ?_⟩
    conv => whnf
    refine ⟨encEnt (entAt g.ents (atF g.ents r.client)), entAt_row h0 h1, ?_⟩
    conv => whnf
    refine fin _ 0 _ (by rw [ha]) (by rw [ha]) ?_ ⟨_, rfl, by rw [w2]; exact set_row rfl⟩ ⟨_, rfl, by rw [w1]; exact set_row rfl⟩ ?_ <;> rfl
  refine drawn_eq (figure_ok true true true g r.x) ?_
  conv => whnf
  have far : ∀ (s : St), (atF g.ents r.x < 0 ∨ atF g.ents r.x = atF g.ents r.client ∨ nearF (entAt g.ents (atF g.ents r.client)) (entAt g.ents (atF g.ents r.x)) = false) → s.hp 6 = .box [.own 5, .own 8, .own 11] → (∃ E, s.hp 5 = .arr true 5 E ∧ E = g.ents.map encEnt) → (∃ F, s.hp 8 = .arr true 1 F ∧ F = g.floor.map encI) → s.hp 11 = .arr true 1 (g.last.map encI) →
      ∃ l, HRest s [6, 5, 8, 11] l ∧ vi 8 = vi (stepV ⟨true, true, true, g⟩ r).2 ∧ ActL (stepV ⟨true, true, true, g⟩ r).1.g l := fun s hc h6 h5 h8 h11 => by
    have ha : stepV ⟨true, true, true, g⟩ r = (⟨true, true, true, g⟩, 8) := by
      rw [hstep]
      by_cases o4 : r.op = 4
      · simp only [actV, if_neg o2, if_neg o3, if_pos o4, hitV, if_pos hc]
      · simp only [actV, if_neg o2, if_neg o3, if_neg o4, if_pos hc]
    exact fin s 8 g (by rw [ha]) (by rw [ha]) h6 h5 h8 h11
  refine ⟨fun hn => ?_, fun hn => ?_⟩ <;> conv => whnf
  · refine far _ (.inl hn) ?_ ⟨_, rfl, rfl⟩ ⟨_, rfl, rfl⟩ ?_ <;> rfl
  refine ⟨fun hk => ?_, fun hk => ?_⟩ <;> conv => whnf
  · refine far _ (.inr (.inl hk)) ?_ ⟨_, rfl, rfl⟩ ⟨_, rfl, rfl⟩ ?_ <;> rfl
  have n0 : 0 ≤ atF g.ents r.x := by omega
  have n1 : atF g.ents r.x < g.ents.length := by rcases atF_spec g.ents r.x with ⟨h, _⟩ | ⟨i, h, hi, _⟩ <;> omega
  have hnn : (atF g.ents r.x).toNat < g.ents.length := by omega
  have hne : (atF g.ents r.client).toNat ≠ (atF g.ents r.x).toNat := by omega
  have hen := (good_fit hg).at n0 n1
  have hln := (good_life hg).at n0 n1
  have hnxy : xyOk (entAt g.ents (atF g.ents r.x)) := good_xy hg (entAt_mem hnn)
  refine ⟨encEnt (entAt g.ents (atF g.ents r.client)), entAt_row h0 h1, ?_⟩
  conv => whnf
  refine ⟨n0, by simp; omega, ?_⟩
  conv => whnf
  refine ⟨encEnt (entAt g.ents (atF g.ents r.x)), entAt_row n0 n1, ?_⟩
  conv => whnf
  refine drawn_bool (nearI_ok (entAt g.ents (atF g.ents r.client)) (entAt g.ents (atF g.ents r.x)) hxy hnxy) (fun hnear => ?_) (fun hnear => ?_) <;> conv => whnf
  · have nf : ¬ (atF g.ents r.x < 0 ∨ atF g.ents r.x = atF g.ents r.client ∨ nearF (entAt g.ents (atF g.ents r.client)) (entAt g.ents (atF g.ents r.x)) = false) := by
      rw [hnear]; simp; exact ⟨n0, hk⟩
    refine ⟨n0, by simp; omega, ?_⟩
    conv => whnf
    refine ⟨fun o5 => ?_, fun o5 => ?_⟩ <;> conv => whnf
    · have o4 : ¬ r.op = 4 := by omega
      refine ⟨encEnt (entAt g.ents (atF g.ents r.client)), entAt_row h0 h1, ?_⟩
      conv => whnf
      refine ⟨fun hp => ?_, fun hp => ?_⟩ <;> conv => whnf
      · have ha : stepV ⟨true, true, true, g⟩ r = (⟨true, true, true, g⟩, 7) := by
          rw [hstep]; simp only [actV, if_neg o2, if_neg o3, if_neg o4, if_neg nf, if_pos hp]
        refine fin _ 7 g (by rw [ha]) (by rw [ha]) ?_ ⟨_, rfl, rfl⟩ ⟨_, rfl, rfl⟩ ?_ <;> rfl
      have ha : stepV ⟨true, true, true, g⟩ r = (⟨false, true, true, ⟨setEnt (setEnt g.ents (atF g.ents r.x) { entAt g.ents (atF g.ents r.x) with gold := (entAt g.ents (atF g.ents r.x)).gold + r.y }) (atF g.ents r.client) { entAt g.ents (atF g.ents r.client) with gold := (entAt g.ents (atF g.ents r.client)).gold - r.y }, g.floor, g.last⟩⟩, 0) := by
        rw [hstep]; simp only [actV, if_neg o2, if_neg o3, if_neg o4, if_neg nf, if_neg hp]
      have w1 : IntKind.i64.wrap ((entAt g.ents (atF g.ents r.client)).gold - r.y) = (entAt g.ents (atF g.ents r.client)).gold - r.y := wrap_id (by omega) (by omega)
      have w2 : IntKind.i64.wrap ((entAt g.ents (atF g.ents r.x)).gold + r.y) = (entAt g.ents (atF g.ents r.x)).gold + r.y := wrap_id (by omega) (by omega)
      refine ⟨encEnt (entAt g.ents (atF g.ents r.client)), entAt_row h0 h1, ?_⟩
      conv => whnf
      refine ⟨encEnt (entAt g.ents (atF g.ents r.client)), entAt_row h0 h1, ?_⟩
      conv => whnf
      have hrow : ∀ q : List D, ((g.ents.map encEnt).set (atF g.ents r.client).toNat q)[(atF g.ents r.x).toNat]? = some (encEnt (entAt g.ents (atF g.ents r.x))) := fun q => by
        rw [List.getElem?_set_ne hne]; exact entAt_row n0 n1
      refine ⟨encEnt (entAt g.ents (atF g.ents r.x)), hrow _, ?_⟩
      conv => whnf
      refine ⟨encEnt (entAt g.ents (atF g.ents r.x)), hrow _, ?_⟩
      conv => whnf
      refine fin _ 0 ⟨setEnt (setEnt g.ents (atF g.ents r.x) { entAt g.ents (atF g.ents r.x) with gold := (entAt g.ents (atF g.ents r.x)).gold + r.y }) (atF g.ents r.client) { entAt g.ents (atF g.ents r.client) with gold := (entAt g.ents (atF g.ents r.client)).gold - r.y }, g.floor, g.last⟩ (by rw [ha]) (by rw [ha]) ?_ ⟨_, rfl, by rw [w1, w2]; exact set_swap hne rfl rfl⟩ ⟨_, rfl, rfl⟩ ?_ <;> rfl
    have o4 : r.op = 4 := by
      have h := hr
      unfold okR at h
      simp only [Bool.and_eq_true] at h
      have h := h.2.2
      rw [if_neg (by omega), if_neg o2] at h
      split at h
      · assumption
      · simp at h
    have wl : IntKind.i64.wrap ((entAt g.ents (atF g.ents r.x)).life - 1) = (entAt g.ents (atF g.ents r.x)).life - 1 := wrap_id (by omega) (by omega)
    refine ⟨encEnt (entAt g.ents (atF g.ents r.x)), entAt_row n0 n1, ?_⟩
    conv => whnf
    refine ⟨encEnt (entAt g.ents (atF g.ents r.x)), entAt_row n0 n1, ?_⟩
    conv => whnf
    have hrow : ((g.ents.map encEnt).set (atF g.ents r.x).toNat (encEnt { entAt g.ents (atF g.ents r.x) with life := IntKind.i64.wrap ((entAt g.ents (atF g.ents r.x)).life - 1) }))[(atF g.ents r.x).toNat]? = some (encEnt { entAt g.ents (atF g.ents r.x) with life := (entAt g.ents (atF g.ents r.x)).life - 1 }) := by
      rw [wl]; exact set_get rfl hnn
    refine ⟨encEnt { entAt g.ents (atF g.ents r.x) with life := (entAt g.ents (atF g.ents r.x)).life - 1 }, hrow, ?_⟩
    conv => whnf
    have hset : (g.ents.map encEnt).set (atF g.ents r.x).toNat (encEnt { entAt g.ents (atF g.ents r.x) with life := IntKind.i64.wrap ((entAt g.ents (atF g.ents r.x)).life - 1) }) = (hurt g.ents (atF g.ents r.x)).map encEnt := by
      rw [wl]; exact set_row rfl
    refine ⟨fun hz => ?_, fun hz => ?_⟩ <;> conv => whnf
    · have ha4 : 0 ≤ at4 (entAt g.ents (atF g.ents r.x)) ∧ at4 (entAt g.ents (atF g.ents r.x)) < 16 := by unfold at4; omega
      have hF := (good_fit hg).floor ha4.1 ha4.2
      have hsame : entAt (hurt g.ents (atF g.ents r.x)) (atF g.ents r.x) = { entAt g.ents (atF g.ents r.x) with life := (entAt g.ents (atF g.ents r.x)).life - 1 } := entAt_same hnn
      have ha : stepV ⟨true, true, true, g⟩ r = (⟨false, false, true, ⟨(hurt g.ents (atF g.ents r.x)).take (atF g.ents r.x).toNat ++ (hurt g.ents (atF g.ents r.x)).drop ((atF g.ents r.x).toNat + 1), addAt g.floor (at4 (entAt g.ents (atF g.ents r.x))) (entAt g.ents (atF g.ents r.x)).gold, g.last⟩⟩, 0) := by
        rw [hstep]
        simp only [actV, if_neg o2, if_neg o3, if_pos o4, hitV, if_neg nf, if_pos hz, dropV, hsame]
        rfl
      refine ⟨encEnt { entAt g.ents (atF g.ents r.x) with life := (entAt g.ents (atF g.ents r.x)).life - 1 }, hrow, ?_⟩
      conv => whnf
      refine drawn_ro (square_ok ((g.ents.map encEnt).set (atF g.ents r.x).toNat (encEnt { entAt g.ents (atF g.ents r.x) with life := IntKind.i64.wrap ((entAt g.ents (atF g.ents r.x)).life - 1) })) (g.floor.map encI) (g.last.map encI) { entAt g.ents (atF g.ents r.x) with life := (entAt g.ents (atF g.ents r.x)).life - 1 } hnxy (by simp [hfl])) ⟨⟨rfl, rfl, rfl, rfl, rfl, rfl, trivial⟩, rfl, rfl, rfl, ?_⟩
      conv => whnf
      refine ⟨encI (intAt g.floor (at4 (entAt g.ents (atF g.ents r.x)))), intAt_row (l := g.floor) (k := at4 (entAt g.ents (atF g.ents r.x))) ha4.1 (by omega), ?_⟩
      conv => whnf
      refine ⟨encEnt { entAt g.ents (atF g.ents r.x) with life := (entAt g.ents (atF g.ents r.x)).life - 1 }, hrow, ?_⟩
      conv => whnf
      refine ⟨encI (intAt g.floor (at4 (entAt g.ents (atF g.ents r.x)))), intAt_row (l := g.floor) (k := at4 (entAt g.ents (atF g.ents r.x))) ha4.1 (by omega), ?_⟩
      conv => whnf
      have wn : vi (IntKind.i64.wrap (atF g.ents r.x + 1)) = vi (atF g.ents r.x + 1) := congrArg vi (wrap_id (by omega) (by omega))
      have wf : IntKind.i64.wrap (intAt g.floor (at4 (entAt g.ents (atF g.ents r.x))) + (entAt g.ents (atF g.ents r.x)).gold) = intAt g.floor (at4 (entAt g.ents (atF g.ents r.x))) + (entAt g.ents (atF g.ents r.x)).gold := wrap_id (by omega) (by omega)
      have hhl : (hurt g.ents (atF g.ents r.x)).length = g.ents.length := by simp [hurt, setEnt]
      refine hcall_eq' (hD (hurt g.ents (atF g.ents r.x)) (atF g.ents r.x) n0 (by rw [hhl]; exact n1) (by rw [hhl]; exact hlen)) (congrArg (fun v => [V.own 5, vi (atF g.ents r.x), v]) wn) ⟨congrArg (Obj.arr true 5) hset, rfl, trivial⟩ rfl ⟨⟨trivial, trivial⟩, ?_⟩
      conv => whnf
      refine call_eq (cloneE_pure false _ (by simp [hhl]; omega)) ?_
      conv => whnf
      refine fin2 _ 0 ⟨(hurt g.ents (atF g.ents r.x)).take (atF g.ents r.x).toNat ++ (hurt g.ents (atF g.ents r.x)).drop ((atF g.ents r.x).toNat + 1), addAt g.floor (at4 (entAt g.ents (atF g.ents r.x))) (entAt g.ents (atF g.ents r.x)).gold, g.last⟩ _ (by rw [ha]) (by rw [ha]) rfl ?_ ?_ ⟨_, rfl, by rw [wf]; exact set_row rfl⟩ ?_ <;> rfl
    · have ha : stepV ⟨true, true, true, g⟩ r = (⟨false, true, true, ⟨hurt g.ents (atF g.ents r.x), g.floor, g.last⟩⟩, 0) := by
        rw [hstep]
        simp only [actV, if_neg o2, if_neg o3, if_pos o4, hitV, if_neg nf, if_neg hz]
      refine fin _ 0 ⟨hurt g.ents (atF g.ents r.x), g.floor, g.last⟩ (by rw [ha]) (by rw [ha]) ?_ ⟨_, rfl, hset⟩ ⟨_, rfl, rfl⟩ ?_ <;> rfl
  · refine far _ (.inr (.inr hnear)) ?_ ⟨_, rfl, rfl⟩ ⟨_, rfl, rfl⟩ ?_ <;> rfl
end Go.Proofs.Ytnnmkenloijkcaa
/- What the program's GameDo computes, given what slices.Insert and slices.Delete do. -/
set_option linter.unusedVariables false
set_option linter.unusedSimpArgs false
set_option maxRecDepth 10000
namespace Go.Proofs.Ytnnmkenloijkcaa
open Go Eng

def noted (g : Game) (r : Req) : Game := ⟨g.ents, g.floor, g.last.set (r.client - 1).toNat r.num⟩
def doI (g : Game) (r : Req) : Game × Int :=
  if reqNone r = true then (g, 2)
  else if r.num ≤ intAt g.last (r.client - 1) then (g, 3)
  else ((stepV ⟨true, true, true, noted g r⟩ r).1.g, (stepV ⟨true, true, true, noted g r⟩ r).2)

theorem good_step {y : GV} {r : Req} (h : Good y.g) (h1 : 1 ≤ r.client) (h2 : r.client ≤ 4) (hy : r.op ≠ 2 → 0 ≤ r.y) : Good (stepV y r).1.g := by
  unfold stepV
  split
  · split
    · exact h
    · rename_i hat
      refine good_join h h1 h2 ?_
      rcases atF_spec y.g.ents r.client with ⟨_, hh⟩ | ⟨i, hh, _⟩
      · exact hh
      · omega
  · split
    · exact h
    · exact good_act h (by omega) (by rcases atF_spec y.g.ents r.client with ⟨h, _⟩ | ⟨i, h, hi, _⟩ <;> omega) hy
theorem okR_all {r : Req} (h : okR r = true) : 1 ≤ r.client ∧ r.client ≤ 4 ∧ 1 ≤ r.num ∧ r.num ≤ 30 ∧ (r.op ≠ 2 → 0 ≤ r.y) := by
  unfold okR at h
  simp only [Bool.and_eq_true, inB_t] at h
  obtain ⟨h1, h2, h3⟩ := h
  refine ⟨h1.1, h1.2, h2.1, h2.2, fun ho => ?_⟩
  by_cases o13 : r.op = 1 ∨ r.op = 3
  · rw [if_pos o13] at h3; simp at h3; omega
  rw [if_neg o13, if_neg ho] at h3
  by_cases o4 : r.op = 4
  · rw [if_pos o4] at h3; simp at h3; omega
  rw [if_neg o4] at h3
  by_cases o5 : r.op = 5
  · rw [if_pos o5] at h3; simp only [Bool.and_eq_true, inB_t] at h3; omega
  · rw [if_neg o5] at h3; simp at h3
theorem good_noted {g : Game} {r : Req} (h : Good g) (hr : okR r = true) : Good (noted g r) := by
  have := okR_all hr
  exact ⟨h.ent, h.ord, h.floor, fun n hn => by
    rcases mem_set hn with rfl | hn
    · omega
    · exact h.last n hn, h.nfloor, by simp [noted, h.nlast], h.sum⟩
theorem good_doI {g : Game} {r : Req} (h : Good g) (hr : reqNone r = true ∨ okR r = true) : Good (doI g r).1 := by
  unfold doI
  split
  · exact h
  · rename_i hno
    have hr := hr.resolve_left hno
    have := okR_all hr
    split
    · exact h
    · exact good_step (good_noted h hr) (by omega) (by omega) this.2.2.2.2

theorem act_use (hI : InsOk) (hD : DelOk) {g : Game} {r : Req} (hg : Good g) (hr : okR r = true) {s : St} (h6 : s.hp 6 = .box [.own 5, .own 8, .own 11]) (h5 : s.hp 5 = .arr true 5 (g.ents.map encEnt)) (h8 : s.hp 8 = .arr true 1 (g.floor.map encI)) (h11 : s.hp 11 = .arr true 1 (g.last.map encI)) {K : HP → V → HP → Prop}
    (k1 : K (actHP (.own 5) (.arr true 5 (g.ents.map encEnt)) (g.floor.map encI) (g.last.map encI)) (vi (stepV ⟨true, true, true, g⟩ r).2) (actHP (.own 5) (.arr true 5 ((stepV ⟨true, true, true, g⟩ r).1.g.ents.map encEnt)) ((stepV ⟨true, true, true, g⟩ r).1.g.floor.map encI) ((stepV ⟨true, true, true, g⟩ r).1.g.last.map encI)))
    (k2 : K (actHP (.own 5) (.arr true 5 (g.ents.map encEnt)) (g.floor.map encI) (g.last.map encI)) (vi (stepV ⟨true, true, true, g⟩ r).2) (actHP (.d (.slc true 5 ((stepV ⟨true, true, true, g⟩ r).1.g.ents.map encEnt))) .dead ((stepV ⟨true, true, true, g⟩ r).1.g.floor.map encI) ((stepV ⟨true, true, true, g⟩ r).1.g.last.map encI))) :
    ∃ hin φ, HCalls Try.prog G0 49 (hpOf hin) [.ref 6 0 0 0, vReq r] φ ∧ weakHp s (hin.map (·.1)) hin ∧ okVs (hin.map (·.1)) [.ref 6 0 0 0, vReq r] = true ∧ ∀ q l, φ q l → K hin q l :=
  ⟨_, _, actI_ok hI hD g r hg hr, ⟨h6, rfl, h5, rfl, h8, rfl, h11, rfl, trivial⟩, rfl, fun q l ⟨e, h⟩ => by
    subst e
    rcases h with rfl | rfl
    · exact k1
    · exact k2⟩

theorem gameDoI_ok (hI : InsOk) (hD : DelOk) (a b c : Bool) (g : Game) (r : Req) : ACalls Try.prog G0 17 [vGame a b c g, vReq r] (fun q =>
    (okG g = true ∧ (reqNone r = true ∨ okR r = true) ∧ q = .tup [vGame true true true (doI g r).1, vi (doI g r).2]) ∨ (¬ (okG g = true ∧ (reqNone r = true ∨ okR r = true)) ∧ q = .tup [vGame true true true ⟨[], [], []⟩, vi 1])) := by
  refine spec_own tabOk Try.func17 (by kernel_rfl) [] [48, 49] rfl ?_
  conv => whnf
  refine call_bool (gameOk_ok a b c g) (fun hok => ?_) (fun hok => ?_) <;> conv => whnf
  · refine call_bool (orNull_ok r) (fun hr => ?_) (fun hr => ?_) <;> conv => whnf
    · have hg := ok_good (of_okG hok)
      have hle := good_len hg
      have hnf := hg.nfloor
      have hnl := hg.nlast
      have hr' : reqNone r = true ∨ okR r = true := by simpa using hr
      have yes : ∀ {v : V} (g' : Game) (n : Int), doI g r = (g', n) → v = .tup [vGame true true true g', vi n] → (okG g = true ∧ (reqNone r = true ∨ okR r = true) ∧ v = .tup [vGame true true true (doI g r).1, vi (doI g r).2]) ∨ (¬ (okG g = true ∧ (reqNone r = true ∨ okR r = true)) ∧ v = .tup [vGame true true true ⟨[], [], []⟩, vi 1]) := fun g' n hd hv =>
        .inl ⟨hok, hr', by rw [hd]; exact hv⟩
      refine hcall_eq (hin := []) (copyI_own a b c g (by omega) (by omega) (by omega) (by rintro h; rw [h] at hnf; simp at hnf) (by rintro h; rw [h] at hnl; simp at hnl)) trivial rfl ⟨⟨rfl, rfl, rfl, trivial⟩, ?_⟩
      conv => whnf
      have e : ∀ {b : Bool}, b = ((r.client == 0) && ((r.num == 0) && ((r.op == 0) && ((r.x == 0) && (r.y == 0))))) → reqNone r = b := fun {b} hb => by
        rw [hb, Bool.eq_iff_iff]; simp [reqNone]
      refine ⟨fun h => ?_, fun h => ?_⟩ <;> conv => whnf
      · have h : ((r.client == 0) && ((r.num == 0) && ((r.op == 0) && ((r.x == 0) && (r.y == 0))))) = true := h
        have hno := e h.symm
        refine yes g 2 ?_ rfl
        simp only [doI, if_pos hno]
      have h : ((r.client == 0) && ((r.num == 0) && ((r.op == 0) && ((r.x == 0) && (r.y == 0))))) = false := h
      have hno : ¬ reqNone r = true := by rw [e h.symm]; simp
      have hR := hr'.resolve_left hno
      have hc := okR_all hR
      have wc : IntKind.i64.wrap (r.client - 1) = r.client - 1 := wrap_id (by omega) (by omega)
      refine ⟨by rw [wc]; omega, encI (intAt g.last (r.client - 1)), by rw [wc]; exact intAt_row (l := g.last) (by omega) (by omega), ?_⟩
      conv => whnf
      refine ⟨fun ho => ?_, fun ho => ?_⟩ <;> conv => whnf
      · refine yes g 3 ?_ rfl
        simp only [doI, if_neg hno, if_pos ho]
      have hd : doI g r = ((stepV ⟨true, true, true, noted g r⟩ r).1.g, (stepV ⟨true, true, true, noted g r⟩ r).2) := by simp only [doI, if_neg hno, if_neg ho]
      refine ⟨by rw [wc]; omega, by rw [wc]; simp; omega, ?_⟩
      conv => whnf
      refine ⟨encI (intAt g.last (r.client - 1)), by rw [wc]; exact intAt_row (l := g.last) (by omega) (by omega), ?_⟩
      conv => whnf
      have hL : Obj.arr true 1 ((g.last.map encI).set (IntKind.i64.wrap (r.client - 1)).toNat (encI r.num)) = .arr true 1 ((noted g r).last.map encI) := by
        rw [wc]; exact congrArg (Obj.arr true 1) (set_row rfl)
      refine act_use hI hD (g := noted g r) (good_noted hg hR) hR rfl rfl rfl hL ⟨⟨trivial, trivial, trivial, trivial, trivial⟩, ?_⟩ ⟨⟨trivial, trivial, trivial, trivial, trivial⟩, ?_⟩
      · conv => whnf
        refine yes _ _ hd rfl
      · conv => whnf
        refine yes _ _ hd rfl
    · refine .inr ⟨fun hh => ?_, rfl⟩
      have : (reqNone r || okR r) = true := by simpa using hh.2
      rw [hr] at this; simp at this
  · refine .inr ⟨fun hh => ?_, rfl⟩
    rw [hok] at hh; simp at hh

open Classical in
noncomputable def gdo (g : Game) (r : Req) : V :=
  if okG g = true ∧ (reqNone r = true ∨ okR r = true) then .tup [vGame true true true (doI g r).1, vi (doI g r).2] else .tup [vGame true true true ⟨[], [], []⟩, vi 1]
theorem gameDo_eq (hI : InsOk) (hD : DelOk) (a b c : Bool) (g : Game) (r : Req) : ACalls Try.prog G0 17 [vGame a b c g, vReq r] (· = gdo g r) :=
  (gameDoI_ok hI hD a b c g r).mono fun q h => by
    rcases h with ⟨h1, h2, e⟩ | ⟨hn, e⟩
    · rw [e, gdo, if_pos ⟨h1, h2⟩]
    · rw [e, gdo, if_neg hn]
end Go.Proofs.Ytnnmkenloijkcaa
/- What the reference shows to a figure. -/
set_option linter.unusedVariables false
set_option maxRecDepth 10000
namespace Go.Proofs.Ytnnmkenloijkcaa
open Go Eng

theorem inB_neg (a b : Int) : inB (a - b) (-1) 1 = inB (b - a) (-1) 1 := by
  rw [Bool.eq_iff_iff, inB_t, inB_t]; omega
theorem sees_ok (e : Ent) (x y : Int) (he : xyOk e) (hx : 0 ≤ x ∧ x ≤ 3) (hy : 0 ≤ y ∧ y ≤ 3) : ACalls Try.prog G0 39 [vEnt e, vi x, vi y] (· = vb (nearF e ⟨0, x, y, 0, 0⟩)) := by
  unfold xyOk at he
  refine spec_intro tabOk Try.func39 (by kernel_rfl) rfl ?_
  conv => whnf
  have w1 : IntKind.i64.wrap (x - e.x) = x - e.x := wrap_id (by omega) (by omega)
  have w2 : IntKind.i64.wrap (y - e.y) = y - e.y := wrap_id (by omega) (by omega)
  refine call_bool (l1In_ok _ _ _) (fun h => ?_) (fun h => ?_) <;> conv => whnf
  · rw [w1, inB_neg] at h
    refine call_bool (l1In_ok _ _ _) (fun h2 => ?_) (fun h2 => ?_) <;> conv => whnf
    · rw [w2, inB_neg] at h2; simp [vb, nearF, h, h2]
    · rw [w2, inB_neg] at h2; simp [vb, nearF, h, h2]
  · rw [w1, inB_neg] at h; simp [vb, nearF, h]

abbrev hq6 (a b c : Bool) (g : Game) (me : Ent) (v : V) (fl : List (List D)) : HP := [(2, .box [.d (dEnts a g.ents), .d (dInts b g.floor), .d (dInts c g.last)]), (4, .box [.d (.slc true 5 []), .d (.slc true 1 []), .d (.slc true 1 [])]), (6, .box [vi me.client, vi me.x, vi me.y, vi me.life, vi me.gold]),
     (7, .box [v, .own 30, .own 34]), (30, .arr false 1 fl), (34, .arr false 1 (g.last.map encI))]
def TI9 (a b c : Bool) (g : Game) (me : Ent) (x : SIn) : SL :=
  match x.es with
  | [] => ⟨[(2, .ref 2 0 0 0), (4, .ref 4 0 0 0), (6, .ref 6 0 0 0), (7, .ref 7 0 0 0), (9, vi x.i)], hq6 a b c g me (.d (.slc true 5 [])) ((hid me g.floor g.floor.length).map encI)⟩
  | r :: rs => ⟨[(2, .ref 2 0 0 0), (4, .ref 4 0 0 0), (6, .ref 6 0 0 0), (7, .ref 7 0 0 0), (9, vi x.i)], hq6 a b c g me (.osl 83 5 ((r :: rs).map encEnt)) ((hid me g.floor g.floor.length).map encI) ++ [(83, .grow 5 (rs.length + 1))]⟩
noncomputable def seeS (a b c : Bool) (g : Game) (cl : Int) : V :=
  if okG g = true ∧ 0 ≤ atF g.ents cl then .tup [vGame (seen (entAt g.ents (atF g.ents cl)) g.ents).isEmpty false false (seeF (entAt g.ents (atF g.ents cl)) g), vb true]
  else .tup [vGame true true true ⟨[], [], []⟩, vb false]

theorem seeOfS_ok (a b c : Bool) (g : Game) (cl : Int) : ACalls Try.prog G0 9 [vGame a b c g, vi cl] (· = seeS a b c g cl) := by
  refine spec_own tabOk Try.func9 (by kernel_rfl) [30, 34] [] rfl ?_
  conv => whnf
  have no : ∀ {v : V}, ¬ (okG g = true ∧ 0 ≤ atF g.ents cl) → v = .tup [vGame true true true ⟨[], [], []⟩, vb false] → v = seeS a b c g cl := fun hn hv => by
    rw [hv]; simp only [seeS, if_neg hn]
  refine call_bool (l2Ok_ok a b c g) (fun hok => ?_) (fun hok => ?_) <;> conv => whnf
  · refine call_eq (at_ok a b c g cl) ?_
    conv => whnf
    refine ⟨fun hat => ?_, fun hat => ?_⟩ <;> conv => whnf
    · exact no (by omega) rfl
    have hyes : okG g = true ∧ 0 ≤ atF g.ents cl := ⟨hok, by omega⟩
    have hyesv : seeS a b c g cl = .tup [vGame (seen (entAt g.ents (atF g.ents cl)) g.ents).isEmpty false false (seeF (entAt g.ents (atF g.ents cl)) g), vb true] := by simp only [seeS, if_pos hyes]
    have hok' := of_okG hok
    have hg := ok_good hok'
    have h0 := hyes.2
    have h1 : atF g.ents cl < g.ents.length := by rcases atF_spec g.ents cl with ⟨h, _⟩ | ⟨i, h, hi, _⟩ <;> omega
    have hfl := hg.nfloor
    have hla := hg.nlast
    have hen := good_len hg
    have hme : xyOk (entAt g.ents (atF g.ents cl)) := good_xy hg (entAt_mem (by omega))
    refine drawn_eq (at_ok a b c g cl) ?_
    conv => whnf
    refine ⟨h0, _, entAt_row h0 h1, ?_⟩
    conv => whnf
    refine ⟨room (by simp; omega) rfl, room' (by simp; omega), ?_⟩
    conv => whnf
    refine ⟨room (by simp; omega) rfl, room' (by simp; omega), ?_⟩
    conv => whnf
    let P2 : Nat → Prop := fun k => True
    let I2 : Nat → SL := fun k => ⟨[(2, .ref 2 0 0 0), (4, .ref 4 0 0 0), (6, .ref 6 0 0 0), (7, .ref 7 0 0 0), (8, vi k)], hq6 a b c g (entAt g.ents (atF g.ents cl)) (.d (.slc true 5 [])) ((hid (entAt g.ents (atF g.ents cl)) g.floor k).map encI)⟩
    refine loop_up g.floor.length P2 I2 trivial ?_ ?_
    · refine ⟨?_, ?_, rfl⟩ <;> repeat' (first | exact weakSl_nil | exact weakHp_nil | refine weakSl_cons ?_ rfl ?_ | refine weakHp_cons ?_ rfl ?_)
      all_goals rfl
    intro k hk _
    conv => whnf
    intro _
    refine ⟨fun hlt => ?_, fun hge => ?_⟩ <;> conv => whnf
    · have hlt : k < g.floor.length := by have := lt_map hlt; rw [hid_len] at this; exact this
      have hxy := cellE_xy (i := k) (by omega)
      unfold xyOk cellE at hxy
      have w1 : IntKind.i64.wrap ((k : Int).tdiv 4) = (k : Int).tdiv 4 := wrap_id (by dsimp only at hxy; omega) (by dsimp only at hxy; omega)
      refine ⟨by omega, ?_⟩
      conv => whnf
      refine ⟨by omega, ?_⟩
      conv => whnf
      refine call_bool' (sees_ok (entAt g.ents (atF g.ents cl)) ((k : Int).tmod 4) ((k : Int).tdiv 4) hme ⟨hxy.1, hxy.2.1⟩ ⟨hxy.2.2.1, hxy.2.2.2⟩) (by rw [w1]; rfl) (fun hn => ?_) (fun hn => ?_) <;> conv => whnf
      · have hn : nearF (entAt g.ents (atF g.ents cl)) (cellE k) = true := hn
        have hh : hid (entAt g.ents (atF g.ents cl)) g.floor (k + 1) = hid (entAt g.ents (atF g.ents cl)) g.floor k := by simp only [hid, hn]
        refine up_next hlt trivial ⟨(weakSl_cons rfl rfl (weakSl_cons rfl rfl (weakSl_cons rfl rfl (weakSl_cons rfl rfl (weakSl_cons (wrap_succ (by omega)) rfl weakSl_nil))))), (weakHp_cons rfl rfl (weakHp_cons rfl rfl (weakHp_cons rfl rfl (weakHp_cons rfl rfl (weakHp_cons (congrArg (fun z : List Int => Obj.arr false 1 (z.map encI)) hh.symm) rfl (weakHp_cons rfl rfl weakHp_nil)))))), rfl⟩
      · have hn : nearF (entAt g.ents (atF g.ents cl)) (cellE k) = false := hn
        refine ⟨by omega, by simp [hid_len]; omega, ?_⟩
        conv => whnf
        refine ⟨encI (intAt (hid (entAt g.ents (atF g.ents cl)) g.floor k) k), intAt_row (by omega) (by rw [hid_len]; omega), ?_⟩
        conv => whnf
        have hh : (hid (entAt g.ents (atF g.ents cl)) g.floor k).set k (-1) = hid (entAt g.ents (atF g.ents cl)) g.floor (k + 1) := by simp only [hid, hn]
        have hh2 : Obj.arr false 1 (((hid (entAt g.ents (atF g.ents cl)) g.floor k).map encI).set (k : Int).toNat (encI (-1))) = .arr false 1 ((hid (entAt g.ents (atF g.ents cl)) g.floor (k + 1)).map encI) := by
          rw [← hh]; exact congrArg (Obj.arr false 1) (set_row rfl)
        refine up_next hlt trivial ⟨(weakSl_cons rfl rfl (weakSl_cons rfl rfl (weakSl_cons rfl rfl (weakSl_cons rfl rfl (weakSl_cons (wrap_succ (by omega)) rfl weakSl_nil))))), (weakHp_cons rfl rfl (weakHp_cons rfl rfl (weakHp_cons rfl rfl (weakHp_cons rfl rfl (weakHp_cons hh2 rfl (weakHp_cons rfl rfl weakHp_nil)))))), rfl⟩
    have hkn : k = g.floor.length := ge_map hge (by rw [hid_len]; exact hk) |>.trans (hid_len _ _ _)
    refine ⟨{ x : SIn // SInv g (entAt g.ents (atF g.ents cl)) x }, fun x => TI9 a b c g (entAt g.ents (atF g.ents cl)) x.1, fun x => g.ents.length - x.1.i, ⟨⟨0, []⟩, ⟨by simp, by simp [seen]⟩⟩, ?_, ?_⟩
    · refine ⟨?_, ?_, rfl⟩ <;> repeat' (first | exact weakSl_nil | exact weakHp_nil | refine weakSl_cons ?_ rfl ?_ | refine weakHp_cons ?_ rfl ?_)
      any_goals rfl
      exact congrArg (fun z => Obj.arr false 1 ((hid (entAt g.ents (atF g.ents cl)) g.floor z).map encI)) hkn
    rintro ⟨⟨i, es⟩, hinv⟩
    have hi : i ≤ g.ents.length := hinv.i
    have hes : es = seen (entAt g.ents (atF g.ents cl)) (g.ents.take i) := hinv.es
    cases es with
    | nil =>
      conv => whnf
      intro _
      refine ⟨fun hlt => ?_, fun hge => ?_⟩ <;> conv => whnf
      · have hlt : i < g.ents.length := lt_map hlt
        refine (entsAt hlt).elim fun e he => ?_
        refine ⟨by show (0 : Int) ≤ (i : Int); omega, encEnt e, row_map he, ?_⟩
        conv => whnf
        refine ⟨by show (0 : Int) ≤ (i : Int); omega, encEnt e, row_map he, ?_⟩
        conv => whnf
        have hexy := good_xy hg (List.mem_of_getElem? he)
        refine drawn_bool (sees_ok (entAt g.ents (atF g.ents cl)) e.x e.y hme ⟨hexy.1, hexy.2.1⟩ ⟨hexy.2.2.1, hexy.2.2.2⟩) (fun hn => ?_) (fun hn => ?_) <;> conv => whnf
        · have hn : nearF (entAt g.ents (atF g.ents cl)) e = true := hn
          refine ⟨by show (0 : Int) ≤ (i : Int); omega, encEnt e, row_map he, ?_⟩
          conv => whnf
          refine ⟨room (by simp) rfl, room' (by simp), ?_⟩
          conv => whnf
          have hinv' : SInv g (entAt g.ents (atF g.ents cl)) ⟨i + 1, [e]⟩ := ⟨hlt, by show [e] = _; rw [seen_succ he, ← hes, hn]; rfl⟩
          exact ⟨⟨⟨i + 1, [e]⟩, hinv'⟩, by show g.ents.length - (i + 1) < g.ents.length - i; omega, ⟨(weakSl_cons rfl rfl (weakSl_cons rfl rfl (weakSl_cons rfl rfl (weakSl_cons rfl rfl (weakSl_cons (wrap_succ (by omega)) rfl weakSl_nil))))), (weakHp_cons rfl rfl (weakHp_cons rfl rfl (weakHp_cons rfl rfl (weakHp_cons rfl rfl (weakHp_cons rfl rfl (weakHp_cons rfl rfl (weakHp_cons rfl rfl weakHp_nil))))))), rfl⟩⟩
        · have hn : nearF (entAt g.ents (atF g.ents cl)) e = false := hn
          have hinv' : SInv g (entAt g.ents (atF g.ents cl)) ⟨i + 1, []⟩ := ⟨hlt, by show [] = _; rw [seen_succ he, ← hes, hn]; simp⟩
          exact ⟨⟨⟨i + 1, []⟩, hinv'⟩, by show g.ents.length - (i + 1) < g.ents.length - i; omega, ⟨(weakSl_cons rfl rfl (weakSl_cons rfl rfl (weakSl_cons rfl rfl (weakSl_cons rfl rfl (weakSl_cons (wrap_succ (by omega)) rfl weakSl_nil))))), (weakHp_cons rfl rfl (weakHp_cons rfl rfl (weakHp_cons rfl rfl (weakHp_cons rfl rfl (weakHp_cons rfl rfl (weakHp_cons rfl rfl weakHp_nil)))))), rfl⟩⟩
      have hin : i = g.ents.length := ge_map hge hi
      have hseen : [] = seen (entAt g.ents (atF g.ents cl)) g.ents := by
        rw [hes, hin, List.take_length]
      have hflag : (seen (entAt g.ents (atF g.ents cl)) g.ents).isEmpty = true := by rw [← hseen]; rfl
      refine (?_ : V.tup [_, vb true] = _)
      rw [hyesv, hflag]
      refine congrArg (fun v => V.tup [v, vb true]) (vGame_ext ?_ rfl rfl)
      show ([] : List Ent).map encEnt = (seen (entAt g.ents (atF g.ents cl)) g.ents).map encEnt
      rw [← hseen]
    | cons r rs =>
      have hrl : rs.length ≤ 4 := by
        have h1 : (r :: rs).length ≤ (g.ents.take i).length := by rw [hes]; exact List.length_filter_le _ _
        simp at h1; omega
      conv => whnf
      intro _
      refine ⟨fun hlt => ?_, fun hge => ?_⟩ <;> conv => whnf
      · have hlt : i < g.ents.length := lt_map hlt
        refine (entsAt hlt).elim fun e he => ?_
        refine ⟨by show (0 : Int) ≤ (i : Int); omega, encEnt e, row_map he, ?_⟩
        conv => whnf
        refine ⟨by show (0 : Int) ≤ (i : Int); omega, encEnt e, row_map he, ?_⟩
        conv => whnf
        have hexy := good_xy hg (List.mem_of_getElem? he)
        refine drawn_bool (sees_ok (entAt g.ents (atF g.ents cl)) e.x e.y hme ⟨hexy.1, hexy.2.1⟩ ⟨hexy.2.2.1, hexy.2.2.2⟩) (fun hn => ?_) (fun hn => ?_) <;> conv => whnf
        · have hn : nearF (entAt g.ents (atF g.ents cl)) e = true := hn
          refine ⟨by show (0 : Int) ≤ (i : Int); omega, encEnt e, row_map he, ?_⟩
          conv => whnf
          refine ⟨by simp, room (by simp; omega) rfl, room' (by simp; omega), ?_⟩
          conv => whnf
          have happ : Obj.box [.osl 83 5 ((r :: rs).map encEnt ++ [encEnt e]), .own 30, .own 34] = .box [.osl 83 5 ((r :: (rs ++ [e])).map encEnt), .own 30, .own 34] := by simp
          have hgrow : Obj.grow 5 (((r :: rs).map encEnt).length + 1) = .grow 5 ((rs ++ [e]).length + 1) := by simp
          have hinv' : SInv g (entAt g.ents (atF g.ents cl)) ⟨i + 1, r :: (rs ++ [e])⟩ := ⟨hlt, by show r :: (rs ++ [e]) = _; rw [seen_succ he, ← hes, hn]; rfl⟩
          exact ⟨⟨⟨i + 1, r :: (rs ++ [e])⟩, hinv'⟩, by show g.ents.length - (i + 1) < g.ents.length - i; omega, ⟨(weakSl_cons rfl rfl (weakSl_cons rfl rfl (weakSl_cons rfl rfl (weakSl_cons rfl rfl (weakSl_cons (wrap_succ (by omega)) rfl weakSl_nil))))), (weakHp_cons rfl rfl (weakHp_cons rfl rfl (weakHp_cons rfl rfl (weakHp_cons happ rfl (weakHp_cons rfl rfl (weakHp_cons rfl rfl (weakHp_cons hgrow rfl weakHp_nil))))))), rfl⟩⟩
        · have hn : nearF (entAt g.ents (atF g.ents cl)) e = false := hn
          have hinv' : SInv g (entAt g.ents (atF g.ents cl)) ⟨i + 1, r :: rs⟩ := ⟨hlt, by show r :: rs = _; rw [seen_succ he, ← hes, hn]; simp⟩
          exact ⟨⟨⟨i + 1, r :: rs⟩, hinv'⟩, by show g.ents.length - (i + 1) < g.ents.length - i; omega, ⟨(weakSl_cons rfl rfl (weakSl_cons rfl rfl (weakSl_cons rfl rfl (weakSl_cons rfl rfl (weakSl_cons (wrap_succ (by omega)) rfl weakSl_nil))))), (weakHp_cons rfl rfl (weakHp_cons rfl rfl (weakHp_cons rfl rfl (weakHp_cons rfl rfl (weakHp_cons rfl rfl (weakHp_cons rfl rfl (weakHp_cons rfl rfl weakHp_nil))))))), rfl⟩⟩
      have hin : i = g.ents.length := ge_map hge hi
      have hseen : r :: rs = seen (entAt g.ents (atF g.ents cl)) g.ents := by
        rw [hes, hin, List.take_length]
      have hflag : (seen (entAt g.ents (atF g.ents cl)) g.ents).isEmpty = false := by rw [← hseen]; rfl
      refine (?_ : V.tup [_, vb true] = _)
      rw [hyesv, hflag]
      refine congrArg (fun v => V.tup [v, vb true]) (vGame_ext ?_ rfl rfl)
      show (r :: rs : List Ent).map encEnt = (seen (entAt g.ents (atF g.ents cl)) g.ents).map encEnt
      rw [← hseen]
  · exact no (by simp [hok]) rfl
end Go.Proofs.Ytnnmkenloijkcaa
/- What the laws' comparisons compute. -/
set_option linter.unusedVariables false
set_option maxRecDepth 10000
namespace Go.Proofs.Ytnnmkenloijkcaa
open Go Eng

open Classical in
noncomputable def eqI (l m : List Int) : Bool := decide (l = m)
theorem eqI_t {l m : List Int} : eqI l m = true ↔ l = m := by simp [eqI]
theorem eqI_self (l : List Int) : eqI l l = true := eqI_t.2 rfl
theorem eqI_f {l m : List Int} (h : l ≠ m) : eqI l m = false := by
  cases hb : eqI l m with
  | false => rfl
  | true => exact absurd (eqI_t.1 hb) h
theorem ints_ok (f1 f2 : Bool) (l m : List Int) : ACalls Try.prog G0 11 [.d (dInts f1 l), .d (dInts f2 m)] (· = vb (eqI l m)) := by
  refine spec_intro tabOk Try.func11 (by kernel_rfl) rfl ?_
  conv => whnf
  intro hlen
  have hlen := le_map hlen
  conv => whnf
  intro _
  conv => whnf
  refine ⟨fun hne => ?_, fun heq => ?_⟩ <;> conv => whnf
  · exact congrArg vb (eqI_f fun h => hne (by rw [h])).symm
  have heq : l.length = m.length := by
    have := Classical.not_not.1 heq
    simp only [List.length_map] at this
    omega
  let P : Nat → Prop := fun i => ∀ j, j < i → l[j]? = m[j]?
  let I : Nat → SL := fun i => ⟨[(0, .d (dInts f1 l)), (1, .d (dInts f2 m)), (5, vi i)], []⟩
  refine loop_up l.length P I (by intro j h; omega) ?_ ?_
  · refine ⟨?_, ?_, rfl⟩ <;> repeat' (first | exact weakSl_nil | exact weakHp_nil | refine weakSl_cons ?_ rfl ?_ | refine weakHp_cons ?_ rfl ?_)
    all_goals rfl
  intro i hi hP
  conv => whnf
  intro _
  refine ⟨fun hlt => ?_, fun hge => ?_⟩ <;> conv => whnf
  · have hlt := lt_map hlt
    refine (entsAt hlt).elim fun n hn => ?_
    refine (entsAt (l := m) (i := i) (by omega)).elim fun k hk => ?_
    refine ⟨by omega, encI n, row_map hn, ?_⟩
    conv => whnf
    refine ⟨by omega, encI k, row_map hk, ?_⟩
    conv => whnf
    refine ⟨fun hd => ?_, fun hd => ?_⟩ <;> conv => whnf
    · exact congrArg vb (eqI_f fun h => hd (by rw [h, hk] at hn; injection hn with hn; exact hn.symm)).symm
    · have hd : n = k := Classical.not_not.1 hd
      exact up_next hlt (fun j hj => by
        by_cases hji : j = i
        · subst hji; rw [hn, hk, hd]
        · exact hP j (by omega)) ⟨weakSl_cons rfl rfl (weakSl_cons rfl rfl (weakSl_cons (wrap_succ (by omega)) rfl weakSl_nil)), weakHp_nil, rfl⟩
  have hin := ge_map hge hi
  subst hin
  exact congrArg vb (eqI_t.2 (List.ext_getElem? fun j => by
    rcases Nat.lt_or_ge j l.length with h | h
    · exact hP j h
    · rw [List.getElem?_eq_none h, List.getElem?_eq_none (by omega)])).symm

def entB (e f : Ent) : Bool := (e.client == f.client) && ((e.x == f.x) && ((e.y == f.y) && ((e.life == f.life) && (e.gold == f.gold))))
theorem entB_t {e f : Ent} : entB e f = true ↔ e = f := by
  cases e; cases f
  simp [entB]
open Classical in
noncomputable def eqE (l m : List Ent) : Bool := decide (l = m)
noncomputable def eqG (g h : Game) : Bool := eqE g.ents h.ents && (eqI g.floor h.floor && eqI g.last h.last)
theorem eqE_t {l m : List Ent} : eqE l m = true ↔ l = m := by simp [eqE]
theorem eqE_f {l m : List Ent} (h : l ≠ m) : eqE l m = false := by
  cases hb : eqE l m with
  | false => rfl
  | true => exact absurd (eqE_t.1 hb) h
theorem eqG_self (g : Game) : eqG g g = true := by simp [eqG, eqI_self, eqE]
theorem game_eq (a b c a' b' c' : Bool) (g h : Game) : ACalls Try.prog G0 10 [vGame a b c g, vGame a' b' c' h] (· = vb (eqG g h)) := by
  refine spec_intro tabOk Try.func10 (by kernel_rfl) rfl ?_
  conv => whnf
  intro hlen
  have hlen := le_map hlen
  conv => whnf
  intro _
  conv => whnf
  refine ⟨fun hne => ?_, fun heq => ?_⟩ <;> conv => whnf
  · exact congrArg vb (show eqG g h = false by rw [eqG, eqE_f fun hh => hne (by rw [hh])]; rfl).symm
  have heq : g.ents.length = h.ents.length := by
    have := Classical.not_not.1 heq
    simp only [List.length_map] at this
    omega
  let P : Nat → Prop := fun i => ∀ j, j < i → g.ents[j]? = h.ents[j]?
  let I : Nat → SL := fun i => ⟨[(2, .ref 2 0 0 0), (3, .ref 3 0 0 0), (5, vi i)], [(2, .box [.d (dEnts a g.ents), .d (dInts b g.floor), .d (dInts c g.last)]), (3, .box [.d (dEnts a' h.ents), .d (dInts b' h.floor), .d (dInts c' h.last)])]⟩
  refine loop_up g.ents.length P I (by intro j h; omega) ?_ ?_
  · refine ⟨?_, ?_, rfl⟩ <;> repeat' (first | exact weakSl_nil | exact weakHp_nil | refine weakSl_cons ?_ rfl ?_ | refine weakHp_cons ?_ rfl ?_)
    all_goals rfl
  intro i hi hP
  conv => whnf
  intro _
  refine ⟨fun hlt => ?_, fun hge => ?_⟩ <;> conv => whnf
  · have hlt := lt_map hlt
    refine (entsAt hlt).elim fun e he => ?_
    refine (entsAt (l := h.ents) (i := i) (by omega)).elim fun f hf => ?_
    refine ⟨by omega, encEnt e, row_map he, ?_⟩
    conv => whnf
    refine ⟨by omega, encEnt f, row_map hf, ?_⟩
    conv => whnf
    refine ⟨fun hd => ?_, fun hd => ?_⟩ <;> conv => whnf
    · have hd : (!entB e f) = true := hd
      exact congrArg vb (show eqG g h = false by
        rw [eqG, eqE_f fun hh => ?_]; rfl
        rw [hh, hf] at he; injection he with he
        rw [entB_t.2 he.symm] at hd; simp at hd).symm
    · have hd : (!entB e f) = false := hd
      have hd : e = f := entB_t.1 (by simpa using hd)
      exact up_next hlt (fun j hj => by
        by_cases hji : j = i
        · subst hji; rw [he, hf, hd]
        · exact hP j (by omega)) ⟨weakSl_cons rfl rfl (weakSl_cons rfl rfl (weakSl_cons (wrap_succ (by omega)) rfl weakSl_nil)), weakHp_cons rfl rfl (weakHp_cons rfl rfl weakHp_nil), rfl⟩
  have hin := ge_map hge hi
  have hE : eqE g.ents h.ents = true := eqE_t.2 (List.ext_getElem? fun j => by
    rcases Nat.lt_or_ge j g.ents.length with h' | h'
    · exact hP j (by omega)
    · rw [List.getElem?_eq_none h', List.getElem?_eq_none (by omega)])
  refine call_bool (ints_ok b b' g.floor h.floor) (fun h1 => ?_) (fun h1 => ?_) <;> conv => whnf
  · refine call_bool (ints_ok c c' g.last h.last) (fun h2 => ?_) (fun h2 => ?_) <;> conv => whnf
    · exact congrArg vb (show eqG g h = true by simp [eqG, hE, h1, h2]).symm
    · exact congrArg vb (show eqG g h = false by simp [eqG, hE, h1, h2]).symm
  · exact congrArg vb (show eqG g h = false by simp [eqG, hE, h1]).symm
end Go.Proofs.Ytnnmkenloijkcaa
/- The program's moves and the reference's are the same; lists of asks are compared. -/
set_option linter.unusedVariables false
set_option linter.unusedSimpArgs false
set_option maxRecDepth 10000
namespace Go.Proofs.Ytnnmkenloijkcaa
open Go Eng

theorem drop_same {x y : GV} (h : x.g = y.g) (k : Int) : (dropV x k).g = (dropV y k).g := by
  simp only [dropV, h]
theorem hit_same {x y : GV} (h : x.g = y.g) (k n : Int) : (hitV x k n).1.g = (hitV y k n).1.g ∧ (hitV x k n).2 = (hitV y k n).2 := by
  unfold hitV
  rw [h]
  split
  · exact ⟨h, rfl⟩
  · refine ⟨?_, rfl⟩
    dsimp only
    split
    · exact drop_same (by simp only) n
    · rfl
theorem act_same {x y : GV} (h : x.g = y.g) (k : Int) (r : Req) : (actV x k r).1.g = (actV y k r).1.g ∧ (actV x k r).2 = (actV y k r).2 := by
  unfold actV
  rw [h]
  dsimp only
  split
  · split
    · exact ⟨h, rfl⟩
    · exact ⟨rfl, rfl⟩
  · split
    · split
      · exact ⟨h, rfl⟩
      · exact ⟨rfl, rfl⟩
    · split
      · exact hit_same h _ _
      · split
        · exact ⟨h, rfl⟩
        · split
          · exact ⟨h, rfl⟩
          · exact ⟨rfl, rfl⟩
theorem step_same {x y : GV} (h : x.g = y.g) (r : Req) : (stepV x r).1.g = (stepV y r).1.g ∧ (stepV x r).2 = (stepV y r).2 := by
  unfold stepV
  rw [h]
  split
  · split
    · exact ⟨h, rfl⟩
    · exact ⟨rfl, rfl⟩
  · split
    · exact ⟨h, rfl⟩
    · exact act_same h _ _
theorem do_same (a b c : Bool) (g : Game) (r : Req) : doI g r = ((doV ⟨a, b, c, g⟩ r).1.g, (doV ⟨a, b, c, g⟩ r).2) := by
  unfold doI doV
  dsimp only
  split
  · rfl
  · split
    · rfl
    · have h := step_same (x := ⟨true, true, true, noted g r⟩) (y := ⟨a, b, false, noted g r⟩) rfl r
      have e : (if r.op = 1 then if 0 ≤ atF g.ents r.client then ((⟨a, b, false, ⟨g.ents, g.floor, g.last.set (r.client - 1).toNat r.num⟩⟩ : GV), (4 : Int)) else (⟨false, b, false, ⟨joinF g.ents r.client, g.floor, g.last.set (r.client - 1).toNat r.num⟩⟩, 0)
          else if atF g.ents r.client < 0 then (⟨a, b, false, ⟨g.ents, g.floor, g.last.set (r.client - 1).toNat r.num⟩⟩, 5) else actV ⟨a, b, false, ⟨g.ents, g.floor, g.last.set (r.client - 1).toNat r.num⟩⟩ (atF g.ents r.client) r) = stepV ⟨a, b, false, noted g r⟩ r := rfl
      rw [e, h.1, h.2]

def reqB (e f : Req) : Bool := (e.client == f.client) && ((e.num == f.num) && ((e.op == f.op) && ((e.x == f.x) && (e.y == f.y))))
theorem reqB_t {e f : Req} : reqB e f = true ↔ e = f := by
  cases e; cases f
  simp [reqB]
open Classical in
noncomputable def eqR (l m : List Req) : Bool := decide (l = m)
theorem eqR_t {l m : List Req} : eqR l m = true ↔ l = m := by simp [eqR]
theorem eqR_self (l : List Req) : eqR l l = true := eqR_t.2 rfl
theorem eqR_f {l m : List Req} (h : l ≠ m) : eqR l m = false := by
  cases hb : eqR l m with
  | false => rfl
  | true => exact absurd (eqR_t.1 hb) h
theorem reqs_eq (f1 f2 : Bool) (l m : List Req) : ACalls Try.prog G0 20 [.d (.slc f1 5 (l.map encReq)), .d (.slc f2 5 (m.map encReq))] (· = vb (eqR l m)) := by
  refine spec_intro tabOk Try.func20 (by kernel_rfl) rfl ?_
  conv => whnf
  intro hlen
  have hlen := le_map hlen
  conv => whnf
  intro _
  conv => whnf
  refine ⟨fun hne => ?_, fun heq => ?_⟩ <;> conv => whnf
  · exact congrArg vb (eqR_f fun h => hne (by rw [h])).symm
  have heq : l.length = m.length := by
    have := Classical.not_not.1 heq
    simp only [List.length_map] at this
    omega
  let P : Nat → Prop := fun i => ∀ j, j < i → l[j]? = m[j]?
  let I : Nat → SL := fun i => ⟨[(0, .d (.slc f1 5 (l.map encReq))), (1, .d (.slc f2 5 (m.map encReq))), (5, vi i)], []⟩
  refine loop_up l.length P I (by intro j h; omega) ?_ ?_
  · refine ⟨?_, ?_, rfl⟩ <;> repeat' (first | exact weakSl_nil | exact weakHp_nil | refine weakSl_cons ?_ rfl ?_ | refine weakHp_cons ?_ rfl ?_)
    all_goals rfl
  intro i hi hP
  conv => whnf
  intro _
  refine ⟨fun hlt => ?_, fun hge => ?_⟩ <;> conv => whnf
  · have hlt := lt_map hlt
    refine (entsAt hlt).elim fun n hn => ?_
    refine (entsAt (l := m) (i := i) (by omega)).elim fun k hk => ?_
    refine ⟨by omega, encReq n, row_map hn, ?_⟩
    conv => whnf
    refine ⟨by omega, encReq k, row_map hk, ?_⟩
    conv => whnf
    refine ⟨fun hd => ?_, fun hd => ?_⟩ <;> conv => whnf
    · have hd : (!reqB n k) = true := hd
      exact congrArg vb (eqR_f fun h => by
        rw [h, hk] at hn; injection hn with hn
        rw [reqB_t.2 hn.symm] at hd; simp at hd).symm
    · have hd : (!reqB n k) = false := hd
      have hd : n = k := reqB_t.1 (by simpa using hd)
      exact up_next hlt (fun j hj => by
        by_cases hji : j = i
        · subst hji; rw [hn, hk, hd]
        · exact hP j (by omega)) ⟨weakSl_cons rfl rfl (weakSl_cons rfl rfl (weakSl_cons (wrap_succ (by omega)) rfl weakSl_nil)), weakHp_nil, rfl⟩
  have hin := ge_map hge hi
  subst hin
  exact congrArg vb (eqR_t.2 (List.ext_getElem? fun j => by
    rcases Nat.lt_or_ge j l.length with h | h
    · exact hP j h
    · rw [List.getElem?_eq_none h, List.getElem?_eq_none (by omega)])).symm
end Go.Proofs.Ytnnmkenloijkcaa
/- The law of gold holds, whatever the codes, given what slices.Insert and slices.Delete do. -/
set_option linter.unusedVariables false
set_option linter.unusedSimpArgs false
set_option maxRecDepth 10000
namespace Go.Proofs.Ytnnmkenloijkcaa
open Go Eng

theorem drawGold_use {full : Bool} {bs : List Int} (hb : Bytes bs) {ψ : V → Prop} (k : ∀ a b c g, ψ (vGame a b c g)) : ∃ φ, ACalls Try.prog G0 12 [.d (.slc full 1 (bs.map encB))] φ ∧ ∀ r, φ r → ψ r :=
  ⟨_, drawGold_ok full bs hb, fun r ⟨a, b, c, g, e⟩ => by subst e; exact k a b c g⟩
theorem drawDo_use {full : Bool} {bs : List Int} (hb : Bytes bs) {ψ : V → Prop} (k : ∀ a b c g q, ψ (.tup [vGame a b c g, vReq q])) : ∃ φ, ACalls Try.prog G0 16 [.d (.slc full 1 (bs.map encB))] φ ∧ ∀ r, φ r → ψ r :=
  ⟨_, drawDo_ok full bs hb, fun r ⟨a, b, c, g, q, e⟩ => by subst e; exact k a b c g q⟩
theorem do_use (hI : InsOk) (hD : DelOk) {a b c : Bool} {g : Game} {r : Req} {ψ : V → Prop} (k1 : okG g = true → (reqNone r = true ∨ okR r = true) → ∀ a b c, ψ (.tup [vGame a b c (doI g r).1, vi (doI g r).2])) (k2 : ψ (.tup [vGame true true true ⟨[], [], []⟩, vi 1])) :
    ∃ φ, ACalls Try.prog G0 17 [vGame a b c g, vReq r] φ ∧ ∀ q, φ q → ψ q :=
  ⟨_, gameDoI_ok hI hD a b c g r, fun q h => by
    rcases h with ⟨h1, h2, e⟩ | ⟨_, e⟩
    · subst e; exact k1 h1 h2 true true true
    · subst e; exact k2⟩
theorem goldI_yes {a b c : Bool} {g : Game} (h : okG g = true) : ACalls Try.prog G0 13 [vGame a b c g] (· = .tup [vi (g.ents.map Ent.gold).sum, vi g.floor.sum]) := by
  have := goldI_ok a b c g
  simp only [goldV, if_pos h] at this; exact this
theorem goldI_no {a b c : Bool} {g : Game} (h : ¬ okG g = true) : ACalls Try.prog G0 13 [vGame a b c g] (· = .tup [vi (-1), vi (-1)]) := by
  have := goldI_ok a b c g
  simp only [goldV, if_neg h] at this; exact this
theorem goldS_yes {a b c : Bool} {g : Game} (h : okG g = true) : ACalls Try.prog G0 14 [vGame a b c g] (· = .tup [vi (g.ents.map Ent.gold).sum, vi g.floor.sum]) := by
  have := goldS_ok a b c g
  simp only [goldV, if_pos h] at this; exact this
theorem goldS_no {a b c : Bool} {g : Game} (h : ¬ okG g = true) : ACalls Try.prog G0 14 [vGame a b c g] (· = .tup [vi (-1), vi (-1)]) := by
  have := goldS_ok a b c g
  simp only [goldV, if_neg h] at this; exact this
theorem gold_parts {g : Game} (h : Good g) : 0 ≤ (g.ents.map Ent.gold).sum ∧ 0 ≤ g.floor.sum := by
  refine ⟨sum_nonneg fun n hn => ?_, sum_nonneg h.floor⟩
  obtain ⟨e, he, rfl⟩ := List.mem_map.1 hn
  exact (h.ent e he).2.2.2.2.2.2.2.2
theorem empty_no : ¬ okG ⟨[], [], []⟩ = true := fun h => by have := (of_okG h).nfloor; simp at this

theorem law_gold (hI : InsOk) (hD : DelOk) (f1 f2 : Bool) (b1 b2 : List Int) (hb1 : Bytes b1) (hb2 : Bytes b2) : ACalls Try.prog G0 4 [.d (.slc f1 1 (b1.map encB)), .d (.slc f2 1 (b2.map encB))] (· = vb true) := by
  refine spec_own tabOk Try.func4 (by kernel_rfl) [] [] rfl ?_
  conv => whnf
  intro _
  refine ⟨fun hbig => ?_, fun hsmall => ?_⟩ <;> conv => whnf
  · rfl
  intro _
  refine ⟨fun hbig => ?_, fun hsmall => ?_⟩ <;> conv => whnf
  · rfl
  refine drawGold_use hb1 fun a b c g => ?_
  conv => whnf
  by_cases hok : okG g = true
  · have hg := ok_good (of_okG hok)
    have hp := gold_parts hg
    have hs := hg.sum
    refine call_eq (goldI_yes hok) ?_
    conv => whnf
    refine call_eq (goldS_yes hok) ?_
    conv => whnf
    refine ⟨fun h => absurd rfl h, fun _ => ?_⟩
    conv => whnf
    refine ⟨fun h => absurd rfl h, fun _ => ?_⟩
    conv => whnf
    refine ⟨fun h => absurd h (by omega), fun _ => ?_⟩
    conv => whnf
    refine drawDo_use hb2 fun a' b' c' g' q => ?_
    conv => whnf
    have w : IntKind.i64.wrap ((g.ents.map Ent.gold).sum + g.floor.sum) = 20 := by rw [wrap_id (by omega) (by omega)]; exact hs
    refine do_use hI hD (fun _ hr x y z => ?_) ?_
    · conv => whnf
      have hz := good_doI hg hr
      have hzs := hz.sum
      have w2 : IntKind.i64.wrap (((doI g q).1.ents.map Ent.gold).sum + (doI g q).1.floor.sum) = 20 := by rw [wrap_id (by omega) (by omega)]; exact hzs
      refine call_eq (goldI_yes (okG_t (good_ok hz))) ?_
      conv => whnf
      refine ⟨fun _ => ?_, fun h => absurd w h⟩
      conv => whnf
      refine ⟨fun _ => ?_, fun _ => ?_⟩ <;> conv => whnf
      · rfl
      · refine ⟨fun _ => ?_, fun h => absurd w2 h⟩
        conv => whnf
        rfl
    · conv => whnf
      refine call_eq (goldI_no empty_no) ?_
      conv => whnf
      refine ⟨fun _ => ?_, fun h => absurd w h⟩
      conv => whnf
      refine ⟨fun _ => ?_, fun h => absurd rfl h⟩
      conv => whnf
      rfl
  · have hokf : okG g = false := by simpa using hok
    refine call_eq (goldI_no hok) ?_
    conv => whnf
    refine call_eq (goldS_no hok) ?_
    conv => whnf
    refine ⟨fun h => absurd rfl h, fun _ => ?_⟩
    conv => whnf
    refine ⟨fun h => absurd rfl h, fun _ => ?_⟩
    conv => whnf
    refine ⟨fun _ => ?_, fun h => absurd (by decide) h⟩
    conv => whnf
    refine ⟨fun _ => ?_, fun h => absurd rfl h⟩
    conv => whnf
    refine ⟨fun _ => ?_, fun h => absurd rfl h⟩
    conv => whnf
    refine call_bool (gameOk_ok a b c g) (fun h => absurd h hok) (fun _ => ?_)
    conv => whnf
    refine ⟨fun h => absurd h (by decide), fun _ => ?_⟩
    conv => whnf
    rfl
end Go.Proofs.Ytnnmkenloijkcaa
/- Which asks go: the reference's list and the program's. -/
set_option linter.unusedVariables false
set_option linter.unusedSimpArgs false
set_option maxRecDepth 10000
namespace Go.Proofs.Ytnnmkenloijkcaa
open Go Eng

def goes (g : Game) (r : Req) : Bool := okR r && decide ((doI g r).2 = 0)
def mvReq (c n : Int) (a b d : Nat) : Req := ⟨c, n, (a : Int) + 1, (b : Int) - 1, (d : Int) - 1⟩
def mv1 (g : Game) (c n : Int) (a b d : Nat) : List Req := match goes g (mvReq c n a b d) with | true => [mvReq c n a b d] | false => []
def accY (g : Game) (c n : Int) (a b : Nat) : Nat → List Req
  | 0 => []
  | d + 1 => accY g c n a b d ++ mv1 g c n a b d
def accX (g : Game) (c n : Int) (a : Nat) : Nat → List Req
  | 0 => []
  | b + 1 => accX g c n a b ++ accY g c n a b 11
def accO (g : Game) (c n : Int) : Nat → List Req
  | 0 => []
  | a + 1 => accO g c n a ++ accX g c n a 6
def cur (g : Game) (c n : Int) (a b d : Nat) : List Req := accO g c n a ++ (accX g c n a b ++ accY g c n a b d)
theorem cur_y (g : Game) (c n : Int) (a b d : Nat) : cur g c n a b (d + 1) = cur g c n a b d ++ mv1 g c n a b d := by simp [cur, accY]
theorem cur_x (g : Game) (c n : Int) (a b : Nat) : cur g c n a (b + 1) 0 = cur g c n a b 11 := by simp only [cur, accX, accY, List.append_nil]
theorem cur_o (g : Game) (c n : Int) (a : Nat) : cur g c n (a + 1) 0 0 = cur g c n a 6 0 := by simp only [cur, accX, accY, accO, List.append_nil]
theorem mv1_len (g : Game) (c n : Int) (a b d : Nat) : (mv1 g c n a b d).length ≤ 1 := by unfold mv1; split <;> simp
theorem accY_len (g : Game) (c n : Int) (a b : Nat) : ∀ d, (accY g c n a b d).length ≤ d
  | 0 => by simp [accY]
  | d + 1 => by have h1 := accY_len g c n a b d; have h2 := mv1_len g c n a b d; simp only [accY, List.length_append]; omega
theorem accX_len (g : Game) (c n : Int) (a : Nat) : ∀ b, (accX g c n a b).length ≤ 11 * b
  | 0 => by simp [accX]
  | b + 1 => by have h1 := accX_len g c n a b; have h2 := accY_len g c n a b 11; simp only [accX, List.length_append]; omega
theorem accO_len (g : Game) (c n : Int) : ∀ a, (accO g c n a).length ≤ 66 * a
  | 0 => by simp [accO]
  | a + 1 => by have h1 := accO_len g c n a; have h2 := accX_len g c n a 6; simp only [accO, List.length_append]; omega
theorem cur_len {g : Game} {c n : Int} {a b d : Nat} (ha : a ≤ 5) (hb : b ≤ 6) (hd : d ≤ 11) : (cur g c n a b d).length ≤ 500 := by
  have h1 := accO_len g c n a; have h2 := accX_len g c n a b; have h3 := accY_len g c n a b d
  simp only [cur, List.length_append]; omega

theorem stepA (a : Nat) (h : a ≤ 100) : vi (IntKind.i64.wrap ((a : Int) + 1 + 1)) = vi (((a + 1 : Nat) : Int) + 1) := congrArg vi (by rw [wrap_id (by omega) (by omega)]; omega)
theorem stepB (b : Nat) (h : b ≤ 100) : vi (IntKind.i64.wrap ((b : Int) - 1 + 1)) = vi (((b + 1 : Nat) : Int) - 1) := congrArg vi (by rw [wrap_id (by omega) (by omega)]; omega)
structure MIx where
  i : Nat
  es : List Req
/-- A list that is nothing yet, or grows. -/
def MS (tok : Nat) (bx : Eng.Obj) (sl : List (Nat × V)) (es : List Req) : SL :=
  match es with
  | [] => ⟨(5, .d (.slc true 5 [])) :: sl, [(2, bx)]⟩
  | r :: rs => ⟨(5, .osl tok 5 ((r :: rs).map encReq)) :: sl, [(2, bx), (tok, .grow 5 (rs.length + 1))]⟩
structure MvInv (m : Nat) (f : Nat → List Req) (x : MIx) : Prop where
  i : x.i ≤ m
  es : x.es = f x.i

/-- When asks can go at all. -/
def mvOk (g : Game) (cl : Int) : Prop := okG g = true ∧ inB cl 1 4 = true ∧ ¬ 30 ≤ intAt g.last (cl - 1)
open Classical in
noncomputable def seeMvS (g : Game) (cl : Int) : V :=
  if mvOk g cl then .d (.slc (cur g cl (intAt g.last (cl - 1) + 1) 5 0 0).isEmpty 5 ((cur g cl (intAt g.last (cl - 1) + 1) 5 0 0).map encReq))
  else .d (.slc true 5 [])
set_option maxHeartbeats 1000000 in
theorem seeMvS_ok (fa fb fc : Bool) (g : Game) (cl : Int) : ACalls Try.prog G0 21 [vGame fa fb fc g, vi cl] (· = seeMvS g cl) := by
  refine spec_own tabOk Try.func21 (by kernel_rfl) [] [] rfl ?_
  conv => whnf
  have no : ∀ {v : V}, ¬ mvOk g cl → v = .d (.slc true 5 []) → v = seeMvS g cl := fun hn hv => by
    rw [hv, seeMvS, if_neg hn]
  refine call_bool (l2Ok_ok fa fb fc g) (fun hok => ?_) (fun hok => ?_) <;> conv => whnf
  · refine call_bool (l1In_ok _ _ _) (fun hin => ?_) (fun hin => ?_) <;> conv => whnf
    · have hcl := inB_t.1 hin
      have hc1 := hcl.1
      have hc4 := hcl.2
      have hg := ok_good (of_okG hok)
      have hle := good_len hg
      have hnf := hg.nfloor
      have hnl := hg.nlast
      have wc : IntKind.i64.wrap (cl - 1) = cl - 1 := wrap_id (by omega) (by omega)
      have hl := hg.last _ (intAt_mem (l := g.last) (k := cl - 1) (by omega))
      refine ⟨by rw [wc]; omega, encI (intAt g.last (cl - 1)), by rw [wc]; exact intAt_row (l := g.last) (by omega) (by omega), ?_⟩
      conv => whnf
      refine ⟨fun h30 => ?_, fun h30 => ?_⟩ <;> conv => whnf
      · exact no (fun h => h.2.2 h30) rfl
      have hyes : mvOk g cl := ⟨hok, hin, h30⟩
      refine ⟨by rw [wc]; omega, encI (intAt g.last (cl - 1)), by rw [wc]; exact intAt_row (l := g.last) (by omega) (by omega), ?_⟩
      conv => whnf
      have hw : IntKind.i64.wrap (intAt g.last (cl - 1) + 1) = intAt g.last (cl - 1) + 1 := wrap_id (by omega) (by omega)
      obtain ⟨n, hn⟩ : ∃ n, n = intAt g.last (cl - 1) + 1 := ⟨_, rfl⟩
      have hwn : vi (IntKind.i64.wrap (intAt g.last (cl - 1) + 1)) = vi n := congrArg vi (hw.trans hn.symm)
      have hnr : 1 ≤ n ∧ n ≤ 31 := by omega
      refine ⟨{ x : MIx // MvInv 5 (fun a => cur g cl n a 0 0) x }, fun x => MS 72 (.box [.d (dEnts fa g.ents), .d (dInts fb g.floor), .d (dInts fc g.last)]) [(1, vi cl), (2, .ref 2 0 0 0), (6, vi n), (7, vi ((x.1.i : Int) + 1))] x.1.es, fun x => 5 - x.1.i, ⟨⟨0, []⟩, ⟨by simp, rfl⟩⟩, ?_, ?_⟩
      · exact ⟨(weakSl_cons rfl rfl (weakSl_cons rfl rfl (weakSl_cons rfl rfl (weakSl_cons hwn rfl (weakSl_cons rfl rfl weakSl_nil))))), (weakHp_cons rfl rfl weakHp_nil), rfl⟩
      rintro ⟨⟨a, es0⟩, hinv0⟩
      have ha : a ≤ 5 := hinv0.i
      have hes0 : es0 = cur g cl n a 0 0 := hinv0.es
      cases es0 with
      | nil =>
        conv => whnf
        refine ⟨fun hlt => ?_, fun hge => ?_⟩ <;> conv => whnf
        · have hlt : (a : Int) + 1 ≤ 5 := hlt
          refine ⟨{ x : MIx // MvInv 6 (fun b => cur g cl n a b 0) x }, fun x => MS 72 (.box [.d (dEnts fa g.ents), .d (dInts fb g.floor), .d (dInts fc g.last)]) [(1, vi cl), (2, .ref 2 0 0 0), (6, vi n), (7, vi ((a : Int) + 1)), (8, vi ((x.1.i : Int) - 1))] x.1.es, fun x => 6 - x.1.i, ⟨⟨0, []⟩, ⟨by simp, hes0⟩⟩, ?_, ?_⟩
          · exact ⟨(weakSl_cons rfl rfl (weakSl_cons rfl rfl (weakSl_cons rfl rfl (weakSl_cons rfl rfl (weakSl_cons rfl rfl (weakSl_cons rfl rfl weakSl_nil)))))), (weakHp_cons rfl rfl weakHp_nil), rfl⟩
          rintro ⟨⟨b, es1⟩, hinv1⟩
          have hb : b ≤ 6 := hinv1.i
          have hes1 : es1 = cur g cl n a b 0 := hinv1.es
          cases es1 with
          | nil =>
            conv => whnf
            refine ⟨fun hlt => ?_, fun hge => ?_⟩ <;> conv => whnf
            · have hlt : (b : Int) - 1 ≤ 4 := hlt
              refine ⟨{ x : MIx // MvInv 11 (cur g cl n a b) x }, fun x => MS 72 (.box [.d (dEnts fa g.ents), .d (dInts fb g.floor), .d (dInts fc g.last)]) [(1, vi cl), (2, .ref 2 0 0 0), (6, vi n), (7, vi ((a : Int) + 1)), (8, vi ((b : Int) - 1)), (9, vi ((x.1.i : Int) - 1))] x.1.es, fun x => 11 - x.1.i, ⟨⟨0, []⟩, ⟨by simp, hes1⟩⟩, ?_, ?_⟩
              · exact ⟨(weakSl_cons rfl rfl (weakSl_cons rfl rfl (weakSl_cons rfl rfl (weakSl_cons rfl rfl (weakSl_cons rfl rfl (weakSl_cons rfl rfl (weakSl_cons rfl rfl weakSl_nil))))))), (weakHp_cons rfl rfl weakHp_nil), rfl⟩
              rintro ⟨⟨d, es2⟩, hinv2⟩
              have hd : d ≤ 11 := hinv2.i
              have hes2 : es2 = cur g cl n a b d := hinv2.es
              cases es2 with
              | nil =>
                conv => whnf
                refine ⟨fun hlt => ?_, fun hge => ?_⟩ <;> conv => whnf
                · have hlt : (d : Int) - 1 ≤ 9 := hlt
                  have hsame := (fun hgo : goes g (mvReq cl n a b d) = false => (⟨by show d + 1 ≤ 11; omega, by show [] = cur g cl n a b (d + 1); rw [cur_y, ← hes2, mv1, hgo]; simp⟩ : MvInv 11 (cur g cl n a b) ⟨d + 1, []⟩))
                  refine call_bool (l1Ok_ok (mvReq cl n a b d)) (fun hR => ?_) (fun hR => ?_) <;> conv => whnf
                  · have hfit : ReqIn (mvReq cl n a b d) := ⟨⟨by simp only [mvReq]; omega, by simp only [mvReq]; omega⟩, .inr ⟨hc1, hc4⟩⟩
                    refine drawn_eq (copy_ok fa fb fc g (by omega) (by omega) (by omega)) ?_
                    conv => whnf
                    refine drawn_eq (do_ok ⟨false, false, false, g⟩ (mvReq cl n a b d) (good_fit hg) (good_life hg) hfit) ?_
                    conv => whnf
                    have hds := do_same false false false g (mvReq cl n a b d)
                    refine ⟨fun hz => ?_, fun hz => ?_⟩ <;> conv => whnf
                    · have hgo : goes g (mvReq cl n a b d) = true := by unfold goes; rw [hR, hds]; simpa using hz
                      refine ⟨room (by simp) rfl, room' (by simp), ?_⟩
                      conv => whnf
                      exact ⟨⟨⟨d + 1, [mvReq cl n a b d]⟩, ⟨by show d + 1 ≤ 11; omega, by show [mvReq cl n a b d] = cur g cl n a b (d + 1); rw [cur_y, ← hes2, mv1, hgo]; rfl⟩⟩, by show 11 - (d + 1) < 11 - d; omega, ⟨(weakSl_cons rfl rfl (weakSl_cons rfl rfl (weakSl_cons rfl rfl (weakSl_cons rfl rfl (weakSl_cons rfl rfl (weakSl_cons rfl rfl (weakSl_cons (stepB d (by omega)) rfl weakSl_nil))))))), (weakHp_cons rfl rfl (weakHp_cons rfl rfl weakHp_nil)), rfl⟩⟩
                    · exact ⟨⟨⟨d + 1, []⟩, hsame (by unfold goes; rw [hR, hds]; simpa using hz)⟩, by show 11 - (d + 1) < 11 - d; omega, ⟨(weakSl_cons rfl rfl (weakSl_cons rfl rfl (weakSl_cons rfl rfl (weakSl_cons rfl rfl (weakSl_cons rfl rfl (weakSl_cons rfl rfl (weakSl_cons (stepB d (by omega)) rfl weakSl_nil))))))), (weakHp_cons rfl rfl weakHp_nil), rfl⟩⟩
                  · exact ⟨⟨⟨d + 1, []⟩, hsame (by unfold goes; rw [hR]; rfl)⟩, by show 11 - (d + 1) < 11 - d; omega, ⟨(weakSl_cons rfl rfl (weakSl_cons rfl rfl (weakSl_cons rfl rfl (weakSl_cons rfl rfl (weakSl_cons rfl rfl (weakSl_cons rfl rfl (weakSl_cons (stepB d (by omega)) rfl weakSl_nil))))))), (weakHp_cons rfl rfl weakHp_nil), rfl⟩⟩
                · have hge : ¬ (d : Int) - 1 ≤ 9 := hge
                  have hd11 : d = 11 := by omega
                  exact ⟨⟨⟨b + 1, []⟩, ⟨by show b + 1 ≤ 6; omega, by show [] = cur g cl n a (b + 1) 0; rw [cur_x, ← hd11]; exact hes2⟩⟩, by show 6 - (b + 1) < 6 - b; omega, ⟨(weakSl_cons rfl rfl (weakSl_cons rfl rfl (weakSl_cons rfl rfl (weakSl_cons rfl rfl (weakSl_cons rfl rfl (weakSl_cons (stepB b (by omega)) rfl weakSl_nil)))))), (weakHp_cons rfl rfl weakHp_nil), rfl⟩⟩
              | cons q2 qs2 =>
                conv => whnf
                have hlq : (q2 :: qs2).length ≤ 500 := by rw [hes2]; exact cur_len (by omega) (by omega) (by omega)
                simp only [List.length_cons] at hlq
                refine ⟨fun hlt => ?_, fun hge => ?_⟩ <;> conv => whnf
                · have hlt : (d : Int) - 1 ≤ 9 := hlt
                  have hsame := (fun hgo : goes g (mvReq cl n a b d) = false => (⟨by show d + 1 ≤ 11; omega, by show (q2 :: qs2) = cur g cl n a b (d + 1); rw [cur_y, ← hes2, mv1, hgo]; simp⟩ : MvInv 11 (cur g cl n a b) ⟨d + 1, (q2 :: qs2)⟩))
                  refine call_bool (l1Ok_ok (mvReq cl n a b d)) (fun hR => ?_) (fun hR => ?_) <;> conv => whnf
                  · have hfit : ReqIn (mvReq cl n a b d) := ⟨⟨by simp only [mvReq]; omega, by simp only [mvReq]; omega⟩, .inr ⟨hc1, hc4⟩⟩
                    refine drawn_eq (copy_ok fa fb fc g (by omega) (by omega) (by omega)) ?_
                    conv => whnf
                    refine drawn_eq (do_ok ⟨false, false, false, g⟩ (mvReq cl n a b d) (good_fit hg) (good_life hg) hfit) ?_
                    conv => whnf
                    have hds := do_same false false false g (mvReq cl n a b d)
                    refine ⟨fun hz => ?_, fun hz => ?_⟩ <;> conv => whnf
                    · have hgo : goes g (mvReq cl n a b d) = true := by unfold goes; rw [hR, hds]; simpa using hz
                      refine ⟨by simp, room (by simp; omega) rfl, room' (by simp; omega), ?_⟩
                      conv => whnf
                      have happ : (q2 :: qs2).map encReq ++ [encReq (mvReq cl n a b d)] = (q2 :: (qs2 ++ [mvReq cl n a b d])).map encReq := by simp
                      have hgrow : ((q2 :: qs2).map encReq).length + 1 = (qs2 ++ [mvReq cl n a b d]).length + 1 := by simp
                      exact ⟨⟨⟨d + 1, (q2 :: (qs2 ++ [mvReq cl n a b d]))⟩, ⟨by show d + 1 ≤ 11; omega, by show (q2 :: (qs2 ++ [mvReq cl n a b d])) = cur g cl n a b (d + 1); rw [cur_y, ← hes2, mv1, hgo]; rfl⟩⟩, by show 11 - (d + 1) < 11 - d; omega, ⟨(weakSl_cons (congrArg (fun z => V.osl 72 5 z) happ) rfl (weakSl_cons rfl rfl (weakSl_cons rfl rfl (weakSl_cons rfl rfl (weakSl_cons rfl rfl (weakSl_cons rfl rfl (weakSl_cons (stepB d (by omega)) rfl weakSl_nil))))))), (weakHp_cons rfl rfl (weakHp_cons (congrArg (fun z => Obj.grow 5 z) hgrow) rfl weakHp_nil)), rfl⟩⟩
                    · exact ⟨⟨⟨d + 1, (q2 :: qs2)⟩, hsame (by unfold goes; rw [hR, hds]; simpa using hz)⟩, by show 11 - (d + 1) < 11 - d; omega, ⟨(weakSl_cons rfl rfl (weakSl_cons rfl rfl (weakSl_cons rfl rfl (weakSl_cons rfl rfl (weakSl_cons rfl rfl (weakSl_cons rfl rfl (weakSl_cons (stepB d (by omega)) rfl weakSl_nil))))))), (weakHp_cons rfl rfl (weakHp_cons rfl rfl weakHp_nil)), rfl⟩⟩
                  · exact ⟨⟨⟨d + 1, (q2 :: qs2)⟩, hsame (by unfold goes; rw [hR]; rfl)⟩, by show 11 - (d + 1) < 11 - d; omega, ⟨(weakSl_cons rfl rfl (weakSl_cons rfl rfl (weakSl_cons rfl rfl (weakSl_cons rfl rfl (weakSl_cons rfl rfl (weakSl_cons rfl rfl (weakSl_cons (stepB d (by omega)) rfl weakSl_nil))))))), (weakHp_cons rfl rfl (weakHp_cons rfl rfl weakHp_nil)), rfl⟩⟩
                · have hge : ¬ (d : Int) - 1 ≤ 9 := hge
                  have hd11 : d = 11 := by omega
                  exact ⟨⟨⟨b + 1, (q2 :: qs2)⟩, ⟨by show b + 1 ≤ 6; omega, by show (q2 :: qs2) = cur g cl n a (b + 1) 0; rw [cur_x, ← hd11]; exact hes2⟩⟩, by show 6 - (b + 1) < 6 - b; omega, ⟨(weakSl_cons rfl rfl (weakSl_cons rfl rfl (weakSl_cons rfl rfl (weakSl_cons rfl rfl (weakSl_cons rfl rfl (weakSl_cons (stepB b (by omega)) rfl weakSl_nil)))))), (weakHp_cons rfl rfl (weakHp_cons rfl rfl weakHp_nil)), rfl⟩⟩
            · have hge : ¬ (b : Int) - 1 ≤ 4 := hge
              have hb6 : b = 6 := by omega
              exact ⟨⟨⟨a + 1, []⟩, ⟨by show a + 1 ≤ 5; omega, by show [] = cur g cl n (a + 1) 0 0; rw [cur_o, ← hb6]; exact hes1⟩⟩, by show 5 - (a + 1) < 5 - a; omega, ⟨(weakSl_cons rfl rfl (weakSl_cons rfl rfl (weakSl_cons rfl rfl (weakSl_cons rfl rfl (weakSl_cons (stepA a (by omega)) rfl weakSl_nil))))), (weakHp_cons rfl rfl weakHp_nil), rfl⟩⟩
          | cons q1 qs1 =>
            conv => whnf
            refine ⟨fun hlt => ?_, fun hge => ?_⟩ <;> conv => whnf
            · have hlt : (b : Int) - 1 ≤ 4 := hlt
              refine ⟨{ x : MIx // MvInv 11 (cur g cl n a b) x }, fun x => MS 72 (.box [.d (dEnts fa g.ents), .d (dInts fb g.floor), .d (dInts fc g.last)]) [(1, vi cl), (2, .ref 2 0 0 0), (6, vi n), (7, vi ((a : Int) + 1)), (8, vi ((b : Int) - 1)), (9, vi ((x.1.i : Int) - 1))] x.1.es, fun x => 11 - x.1.i, ⟨⟨0, (q1 :: qs1)⟩, ⟨by simp, hes1⟩⟩, ?_, ?_⟩
              · exact ⟨(weakSl_cons rfl rfl (weakSl_cons rfl rfl (weakSl_cons rfl rfl (weakSl_cons rfl rfl (weakSl_cons rfl rfl (weakSl_cons rfl rfl (weakSl_cons rfl rfl weakSl_nil))))))), (weakHp_cons rfl rfl (weakHp_cons rfl rfl weakHp_nil)), rfl⟩
              rintro ⟨⟨d, es2⟩, hinv2⟩
              have hd : d ≤ 11 := hinv2.i
              have hes2 : es2 = cur g cl n a b d := hinv2.es
              cases es2 with
              | nil =>
                conv => whnf
                refine ⟨fun hlt => ?_, fun hge => ?_⟩ <;> conv => whnf
                · have hlt : (d : Int) - 1 ≤ 9 := hlt
                  have hsame := (fun hgo : goes g (mvReq cl n a b d) = false => (⟨by show d + 1 ≤ 11; omega, by show [] = cur g cl n a b (d + 1); rw [cur_y, ← hes2, mv1, hgo]; simp⟩ : MvInv 11 (cur g cl n a b) ⟨d + 1, []⟩))
                  refine call_bool (l1Ok_ok (mvReq cl n a b d)) (fun hR => ?_) (fun hR => ?_) <;> conv => whnf
                  · have hfit : ReqIn (mvReq cl n a b d) := ⟨⟨by simp only [mvReq]; omega, by simp only [mvReq]; omega⟩, .inr ⟨hc1, hc4⟩⟩
                    refine drawn_eq (copy_ok fa fb fc g (by omega) (by omega) (by omega)) ?_
                    conv => whnf
                    refine drawn_eq (do_ok ⟨false, false, false, g⟩ (mvReq cl n a b d) (good_fit hg) (good_life hg) hfit) ?_
                    conv => whnf
                    have hds := do_same false false false g (mvReq cl n a b d)
                    refine ⟨fun hz => ?_, fun hz => ?_⟩ <;> conv => whnf
                    · have hgo : goes g (mvReq cl n a b d) = true := by unfold goes; rw [hR, hds]; simpa using hz
                      refine ⟨room (by simp) rfl, room' (by simp), ?_⟩
                      conv => whnf
                      exact ⟨⟨⟨d + 1, [mvReq cl n a b d]⟩, ⟨by show d + 1 ≤ 11; omega, by show [mvReq cl n a b d] = cur g cl n a b (d + 1); rw [cur_y, ← hes2, mv1, hgo]; rfl⟩⟩, by show 11 - (d + 1) < 11 - d; omega, ⟨(weakSl_cons rfl rfl (weakSl_cons rfl rfl (weakSl_cons rfl rfl (weakSl_cons rfl rfl (weakSl_cons rfl rfl (weakSl_cons rfl rfl (weakSl_cons (stepB d (by omega)) rfl weakSl_nil))))))), (weakHp_cons rfl rfl (weakHp_cons rfl rfl weakHp_nil)), rfl⟩⟩
                    · exact ⟨⟨⟨d + 1, []⟩, hsame (by unfold goes; rw [hR, hds]; simpa using hz)⟩, by show 11 - (d + 1) < 11 - d; omega, ⟨(weakSl_cons rfl rfl (weakSl_cons rfl rfl (weakSl_cons rfl rfl (weakSl_cons rfl rfl (weakSl_cons rfl rfl (weakSl_cons rfl rfl (weakSl_cons (stepB d (by omega)) rfl weakSl_nil))))))), (weakHp_cons rfl rfl weakHp_nil), rfl⟩⟩
                  · exact ⟨⟨⟨d + 1, []⟩, hsame (by unfold goes; rw [hR]; rfl)⟩, by show 11 - (d + 1) < 11 - d; omega, ⟨(weakSl_cons rfl rfl (weakSl_cons rfl rfl (weakSl_cons rfl rfl (weakSl_cons rfl rfl (weakSl_cons rfl rfl (weakSl_cons rfl rfl (weakSl_cons (stepB d (by omega)) rfl weakSl_nil))))))), (weakHp_cons rfl rfl weakHp_nil), rfl⟩⟩
                · have hge : ¬ (d : Int) - 1 ≤ 9 := hge
                  have hd11 : d = 11 := by omega
                  exact ⟨⟨⟨b + 1, []⟩, ⟨by show b + 1 ≤ 6; omega, by show [] = cur g cl n a (b + 1) 0; rw [cur_x, ← hd11]; exact hes2⟩⟩, by show 6 - (b + 1) < 6 - b; omega, ⟨(weakSl_cons rfl rfl (weakSl_cons rfl rfl (weakSl_cons rfl rfl (weakSl_cons rfl rfl (weakSl_cons rfl rfl (weakSl_cons (stepB b (by omega)) rfl weakSl_nil)))))), (weakHp_cons rfl rfl weakHp_nil), rfl⟩⟩
              | cons q2 qs2 =>
                conv => whnf
                have hlq : (q2 :: qs2).length ≤ 500 := by rw [hes2]; exact cur_len (by omega) (by omega) (by omega)
                simp only [List.length_cons] at hlq
                refine ⟨fun hlt => ?_, fun hge => ?_⟩ <;> conv => whnf
                · have hlt : (d : Int) - 1 ≤ 9 := hlt
                  have hsame := (fun hgo : goes g (mvReq cl n a b d) = false => (⟨by show d + 1 ≤ 11; omega, by show (q2 :: qs2) = cur g cl n a b (d + 1); rw [cur_y, ← hes2, mv1, hgo]; simp⟩ : MvInv 11 (cur g cl n a b) ⟨d + 1, (q2 :: qs2)⟩))
                  refine call_bool (l1Ok_ok (mvReq cl n a b d)) (fun hR => ?_) (fun hR => ?_) <;> conv => whnf
                  · have hfit : ReqIn (mvReq cl n a b d) := ⟨⟨by simp only [mvReq]; omega, by simp only [mvReq]; omega⟩, .inr ⟨hc1, hc4⟩⟩
                    refine drawn_eq (copy_ok fa fb fc g (by omega) (by omega) (by omega)) ?_
                    conv => whnf
                    refine drawn_eq (do_ok ⟨false, false, false, g⟩ (mvReq cl n a b d) (good_fit hg) (good_life hg) hfit) ?_
                    conv => whnf
                    have hds := do_same false false false g (mvReq cl n a b d)
                    refine ⟨fun hz => ?_, fun hz => ?_⟩ <;> conv => whnf
                    · have hgo : goes g (mvReq cl n a b d) = true := by unfold goes; rw [hR, hds]; simpa using hz
                      refine ⟨by simp, room (by simp; omega) rfl, room' (by simp; omega), ?_⟩
                      conv => whnf
                      have happ : (q2 :: qs2).map encReq ++ [encReq (mvReq cl n a b d)] = (q2 :: (qs2 ++ [mvReq cl n a b d])).map encReq := by simp
                      have hgrow : ((q2 :: qs2).map encReq).length + 1 = (qs2 ++ [mvReq cl n a b d]).length + 1 := by simp
                      exact ⟨⟨⟨d + 1, (q2 :: (qs2 ++ [mvReq cl n a b d]))⟩, ⟨by show d + 1 ≤ 11; omega, by show (q2 :: (qs2 ++ [mvReq cl n a b d])) = cur g cl n a b (d + 1); rw [cur_y, ← hes2, mv1, hgo]; rfl⟩⟩, by show 11 - (d + 1) < 11 - d; omega, ⟨(weakSl_cons (congrArg (fun z => V.osl 72 5 z) happ) rfl (weakSl_cons rfl rfl (weakSl_cons rfl rfl (weakSl_cons rfl rfl (weakSl_cons rfl rfl (weakSl_cons rfl rfl (weakSl_cons (stepB d (by omega)) rfl weakSl_nil))))))), (weakHp_cons rfl rfl (weakHp_cons (congrArg (fun z => Obj.grow 5 z) hgrow) rfl weakHp_nil)), rfl⟩⟩
                    · exact ⟨⟨⟨d + 1, (q2 :: qs2)⟩, hsame (by unfold goes; rw [hR, hds]; simpa using hz)⟩, by show 11 - (d + 1) < 11 - d; omega, ⟨(weakSl_cons rfl rfl (weakSl_cons rfl rfl (weakSl_cons rfl rfl (weakSl_cons rfl rfl (weakSl_cons rfl rfl (weakSl_cons rfl rfl (weakSl_cons (stepB d (by omega)) rfl weakSl_nil))))))), (weakHp_cons rfl rfl (weakHp_cons rfl rfl weakHp_nil)), rfl⟩⟩
                  · exact ⟨⟨⟨d + 1, (q2 :: qs2)⟩, hsame (by unfold goes; rw [hR]; rfl)⟩, by show 11 - (d + 1) < 11 - d; omega, ⟨(weakSl_cons rfl rfl (weakSl_cons rfl rfl (weakSl_cons rfl rfl (weakSl_cons rfl rfl (weakSl_cons rfl rfl (weakSl_cons rfl rfl (weakSl_cons (stepB d (by omega)) rfl weakSl_nil))))))), (weakHp_cons rfl rfl (weakHp_cons rfl rfl weakHp_nil)), rfl⟩⟩
                · have hge : ¬ (d : Int) - 1 ≤ 9 := hge
                  have hd11 : d = 11 := by omega
                  exact ⟨⟨⟨b + 1, (q2 :: qs2)⟩, ⟨by show b + 1 ≤ 6; omega, by show (q2 :: qs2) = cur g cl n a (b + 1) 0; rw [cur_x, ← hd11]; exact hes2⟩⟩, by show 6 - (b + 1) < 6 - b; omega, ⟨(weakSl_cons rfl rfl (weakSl_cons rfl rfl (weakSl_cons rfl rfl (weakSl_cons rfl rfl (weakSl_cons rfl rfl (weakSl_cons (stepB b (by omega)) rfl weakSl_nil)))))), (weakHp_cons rfl rfl (weakHp_cons rfl rfl weakHp_nil)), rfl⟩⟩
            · have hge : ¬ (b : Int) - 1 ≤ 4 := hge
              have hb6 : b = 6 := by omega
              exact ⟨⟨⟨a + 1, (q1 :: qs1)⟩, ⟨by show a + 1 ≤ 5; omega, by show (q1 :: qs1) = cur g cl n (a + 1) 0 0; rw [cur_o, ← hb6]; exact hes1⟩⟩, by show 5 - (a + 1) < 5 - a; omega, ⟨(weakSl_cons rfl rfl (weakSl_cons rfl rfl (weakSl_cons rfl rfl (weakSl_cons rfl rfl (weakSl_cons (stepA a (by omega)) rfl weakSl_nil))))), (weakHp_cons rfl rfl (weakHp_cons rfl rfl weakHp_nil)), rfl⟩⟩
        · have hge : ¬ (a : Int) + 1 ≤ 5 := hge
          have ha5 : a = 5 := by omega
          have hes5 : [] = cur g cl n 5 0 0 := by rw [← ha5]; exact hes0
          refine (?_ : V.d _ = seeMvS g cl)
          rw [seeMvS, if_pos hyes, ← hn, ← hes5]
          rfl
      | cons q0 qs0 =>
        conv => whnf
        refine ⟨fun hlt => ?_, fun hge => ?_⟩ <;> conv => whnf
        · have hlt : (a : Int) + 1 ≤ 5 := hlt
          refine ⟨{ x : MIx // MvInv 6 (fun b => cur g cl n a b 0) x }, fun x => MS 72 (.box [.d (dEnts fa g.ents), .d (dInts fb g.floor), .d (dInts fc g.last)]) [(1, vi cl), (2, .ref 2 0 0 0), (6, vi n), (7, vi ((a : Int) + 1)), (8, vi ((x.1.i : Int) - 1))] x.1.es, fun x => 6 - x.1.i, ⟨⟨0, (q0 :: qs0)⟩, ⟨by simp, hes0⟩⟩, ?_, ?_⟩
          · exact ⟨(weakSl_cons rfl rfl (weakSl_cons rfl rfl (weakSl_cons rfl rfl (weakSl_cons rfl rfl (weakSl_cons rfl rfl (weakSl_cons rfl rfl weakSl_nil)))))), (weakHp_cons rfl rfl (weakHp_cons rfl rfl weakHp_nil)), rfl⟩
          rintro ⟨⟨b, es1⟩, hinv1⟩
          have hb : b ≤ 6 := hinv1.i
          have hes1 : es1 = cur g cl n a b 0 := hinv1.es
          cases es1 with
          | nil =>
            conv => whnf
            refine ⟨fun hlt => ?_, fun hge => ?_⟩ <;> conv => whnf
            · have hlt : (b : Int) - 1 ≤ 4 := hlt
              refine ⟨{ x : MIx // MvInv 11 (cur g cl n a b) x }, fun x => MS 72 (.box [.d (dEnts fa g.ents), .d (dInts fb g.floor), .d (dInts fc g.last)]) [(1, vi cl), (2, .ref 2 0 0 0), (6, vi n), (7, vi ((a : Int) + 1)), (8, vi ((b : Int) - 1)), (9, vi ((x.1.i : Int) - 1))] x.1.es, fun x => 11 - x.1.i, ⟨⟨0, []⟩, ⟨by simp, hes1⟩⟩, ?_, ?_⟩
              · exact ⟨(weakSl_cons rfl rfl (weakSl_cons rfl rfl (weakSl_cons rfl rfl (weakSl_cons rfl rfl (weakSl_cons rfl rfl (weakSl_cons rfl rfl (weakSl_cons rfl rfl weakSl_nil))))))), (weakHp_cons rfl rfl weakHp_nil), rfl⟩
              rintro ⟨⟨d, es2⟩, hinv2⟩
              have hd : d ≤ 11 := hinv2.i
              have hes2 : es2 = cur g cl n a b d := hinv2.es
              cases es2 with
              | nil =>
                conv => whnf
                refine ⟨fun hlt => ?_, fun hge => ?_⟩ <;> conv => whnf
                · have hlt : (d : Int) - 1 ≤ 9 := hlt
                  have hsame := (fun hgo : goes g (mvReq cl n a b d) = false => (⟨by show d + 1 ≤ 11; omega, by show [] = cur g cl n a b (d + 1); rw [cur_y, ← hes2, mv1, hgo]; simp⟩ : MvInv 11 (cur g cl n a b) ⟨d + 1, []⟩))
                  refine call_bool (l1Ok_ok (mvReq cl n a b d)) (fun hR => ?_) (fun hR => ?_) <;> conv => whnf
                  · have hfit : ReqIn (mvReq cl n a b d) := ⟨⟨by simp only [mvReq]; omega, by simp only [mvReq]; omega⟩, .inr ⟨hc1, hc4⟩⟩
                    refine drawn_eq (copy_ok fa fb fc g (by omega) (by omega) (by omega)) ?_
                    conv => whnf
                    refine drawn_eq (do_ok ⟨false, false, false, g⟩ (mvReq cl n a b d) (good_fit hg) (good_life hg) hfit) ?_
                    conv => whnf
                    have hds := do_same false false false g (mvReq cl n a b d)
                    refine ⟨fun hz => ?_, fun hz => ?_⟩ <;> conv => whnf
                    · have hgo : goes g (mvReq cl n a b d) = true := by unfold goes; rw [hR, hds]; simpa using hz
                      refine ⟨room (by simp) rfl, room' (by simp), ?_⟩
                      conv => whnf
                      exact ⟨⟨⟨d + 1, [mvReq cl n a b d]⟩, ⟨by show d + 1 ≤ 11; omega, by show [mvReq cl n a b d] = cur g cl n a b (d + 1); rw [cur_y, ← hes2, mv1, hgo]; rfl⟩⟩, by show 11 - (d + 1) < 11 - d; omega, ⟨(weakSl_cons rfl rfl (weakSl_cons rfl rfl (weakSl_cons rfl rfl (weakSl_cons rfl rfl (weakSl_cons rfl rfl (weakSl_cons rfl rfl (weakSl_cons (stepB d (by omega)) rfl weakSl_nil))))))), (weakHp_cons rfl rfl (weakHp_cons rfl rfl weakHp_nil)), rfl⟩⟩
                    · exact ⟨⟨⟨d + 1, []⟩, hsame (by unfold goes; rw [hR, hds]; simpa using hz)⟩, by show 11 - (d + 1) < 11 - d; omega, ⟨(weakSl_cons rfl rfl (weakSl_cons rfl rfl (weakSl_cons rfl rfl (weakSl_cons rfl rfl (weakSl_cons rfl rfl (weakSl_cons rfl rfl (weakSl_cons (stepB d (by omega)) rfl weakSl_nil))))))), (weakHp_cons rfl rfl weakHp_nil), rfl⟩⟩
                  · exact ⟨⟨⟨d + 1, []⟩, hsame (by unfold goes; rw [hR]; rfl)⟩, by show 11 - (d + 1) < 11 - d; omega, ⟨(weakSl_cons rfl rfl (weakSl_cons rfl rfl (weakSl_cons rfl rfl (weakSl_cons rfl rfl (weakSl_cons rfl rfl (weakSl_cons rfl rfl (weakSl_cons (stepB d (by omega)) rfl weakSl_nil))))))), (weakHp_cons rfl rfl weakHp_nil), rfl⟩⟩
                · have hge : ¬ (d : Int) - 1 ≤ 9 := hge
                  have hd11 : d = 11 := by omega
                  exact ⟨⟨⟨b + 1, []⟩, ⟨by show b + 1 ≤ 6; omega, by show [] = cur g cl n a (b + 1) 0; rw [cur_x, ← hd11]; exact hes2⟩⟩, by show 6 - (b + 1) < 6 - b; omega, ⟨(weakSl_cons rfl rfl (weakSl_cons rfl rfl (weakSl_cons rfl rfl (weakSl_cons rfl rfl (weakSl_cons rfl rfl (weakSl_cons (stepB b (by omega)) rfl weakSl_nil)))))), (weakHp_cons rfl rfl weakHp_nil), rfl⟩⟩
              | cons q2 qs2 =>
                conv => whnf
                have hlq : (q2 :: qs2).length ≤ 500 := by rw [hes2]; exact cur_len (by omega) (by omega) (by omega)
                simp only [List.length_cons] at hlq
                refine ⟨fun hlt => ?_, fun hge => ?_⟩ <;> conv => whnf
                · have hlt : (d : Int) - 1 ≤ 9 := hlt
                  have hsame := (fun hgo : goes g (mvReq cl n a b d) = false => (⟨by show d + 1 ≤ 11; omega, by show (q2 :: qs2) = cur g cl n a b (d + 1); rw [cur_y, ← hes2, mv1, hgo]; simp⟩ : MvInv 11 (cur g cl n a b) ⟨d + 1, (q2 :: qs2)⟩))
                  refine call_bool (l1Ok_ok (mvReq cl n a b d)) (fun hR => ?_) (fun hR => ?_) <;> conv => whnf
                  · have hfit : ReqIn (mvReq cl n a b d) := ⟨⟨by simp only [mvReq]; omega, by simp only [mvReq]; omega⟩, .inr ⟨hc1, hc4⟩⟩
                    refine drawn_eq (copy_ok fa fb fc g (by omega) (by omega) (by omega)) ?_
                    conv => whnf
                    refine drawn_eq (do_ok ⟨false, false, false, g⟩ (mvReq cl n a b d) (good_fit hg) (good_life hg) hfit) ?_
                    conv => whnf
                    have hds := do_same false false false g (mvReq cl n a b d)
                    refine ⟨fun hz => ?_, fun hz => ?_⟩ <;> conv => whnf
                    · have hgo : goes g (mvReq cl n a b d) = true := by unfold goes; rw [hR, hds]; simpa using hz
                      refine ⟨by simp, room (by simp; omega) rfl, room' (by simp; omega), ?_⟩
                      conv => whnf
                      have happ : (q2 :: qs2).map encReq ++ [encReq (mvReq cl n a b d)] = (q2 :: (qs2 ++ [mvReq cl n a b d])).map encReq := by simp
                      have hgrow : ((q2 :: qs2).map encReq).length + 1 = (qs2 ++ [mvReq cl n a b d]).length + 1 := by simp
                      exact ⟨⟨⟨d + 1, (q2 :: (qs2 ++ [mvReq cl n a b d]))⟩, ⟨by show d + 1 ≤ 11; omega, by show (q2 :: (qs2 ++ [mvReq cl n a b d])) = cur g cl n a b (d + 1); rw [cur_y, ← hes2, mv1, hgo]; rfl⟩⟩, by show 11 - (d + 1) < 11 - d; omega, ⟨(weakSl_cons (congrArg (fun z => V.osl 72 5 z) happ) rfl (weakSl_cons rfl rfl (weakSl_cons rfl rfl (weakSl_cons rfl rfl (weakSl_cons rfl rfl (weakSl_cons rfl rfl (weakSl_cons (stepB d (by omega)) rfl weakSl_nil))))))), (weakHp_cons rfl rfl (weakHp_cons (congrArg (fun z => Obj.grow 5 z) hgrow) rfl weakHp_nil)), rfl⟩⟩
                    · exact ⟨⟨⟨d + 1, (q2 :: qs2)⟩, hsame (by unfold goes; rw [hR, hds]; simpa using hz)⟩, by show 11 - (d + 1) < 11 - d; omega, ⟨(weakSl_cons rfl rfl (weakSl_cons rfl rfl (weakSl_cons rfl rfl (weakSl_cons rfl rfl (weakSl_cons rfl rfl (weakSl_cons rfl rfl (weakSl_cons (stepB d (by omega)) rfl weakSl_nil))))))), (weakHp_cons rfl rfl (weakHp_cons rfl rfl weakHp_nil)), rfl⟩⟩
                  · exact ⟨⟨⟨d + 1, (q2 :: qs2)⟩, hsame (by unfold goes; rw [hR]; rfl)⟩, by show 11 - (d + 1) < 11 - d; omega, ⟨(weakSl_cons rfl rfl (weakSl_cons rfl rfl (weakSl_cons rfl rfl (weakSl_cons rfl rfl (weakSl_cons rfl rfl (weakSl_cons rfl rfl (weakSl_cons (stepB d (by omega)) rfl weakSl_nil))))))), (weakHp_cons rfl rfl (weakHp_cons rfl rfl weakHp_nil)), rfl⟩⟩
                · have hge : ¬ (d : Int) - 1 ≤ 9 := hge
                  have hd11 : d = 11 := by omega
                  exact ⟨⟨⟨b + 1, (q2 :: qs2)⟩, ⟨by show b + 1 ≤ 6; omega, by show (q2 :: qs2) = cur g cl n a (b + 1) 0; rw [cur_x, ← hd11]; exact hes2⟩⟩, by show 6 - (b + 1) < 6 - b; omega, ⟨(weakSl_cons rfl rfl (weakSl_cons rfl rfl (weakSl_cons rfl rfl (weakSl_cons rfl rfl (weakSl_cons rfl rfl (weakSl_cons (stepB b (by omega)) rfl weakSl_nil)))))), (weakHp_cons rfl rfl (weakHp_cons rfl rfl weakHp_nil)), rfl⟩⟩
            · have hge : ¬ (b : Int) - 1 ≤ 4 := hge
              have hb6 : b = 6 := by omega
              exact ⟨⟨⟨a + 1, []⟩, ⟨by show a + 1 ≤ 5; omega, by show [] = cur g cl n (a + 1) 0 0; rw [cur_o, ← hb6]; exact hes1⟩⟩, by show 5 - (a + 1) < 5 - a; omega, ⟨(weakSl_cons rfl rfl (weakSl_cons rfl rfl (weakSl_cons rfl rfl (weakSl_cons rfl rfl (weakSl_cons (stepA a (by omega)) rfl weakSl_nil))))), (weakHp_cons rfl rfl weakHp_nil), rfl⟩⟩
          | cons q1 qs1 =>
            conv => whnf
            refine ⟨fun hlt => ?_, fun hge => ?_⟩ <;> conv => whnf
            · have hlt : (b : Int) - 1 ≤ 4 := hlt
              refine ⟨{ x : MIx // MvInv 11 (cur g cl n a b) x }, fun x => MS 72 (.box [.d (dEnts fa g.ents), .d (dInts fb g.floor), .d (dInts fc g.last)]) [(1, vi cl), (2, .ref 2 0 0 0), (6, vi n), (7, vi ((a : Int) + 1)), (8, vi ((b : Int) - 1)), (9, vi ((x.1.i : Int) - 1))] x.1.es, fun x => 11 - x.1.i, ⟨⟨0, (q1 :: qs1)⟩, ⟨by simp, hes1⟩⟩, ?_, ?_⟩
              · exact ⟨(weakSl_cons rfl rfl (weakSl_cons rfl rfl (weakSl_cons rfl rfl (weakSl_cons rfl rfl (weakSl_cons rfl rfl (weakSl_cons rfl rfl (weakSl_cons rfl rfl weakSl_nil))))))), (weakHp_cons rfl rfl (weakHp_cons rfl rfl weakHp_nil)), rfl⟩
              rintro ⟨⟨d, es2⟩, hinv2⟩
              have hd : d ≤ 11 := hinv2.i
              have hes2 : es2 = cur g cl n a b d := hinv2.es
              cases es2 with
              | nil =>
                conv => whnf
                refine ⟨fun hlt => ?_, fun hge => ?_⟩ <;> conv => whnf
                · have hlt : (d : Int) - 1 ≤ 9 := hlt
                  have hsame := (fun hgo : goes g (mvReq cl n a b d) = false => (⟨by show d + 1 ≤ 11; omega, by show [] = cur g cl n a b (d + 1); rw [cur_y, ← hes2, mv1, hgo]; simp⟩ : MvInv 11 (cur g cl n a b) ⟨d + 1, []⟩))
                  refine call_bool (l1Ok_ok (mvReq cl n a b d)) (fun hR => ?_) (fun hR => ?_) <;> conv => whnf
                  · have hfit : ReqIn (mvReq cl n a b d) := ⟨⟨by simp only [mvReq]; omega, by simp only [mvReq]; omega⟩, .inr ⟨hc1, hc4⟩⟩
                    refine drawn_eq (copy_ok fa fb fc g (by omega) (by omega) (by omega)) ?_
                    conv => whnf
                    refine drawn_eq (do_ok ⟨false, false, false, g⟩ (mvReq cl n a b d) (good_fit hg) (good_life hg) hfit) ?_
                    conv => whnf
                    have hds := do_same false false false g (mvReq cl n a b d)
                    refine ⟨fun hz => ?_, fun hz => ?_⟩ <;> conv => whnf
                    · have hgo : goes g (mvReq cl n a b d) = true := by unfold goes; rw [hR, hds]; simpa using hz
                      refine ⟨room (by simp) rfl, room' (by simp), ?_⟩
                      conv => whnf
                      exact ⟨⟨⟨d + 1, [mvReq cl n a b d]⟩, ⟨by show d + 1 ≤ 11; omega, by show [mvReq cl n a b d] = cur g cl n a b (d + 1); rw [cur_y, ← hes2, mv1, hgo]; rfl⟩⟩, by show 11 - (d + 1) < 11 - d; omega, ⟨(weakSl_cons rfl rfl (weakSl_cons rfl rfl (weakSl_cons rfl rfl (weakSl_cons rfl rfl (weakSl_cons rfl rfl (weakSl_cons rfl rfl (weakSl_cons (stepB d (by omega)) rfl weakSl_nil))))))), (weakHp_cons rfl rfl (weakHp_cons rfl rfl weakHp_nil)), rfl⟩⟩
                    · exact ⟨⟨⟨d + 1, []⟩, hsame (by unfold goes; rw [hR, hds]; simpa using hz)⟩, by show 11 - (d + 1) < 11 - d; omega, ⟨(weakSl_cons rfl rfl (weakSl_cons rfl rfl (weakSl_cons rfl rfl (weakSl_cons rfl rfl (weakSl_cons rfl rfl (weakSl_cons rfl rfl (weakSl_cons (stepB d (by omega)) rfl weakSl_nil))))))), (weakHp_cons rfl rfl weakHp_nil), rfl⟩⟩
                  · exact ⟨⟨⟨d + 1, []⟩, hsame (by unfold goes; rw [hR]; rfl)⟩, by show 11 - (d + 1) < 11 - d; omega, ⟨(weakSl_cons rfl rfl (weakSl_cons rfl rfl (weakSl_cons rfl rfl (weakSl_cons rfl rfl (weakSl_cons rfl rfl (weakSl_cons rfl rfl (weakSl_cons (stepB d (by omega)) rfl weakSl_nil))))))), (weakHp_cons rfl rfl weakHp_nil), rfl⟩⟩
                · have hge : ¬ (d : Int) - 1 ≤ 9 := hge
                  have hd11 : d = 11 := by omega
                  exact ⟨⟨⟨b + 1, []⟩, ⟨by show b + 1 ≤ 6; omega, by show [] = cur g cl n a (b + 1) 0; rw [cur_x, ← hd11]; exact hes2⟩⟩, by show 6 - (b + 1) < 6 - b; omega, ⟨(weakSl_cons rfl rfl (weakSl_cons rfl rfl (weakSl_cons rfl rfl (weakSl_cons rfl rfl (weakSl_cons rfl rfl (weakSl_cons (stepB b (by omega)) rfl weakSl_nil)))))), (weakHp_cons rfl rfl weakHp_nil), rfl⟩⟩
              | cons q2 qs2 =>
                conv => whnf
                have hlq : (q2 :: qs2).length ≤ 500 := by rw [hes2]; exact cur_len (by omega) (by omega) (by omega)
                simp only [List.length_cons] at hlq
                refine ⟨fun hlt => ?_, fun hge => ?_⟩ <;> conv => whnf
                · have hlt : (d : Int) - 1 ≤ 9 := hlt
                  have hsame := (fun hgo : goes g (mvReq cl n a b d) = false => (⟨by show d + 1 ≤ 11; omega, by show (q2 :: qs2) = cur g cl n a b (d + 1); rw [cur_y, ← hes2, mv1, hgo]; simp⟩ : MvInv 11 (cur g cl n a b) ⟨d + 1, (q2 :: qs2)⟩))
                  refine call_bool (l1Ok_ok (mvReq cl n a b d)) (fun hR => ?_) (fun hR => ?_) <;> conv => whnf
                  · have hfit : ReqIn (mvReq cl n a b d) := ⟨⟨by simp only [mvReq]; omega, by simp only [mvReq]; omega⟩, .inr ⟨hc1, hc4⟩⟩
                    refine drawn_eq (copy_ok fa fb fc g (by omega) (by omega) (by omega)) ?_
                    conv => whnf
                    refine drawn_eq (do_ok ⟨false, false, false, g⟩ (mvReq cl n a b d) (good_fit hg) (good_life hg) hfit) ?_
                    conv => whnf
                    have hds := do_same false false false g (mvReq cl n a b d)
                    refine ⟨fun hz => ?_, fun hz => ?_⟩ <;> conv => whnf
                    · have hgo : goes g (mvReq cl n a b d) = true := by unfold goes; rw [hR, hds]; simpa using hz
                      refine ⟨by simp, room (by simp; omega) rfl, room' (by simp; omega), ?_⟩
                      conv => whnf
                      have happ : (q2 :: qs2).map encReq ++ [encReq (mvReq cl n a b d)] = (q2 :: (qs2 ++ [mvReq cl n a b d])).map encReq := by simp
                      have hgrow : ((q2 :: qs2).map encReq).length + 1 = (qs2 ++ [mvReq cl n a b d]).length + 1 := by simp
                      exact ⟨⟨⟨d + 1, (q2 :: (qs2 ++ [mvReq cl n a b d]))⟩, ⟨by show d + 1 ≤ 11; omega, by show (q2 :: (qs2 ++ [mvReq cl n a b d])) = cur g cl n a b (d + 1); rw [cur_y, ← hes2, mv1, hgo]; rfl⟩⟩, by show 11 - (d + 1) < 11 - d; omega, ⟨(weakSl_cons (congrArg (fun z => V.osl 72 5 z) happ) rfl (weakSl_cons rfl rfl (weakSl_cons rfl rfl (weakSl_cons rfl rfl (weakSl_cons rfl rfl (weakSl_cons rfl rfl (weakSl_cons (stepB d (by omega)) rfl weakSl_nil))))))), (weakHp_cons rfl rfl (weakHp_cons (congrArg (fun z => Obj.grow 5 z) hgrow) rfl weakHp_nil)), rfl⟩⟩
                    · exact ⟨⟨⟨d + 1, (q2 :: qs2)⟩, hsame (by unfold goes; rw [hR, hds]; simpa using hz)⟩, by show 11 - (d + 1) < 11 - d; omega, ⟨(weakSl_cons rfl rfl (weakSl_cons rfl rfl (weakSl_cons rfl rfl (weakSl_cons rfl rfl (weakSl_cons rfl rfl (weakSl_cons rfl rfl (weakSl_cons (stepB d (by omega)) rfl weakSl_nil))))))), (weakHp_cons rfl rfl (weakHp_cons rfl rfl weakHp_nil)), rfl⟩⟩
                  · exact ⟨⟨⟨d + 1, (q2 :: qs2)⟩, hsame (by unfold goes; rw [hR]; rfl)⟩, by show 11 - (d + 1) < 11 - d; omega, ⟨(weakSl_cons rfl rfl (weakSl_cons rfl rfl (weakSl_cons rfl rfl (weakSl_cons rfl rfl (weakSl_cons rfl rfl (weakSl_cons rfl rfl (weakSl_cons (stepB d (by omega)) rfl weakSl_nil))))))), (weakHp_cons rfl rfl (weakHp_cons rfl rfl weakHp_nil)), rfl⟩⟩
                · have hge : ¬ (d : Int) - 1 ≤ 9 := hge
                  have hd11 : d = 11 := by omega
                  exact ⟨⟨⟨b + 1, (q2 :: qs2)⟩, ⟨by show b + 1 ≤ 6; omega, by show (q2 :: qs2) = cur g cl n a (b + 1) 0; rw [cur_x, ← hd11]; exact hes2⟩⟩, by show 6 - (b + 1) < 6 - b; omega, ⟨(weakSl_cons rfl rfl (weakSl_cons rfl rfl (weakSl_cons rfl rfl (weakSl_cons rfl rfl (weakSl_cons rfl rfl (weakSl_cons (stepB b (by omega)) rfl weakSl_nil)))))), (weakHp_cons rfl rfl (weakHp_cons rfl rfl weakHp_nil)), rfl⟩⟩
            · have hge : ¬ (b : Int) - 1 ≤ 4 := hge
              have hb6 : b = 6 := by omega
              exact ⟨⟨⟨a + 1, (q1 :: qs1)⟩, ⟨by show a + 1 ≤ 5; omega, by show (q1 :: qs1) = cur g cl n (a + 1) 0 0; rw [cur_o, ← hb6]; exact hes1⟩⟩, by show 5 - (a + 1) < 5 - a; omega, ⟨(weakSl_cons rfl rfl (weakSl_cons rfl rfl (weakSl_cons rfl rfl (weakSl_cons rfl rfl (weakSl_cons (stepA a (by omega)) rfl weakSl_nil))))), (weakHp_cons rfl rfl (weakHp_cons rfl rfl weakHp_nil)), rfl⟩⟩
        · have hge : ¬ (a : Int) + 1 ≤ 5 := hge
          have ha5 : a = 5 := by omega
          have hes5 : (q0 :: qs0) = cur g cl n 5 0 0 := by rw [← ha5]; exact hes0
          refine (?_ : V.d _ = seeMvS g cl)
          rw [seeMvS, if_pos hyes, ← hn, ← hes5]
          rfl
    · exact no (fun h => by have := h.2.1; rw [hin] at this; simp at this) rfl
  · exact no (fun h => by have := h.1; rw [hok] at this; simp at this) rfl
end Go.Proofs.Ytnnmkenloijkcaa
/- Which asks go: the program's list, given what slices.Insert and slices.Delete do. -/
set_option linter.unusedVariables false
set_option linter.unusedSimpArgs false
set_option maxRecDepth 10000
namespace Go.Proofs.Ytnnmkenloijkcaa
open Go Eng

theorem clipR_ok (f : Bool) (rows : List (List D)) : ACalls Try.prog G0 52 [.d (.slc f 5 rows)] (· = .d (.slc true 5 rows)) := by
  refine spec_intro tabOk Try.func52 (by kernel_rfl) rfl ?_
  conv => whnf
  intro _
  conv => whnf
  intro _
  conv => whnf
  refine ⟨by omega, by omega, by omega, ?_⟩
  conv => whnf
  simp
theorem doYes_use (hI : InsOk) (hD : DelOk) {a b c : Bool} {g : Game} {r : Req} (hok : okG g = true) (hR : okR r = true) {args' : List V} (e : args' = [vGame a b c g, vReq r]) {ψ : V → Prop} (k : ∀ a b c, ψ (.tup [vGame a b c (doI g r).1, vi (doI g r).2])) :
    ∃ φ, ACalls Try.prog G0 17 args' φ ∧ ∀ q, φ q → ψ q := by
  subst e
  exact ⟨_, gameDoI_ok hI hD a b c g r, fun q h => by
    rcases h with ⟨h1, h2, e⟩ | ⟨h, _⟩
    · subst e; exact k true true true
    · exact absurd ⟨hok, .inr hR⟩ h⟩
open Classical in
noncomputable def seeMvI (g : Game) (cl : Int) : V :=
  if mvOk g cl then .d (.slc true 5 ((cur g cl (intAt g.last (cl - 1) + 1) 5 0 0).map encReq))
  else .d (.slc true 5 [])
set_option maxHeartbeats 1000000 in
theorem seeMvI_ok (hI : InsOk) (hD : DelOk) (fa fb fc : Bool) (g : Game) (cl : Int) : ACalls Try.prog G0 19 [vGame fa fb fc g, vi cl] (· = seeMvI g cl) := by
  refine spec_own tabOk Try.func19 (by kernel_rfl) [] [] rfl ?_
  conv => whnf
  have no : ∀ {v : V}, ¬ mvOk g cl → v = .d (.slc true 5 []) → v = seeMvI g cl := fun hn hv => by
    rw [hv, seeMvI, if_neg hn]
  refine call_bool (gameOk_ok fa fb fc g) (fun hok => ?_) (fun hok => ?_) <;> conv => whnf
  · refine call_bool (isClient_ok _) (fun hin => ?_) (fun hin => ?_) <;> conv => whnf
    · have hcl := inB_t.1 hin
      have hc1 := hcl.1
      have hc4 := hcl.2
      have hg := ok_good (of_okG hok)
      have hle := good_len hg
      have hnf := hg.nfloor
      have hnl := hg.nlast
      have wc : IntKind.i64.wrap (cl - 1) = cl - 1 := wrap_id (by omega) (by omega)
      have hl := hg.last _ (intAt_mem (l := g.last) (k := cl - 1) (by omega))
      refine ⟨by rw [wc]; omega, encI (intAt g.last (cl - 1)), by rw [wc]; exact intAt_row (l := g.last) (by omega) (by omega), ?_⟩
      conv => whnf
      refine ⟨fun h30 => ?_, fun h30 => ?_⟩ <;> conv => whnf
      · exact no (fun h => h.2.2 (by omega)) rfl
      have hyes : mvOk g cl := ⟨hok, hin, by omega⟩
      have hw : IntKind.i64.wrap (intAt g.last (cl - 1) + 1) = intAt g.last (cl - 1) + 1 := wrap_id (by omega) (by omega)
      obtain ⟨n, hn⟩ : ∃ n, n = intAt g.last (cl - 1) + 1 := ⟨_, rfl⟩
      have hwn : vi (IntKind.i64.wrap (intAt g.last (cl - 1) + 1)) = vi n := congrArg vi (hw.trans hn.symm)
      have hnr : 1 ≤ n ∧ n ≤ 31 := by omega
      refine ⟨{ x : MIx // MvInv 5 (fun a => cur g cl n a 0 0) x }, fun x => MS 67 (.box [.d (dEnts fa g.ents), .d (dInts fb g.floor), .d (dInts fc g.last)]) [(1, vi cl), (2, .ref 2 0 0 0), (6, vi ((x.1.i : Int) + 1))] x.1.es, fun x => 5 - x.1.i, ⟨⟨0, []⟩, ⟨by simp, rfl⟩⟩, ?_, ?_⟩
      · exact ⟨(weakSl_cons rfl rfl (weakSl_cons rfl rfl (weakSl_cons rfl rfl (weakSl_cons rfl rfl weakSl_nil)))), (weakHp_cons rfl rfl weakHp_nil), rfl⟩
      rintro ⟨⟨a, es0⟩, hinv0⟩
      have ha : a ≤ 5 := hinv0.i
      have hes0 : es0 = cur g cl n a 0 0 := hinv0.es
      cases es0 with
      | nil =>
        conv => whnf
        refine ⟨fun hlt => ?_, fun hge => ?_⟩ <;> conv => whnf
        · have hlt : (a : Int) + 1 ≤ 5 := hlt
          refine ⟨{ x : MIx // MvInv 6 (fun b => cur g cl n a b 0) x }, fun x => MS 67 (.box [.d (dEnts fa g.ents), .d (dInts fb g.floor), .d (dInts fc g.last)]) [(1, vi cl), (2, .ref 2 0 0 0), (6, vi ((a : Int) + 1)), (7, vi ((x.1.i : Int) - 1))] x.1.es, fun x => 6 - x.1.i, ⟨⟨0, []⟩, ⟨by simp, hes0⟩⟩, ?_, ?_⟩
          · exact ⟨(weakSl_cons rfl rfl (weakSl_cons rfl rfl (weakSl_cons rfl rfl (weakSl_cons rfl rfl (weakSl_cons rfl rfl weakSl_nil))))), (weakHp_cons rfl rfl weakHp_nil), rfl⟩
          rintro ⟨⟨b, es1⟩, hinv1⟩
          have hb : b ≤ 6 := hinv1.i
          have hes1 : es1 = cur g cl n a b 0 := hinv1.es
          cases es1 with
          | nil =>
            conv => whnf
            refine ⟨fun hlt => ?_, fun hge => ?_⟩ <;> conv => whnf
            · have hlt : (b : Int) - 1 ≤ 4 := hlt
              refine ⟨{ x : MIx // MvInv 11 (cur g cl n a b) x }, fun x => MS 67 (.box [.d (dEnts fa g.ents), .d (dInts fb g.floor), .d (dInts fc g.last)]) [(1, vi cl), (2, .ref 2 0 0 0), (6, vi ((a : Int) + 1)), (7, vi ((b : Int) - 1)), (8, vi ((x.1.i : Int) - 1))] x.1.es, fun x => 11 - x.1.i, ⟨⟨0, []⟩, ⟨by simp, hes1⟩⟩, ?_, ?_⟩
              · exact ⟨(weakSl_cons rfl rfl (weakSl_cons rfl rfl (weakSl_cons rfl rfl (weakSl_cons rfl rfl (weakSl_cons rfl rfl (weakSl_cons rfl rfl weakSl_nil)))))), (weakHp_cons rfl rfl weakHp_nil), rfl⟩
              rintro ⟨⟨d, es2⟩, hinv2⟩
              have hd : d ≤ 11 := hinv2.i
              have hes2 : es2 = cur g cl n a b d := hinv2.es
              cases es2 with
              | nil =>
                conv => whnf
                refine ⟨fun hlt => ?_, fun hge => ?_⟩ <;> conv => whnf
                · have hlt : (d : Int) - 1 ≤ 9 := hlt
                  have hsame := (fun hgo : goes g (mvReq cl n a b d) = false => (⟨by show d + 1 ≤ 11; omega, by show [] = cur g cl n a b (d + 1); rw [cur_y, ← hes2, mv1, hgo]; simp⟩ : MvInv 11 (cur g cl n a b) ⟨d + 1, []⟩))
                  have hrow : ([.int .i64 cl, .int .i64 (IntKind.i64.wrap (intAt g.last (cl - 1) + 1)), .int .i64 ((a : Int) + 1), .int .i64 ((b : Int) - 1), .int .i64 ((d : Int) - 1)] : List D) = encReq (mvReq cl n a b d) := by rw [hw, ← hn]; rfl
                  have harg : V.agg [vi cl, vi (IntKind.i64.wrap (intAt g.last (cl - 1) + 1)), vi ((a : Int) + 1), vi ((b : Int) - 1), vi ((d : Int) - 1)] = vReq (mvReq cl n a b d) := by rw [hwn]; rfl
                  refine ⟨by rw [wc]; omega, encI (intAt g.last (cl - 1)), by rw [wc]; exact intAt_row (l := g.last) (by omega) (by omega), ?_⟩
                  conv => whnf
                  refine call_bool' (reqOk_ok (mvReq cl n a b d)) (congrArg (fun z => [z]) harg) (fun hR => ?_) (fun hR => ?_) <;> conv => whnf
                  · refine doYes_use hI hD (a := fa) (b := fb) (c := fc) hok hR (congrArg (fun z => [vGame fa fb fc g, z]) harg) fun x1 x2 x3 => ?_
                    conv => whnf
                    refine ⟨fun hz => ?_, fun hz => ?_⟩ <;> conv => whnf
                    · have hgo : goes g (mvReq cl n a b d) = true := by unfold goes; rw [hR]; simpa using hz
                      refine ⟨room (by simp) rfl, room' (by simp), ?_⟩
                      conv => whnf
                      exact ⟨⟨⟨d + 1, [mvReq cl n a b d]⟩, ⟨by show d + 1 ≤ 11; omega, by show [mvReq cl n a b d] = cur g cl n a b (d + 1); rw [cur_y, ← hes2, mv1, hgo]; rfl⟩⟩, by show 11 - (d + 1) < 11 - d; omega, ⟨(weakSl_cons (congrArg (fun z => V.osl 67 5 [z]) hrow) rfl (weakSl_cons rfl rfl (weakSl_cons rfl rfl (weakSl_cons rfl rfl (weakSl_cons rfl rfl (weakSl_cons (stepB d (by omega)) rfl weakSl_nil)))))), (weakHp_cons rfl rfl (weakHp_cons rfl rfl weakHp_nil)), rfl⟩⟩
                    · exact ⟨⟨⟨d + 1, []⟩, hsame (by unfold goes; rw [hR]; simpa using hz)⟩, by show 11 - (d + 1) < 11 - d; omega, ⟨(weakSl_cons rfl rfl (weakSl_cons rfl rfl (weakSl_cons rfl rfl (weakSl_cons rfl rfl (weakSl_cons rfl rfl (weakSl_cons (stepB d (by omega)) rfl weakSl_nil)))))), (weakHp_cons rfl rfl weakHp_nil), rfl⟩⟩
                  · exact ⟨⟨⟨d + 1, []⟩, hsame (by unfold goes; rw [hR]; rfl)⟩, by show 11 - (d + 1) < 11 - d; omega, ⟨(weakSl_cons rfl rfl (weakSl_cons rfl rfl (weakSl_cons rfl rfl (weakSl_cons rfl rfl (weakSl_cons rfl rfl (weakSl_cons (stepB d (by omega)) rfl weakSl_nil)))))), (weakHp_cons rfl rfl weakHp_nil), rfl⟩⟩
                · have hge : ¬ (d : Int) - 1 ≤ 9 := hge
                  have hd11 : d = 11 := by omega
                  exact ⟨⟨⟨b + 1, []⟩, ⟨by show b + 1 ≤ 6; omega, by show [] = cur g cl n a (b + 1) 0; rw [cur_x, ← hd11]; exact hes2⟩⟩, by show 6 - (b + 1) < 6 - b; omega, ⟨(weakSl_cons rfl rfl (weakSl_cons rfl rfl (weakSl_cons rfl rfl (weakSl_cons rfl rfl (weakSl_cons (stepB b (by omega)) rfl weakSl_nil))))), (weakHp_cons rfl rfl weakHp_nil), rfl⟩⟩
              | cons q2 qs2 =>
                conv => whnf
                have hlq : (q2 :: qs2).length ≤ 500 := by rw [hes2]; exact cur_len (by omega) (by omega) (by omega)
                simp only [List.length_cons] at hlq
                refine ⟨fun hlt => ?_, fun hge => ?_⟩ <;> conv => whnf
                · have hlt : (d : Int) - 1 ≤ 9 := hlt
                  have hsame := (fun hgo : goes g (mvReq cl n a b d) = false => (⟨by show d + 1 ≤ 11; omega, by show (q2 :: qs2) = cur g cl n a b (d + 1); rw [cur_y, ← hes2, mv1, hgo]; simp⟩ : MvInv 11 (cur g cl n a b) ⟨d + 1, (q2 :: qs2)⟩))
                  have hrow : ([.int .i64 cl, .int .i64 (IntKind.i64.wrap (intAt g.last (cl - 1) + 1)), .int .i64 ((a : Int) + 1), .int .i64 ((b : Int) - 1), .int .i64 ((d : Int) - 1)] : List D) = encReq (mvReq cl n a b d) := by rw [hw, ← hn]; rfl
                  have harg : V.agg [vi cl, vi (IntKind.i64.wrap (intAt g.last (cl - 1) + 1)), vi ((a : Int) + 1), vi ((b : Int) - 1), vi ((d : Int) - 1)] = vReq (mvReq cl n a b d) := by rw [hwn]; rfl
                  refine ⟨by rw [wc]; omega, encI (intAt g.last (cl - 1)), by rw [wc]; exact intAt_row (l := g.last) (by omega) (by omega), ?_⟩
                  conv => whnf
                  refine call_bool' (reqOk_ok (mvReq cl n a b d)) (congrArg (fun z => [z]) harg) (fun hR => ?_) (fun hR => ?_) <;> conv => whnf
                  · refine doYes_use hI hD (a := fa) (b := fb) (c := fc) hok hR (congrArg (fun z => [vGame fa fb fc g, z]) harg) fun x1 x2 x3 => ?_
                    conv => whnf
                    refine ⟨fun hz => ?_, fun hz => ?_⟩ <;> conv => whnf
                    · have hgo : goes g (mvReq cl n a b d) = true := by unfold goes; rw [hR]; simpa using hz
                      refine ⟨by simp, room (by simp; omega) rfl, room' (by simp; omega), ?_⟩
                      conv => whnf
                      have happ : (q2 :: qs2).map encReq ++ [[.int .i64 cl, .int .i64 (IntKind.i64.wrap (intAt g.last (cl - 1) + 1)), .int .i64 ((a : Int) + 1), .int .i64 ((b : Int) - 1), .int .i64 ((d : Int) - 1)]] = (q2 :: (qs2 ++ [mvReq cl n a b d])).map encReq := by rw [hrow]; simp
                      have hgrow : ((q2 :: qs2).map encReq).length + 1 = (qs2 ++ [mvReq cl n a b d]).length + 1 := by simp
                      exact ⟨⟨⟨d + 1, (q2 :: (qs2 ++ [mvReq cl n a b d]))⟩, ⟨by show d + 1 ≤ 11; omega, by show (q2 :: (qs2 ++ [mvReq cl n a b d])) = cur g cl n a b (d + 1); rw [cur_y, ← hes2, mv1, hgo]; rfl⟩⟩, by show 11 - (d + 1) < 11 - d; omega, ⟨(weakSl_cons (congrArg (fun z => V.osl 67 5 z) happ) rfl (weakSl_cons rfl rfl (weakSl_cons rfl rfl (weakSl_cons rfl rfl (weakSl_cons rfl rfl (weakSl_cons (stepB d (by omega)) rfl weakSl_nil)))))), (weakHp_cons rfl rfl (weakHp_cons (congrArg (fun z => Obj.grow 5 z) hgrow) rfl weakHp_nil)), rfl⟩⟩
                    · exact ⟨⟨⟨d + 1, (q2 :: qs2)⟩, hsame (by unfold goes; rw [hR]; simpa using hz)⟩, by show 11 - (d + 1) < 11 - d; omega, ⟨(weakSl_cons rfl rfl (weakSl_cons rfl rfl (weakSl_cons rfl rfl (weakSl_cons rfl rfl (weakSl_cons rfl rfl (weakSl_cons (stepB d (by omega)) rfl weakSl_nil)))))), (weakHp_cons rfl rfl (weakHp_cons rfl rfl weakHp_nil)), rfl⟩⟩
                  · exact ⟨⟨⟨d + 1, (q2 :: qs2)⟩, hsame (by unfold goes; rw [hR]; rfl)⟩, by show 11 - (d + 1) < 11 - d; omega, ⟨(weakSl_cons rfl rfl (weakSl_cons rfl rfl (weakSl_cons rfl rfl (weakSl_cons rfl rfl (weakSl_cons rfl rfl (weakSl_cons (stepB d (by omega)) rfl weakSl_nil)))))), (weakHp_cons rfl rfl (weakHp_cons rfl rfl weakHp_nil)), rfl⟩⟩
                · have hge : ¬ (d : Int) - 1 ≤ 9 := hge
                  have hd11 : d = 11 := by omega
                  exact ⟨⟨⟨b + 1, (q2 :: qs2)⟩, ⟨by show b + 1 ≤ 6; omega, by show (q2 :: qs2) = cur g cl n a (b + 1) 0; rw [cur_x, ← hd11]; exact hes2⟩⟩, by show 6 - (b + 1) < 6 - b; omega, ⟨(weakSl_cons rfl rfl (weakSl_cons rfl rfl (weakSl_cons rfl rfl (weakSl_cons rfl rfl (weakSl_cons (stepB b (by omega)) rfl weakSl_nil))))), (weakHp_cons rfl rfl (weakHp_cons rfl rfl weakHp_nil)), rfl⟩⟩
            · have hge : ¬ (b : Int) - 1 ≤ 4 := hge
              have hb6 : b = 6 := by omega
              exact ⟨⟨⟨a + 1, []⟩, ⟨by show a + 1 ≤ 5; omega, by show [] = cur g cl n (a + 1) 0 0; rw [cur_o, ← hb6]; exact hes1⟩⟩, by show 5 - (a + 1) < 5 - a; omega, ⟨(weakSl_cons rfl rfl (weakSl_cons rfl rfl (weakSl_cons rfl rfl (weakSl_cons (stepA a (by omega)) rfl weakSl_nil)))), (weakHp_cons rfl rfl weakHp_nil), rfl⟩⟩
          | cons q1 qs1 =>
            conv => whnf
            refine ⟨fun hlt => ?_, fun hge => ?_⟩ <;> conv => whnf
            · have hlt : (b : Int) - 1 ≤ 4 := hlt
              refine ⟨{ x : MIx // MvInv 11 (cur g cl n a b) x }, fun x => MS 67 (.box [.d (dEnts fa g.ents), .d (dInts fb g.floor), .d (dInts fc g.last)]) [(1, vi cl), (2, .ref 2 0 0 0), (6, vi ((a : Int) + 1)), (7, vi ((b : Int) - 1)), (8, vi ((x.1.i : Int) - 1))] x.1.es, fun x => 11 - x.1.i, ⟨⟨0, (q1 :: qs1)⟩, ⟨by simp, hes1⟩⟩, ?_, ?_⟩
              · exact ⟨(weakSl_cons rfl rfl (weakSl_cons rfl rfl (weakSl_cons rfl rfl (weakSl_cons rfl rfl (weakSl_cons rfl rfl (weakSl_cons rfl rfl weakSl_nil)))))), (weakHp_cons rfl rfl (weakHp_cons rfl rfl weakHp_nil)), rfl⟩
              rintro ⟨⟨d, es2⟩, hinv2⟩
              have hd : d ≤ 11 := hinv2.i
              have hes2 : es2 = cur g cl n a b d := hinv2.es
              cases es2 with
              | nil =>
                conv => whnf
                refine ⟨fun hlt => ?_, fun hge => ?_⟩ <;> conv => whnf
                · have hlt : (d : Int) - 1 ≤ 9 := hlt
                  have hsame := (fun hgo : goes g (mvReq cl n a b d) = false => (⟨by show d + 1 ≤ 11; omega, by show [] = cur g cl n a b (d + 1); rw [cur_y, ← hes2, mv1, hgo]; simp⟩ : MvInv 11 (cur g cl n a b) ⟨d + 1, []⟩))
                  have hrow : ([.int .i64 cl, .int .i64 (IntKind.i64.wrap (intAt g.last (cl - 1) + 1)), .int .i64 ((a : Int) + 1), .int .i64 ((b : Int) - 1), .int .i64 ((d : Int) - 1)] : List D) = encReq (mvReq cl n a b d) := by rw [hw, ← hn]; rfl
                  have harg : V.agg [vi cl, vi (IntKind.i64.wrap (intAt g.last (cl - 1) + 1)), vi ((a : Int) + 1), vi ((b : Int) - 1), vi ((d : Int) - 1)] = vReq (mvReq cl n a b d) := by rw [hwn]; rfl
                  refine ⟨by rw [wc]; omega, encI (intAt g.last (cl - 1)), by rw [wc]; exact intAt_row (l := g.last) (by omega) (by omega), ?_⟩
                  conv => whnf
                  refine call_bool' (reqOk_ok (mvReq cl n a b d)) (congrArg (fun z => [z]) harg) (fun hR => ?_) (fun hR => ?_) <;> conv => whnf
                  · refine doYes_use hI hD (a := fa) (b := fb) (c := fc) hok hR (congrArg (fun z => [vGame fa fb fc g, z]) harg) fun x1 x2 x3 => ?_
                    conv => whnf
                    refine ⟨fun hz => ?_, fun hz => ?_⟩ <;> conv => whnf
                    · have hgo : goes g (mvReq cl n a b d) = true := by unfold goes; rw [hR]; simpa using hz
                      refine ⟨room (by simp) rfl, room' (by simp), ?_⟩
                      conv => whnf
                      exact ⟨⟨⟨d + 1, [mvReq cl n a b d]⟩, ⟨by show d + 1 ≤ 11; omega, by show [mvReq cl n a b d] = cur g cl n a b (d + 1); rw [cur_y, ← hes2, mv1, hgo]; rfl⟩⟩, by show 11 - (d + 1) < 11 - d; omega, ⟨(weakSl_cons (congrArg (fun z => V.osl 67 5 [z]) hrow) rfl (weakSl_cons rfl rfl (weakSl_cons rfl rfl (weakSl_cons rfl rfl (weakSl_cons rfl rfl (weakSl_cons (stepB d (by omega)) rfl weakSl_nil)))))), (weakHp_cons rfl rfl (weakHp_cons rfl rfl weakHp_nil)), rfl⟩⟩
                    · exact ⟨⟨⟨d + 1, []⟩, hsame (by unfold goes; rw [hR]; simpa using hz)⟩, by show 11 - (d + 1) < 11 - d; omega, ⟨(weakSl_cons rfl rfl (weakSl_cons rfl rfl (weakSl_cons rfl rfl (weakSl_cons rfl rfl (weakSl_cons rfl rfl (weakSl_cons (stepB d (by omega)) rfl weakSl_nil)))))), (weakHp_cons rfl rfl weakHp_nil), rfl⟩⟩
                  · exact ⟨⟨⟨d + 1, []⟩, hsame (by unfold goes; rw [hR]; rfl)⟩, by show 11 - (d + 1) < 11 - d; omega, ⟨(weakSl_cons rfl rfl (weakSl_cons rfl rfl (weakSl_cons rfl rfl (weakSl_cons rfl rfl (weakSl_cons rfl rfl (weakSl_cons (stepB d (by omega)) rfl weakSl_nil)))))), (weakHp_cons rfl rfl weakHp_nil), rfl⟩⟩
                · have hge : ¬ (d : Int) - 1 ≤ 9 := hge
                  have hd11 : d = 11 := by omega
                  exact ⟨⟨⟨b + 1, []⟩, ⟨by show b + 1 ≤ 6; omega, by show [] = cur g cl n a (b + 1) 0; rw [cur_x, ← hd11]; exact hes2⟩⟩, by show 6 - (b + 1) < 6 - b; omega, ⟨(weakSl_cons rfl rfl (weakSl_cons rfl rfl (weakSl_cons rfl rfl (weakSl_cons rfl rfl (weakSl_cons (stepB b (by omega)) rfl weakSl_nil))))), (weakHp_cons rfl rfl weakHp_nil), rfl⟩⟩
              | cons q2 qs2 =>
                conv => whnf
                have hlq : (q2 :: qs2).length ≤ 500 := by rw [hes2]; exact cur_len (by omega) (by omega) (by omega)
                simp only [List.length_cons] at hlq
                refine ⟨fun hlt => ?_, fun hge => ?_⟩ <;> conv => whnf
                · have hlt : (d : Int) - 1 ≤ 9 := hlt
                  have hsame := (fun hgo : goes g (mvReq cl n a b d) = false => (⟨by show d + 1 ≤ 11; omega, by show (q2 :: qs2) = cur g cl n a b (d + 1); rw [cur_y, ← hes2, mv1, hgo]; simp⟩ : MvInv 11 (cur g cl n a b) ⟨d + 1, (q2 :: qs2)⟩))
                  have hrow : ([.int .i64 cl, .int .i64 (IntKind.i64.wrap (intAt g.last (cl - 1) + 1)), .int .i64 ((a : Int) + 1), .int .i64 ((b : Int) - 1), .int .i64 ((d : Int) - 1)] : List D) = encReq (mvReq cl n a b d) := by rw [hw, ← hn]; rfl
                  have harg : V.agg [vi cl, vi (IntKind.i64.wrap (intAt g.last (cl - 1) + 1)), vi ((a : Int) + 1), vi ((b : Int) - 1), vi ((d : Int) - 1)] = vReq (mvReq cl n a b d) := by rw [hwn]; rfl
                  refine ⟨by rw [wc]; omega, encI (intAt g.last (cl - 1)), by rw [wc]; exact intAt_row (l := g.last) (by omega) (by omega), ?_⟩
                  conv => whnf
                  refine call_bool' (reqOk_ok (mvReq cl n a b d)) (congrArg (fun z => [z]) harg) (fun hR => ?_) (fun hR => ?_) <;> conv => whnf
                  · refine doYes_use hI hD (a := fa) (b := fb) (c := fc) hok hR (congrArg (fun z => [vGame fa fb fc g, z]) harg) fun x1 x2 x3 => ?_
                    conv => whnf
                    refine ⟨fun hz => ?_, fun hz => ?_⟩ <;> conv => whnf
                    · have hgo : goes g (mvReq cl n a b d) = true := by unfold goes; rw [hR]; simpa using hz
                      refine ⟨by simp, room (by simp; omega) rfl, room' (by simp; omega), ?_⟩
                      conv => whnf
                      have happ : (q2 :: qs2).map encReq ++ [[.int .i64 cl, .int .i64 (IntKind.i64.wrap (intAt g.last (cl - 1) + 1)), .int .i64 ((a : Int) + 1), .int .i64 ((b : Int) - 1), .int .i64 ((d : Int) - 1)]] = (q2 :: (qs2 ++ [mvReq cl n a b d])).map encReq := by rw [hrow]; simp
                      have hgrow : ((q2 :: qs2).map encReq).length + 1 = (qs2 ++ [mvReq cl n a b d]).length + 1 := by simp
                      exact ⟨⟨⟨d + 1, (q2 :: (qs2 ++ [mvReq cl n a b d]))⟩, ⟨by show d + 1 ≤ 11; omega, by show (q2 :: (qs2 ++ [mvReq cl n a b d])) = cur g cl n a b (d + 1); rw [cur_y, ← hes2, mv1, hgo]; rfl⟩⟩, by show 11 - (d + 1) < 11 - d; omega, ⟨(weakSl_cons (congrArg (fun z => V.osl 67 5 z) happ) rfl (weakSl_cons rfl rfl (weakSl_cons rfl rfl (weakSl_cons rfl rfl (weakSl_cons rfl rfl (weakSl_cons (stepB d (by omega)) rfl weakSl_nil)))))), (weakHp_cons rfl rfl (weakHp_cons (congrArg (fun z => Obj.grow 5 z) hgrow) rfl weakHp_nil)), rfl⟩⟩
                    · exact ⟨⟨⟨d + 1, (q2 :: qs2)⟩, hsame (by unfold goes; rw [hR]; simpa using hz)⟩, by show 11 - (d + 1) < 11 - d; omega, ⟨(weakSl_cons rfl rfl (weakSl_cons rfl rfl (weakSl_cons rfl rfl (weakSl_cons rfl rfl (weakSl_cons rfl rfl (weakSl_cons (stepB d (by omega)) rfl weakSl_nil)))))), (weakHp_cons rfl rfl (weakHp_cons rfl rfl weakHp_nil)), rfl⟩⟩
                  · exact ⟨⟨⟨d + 1, (q2 :: qs2)⟩, hsame (by unfold goes; rw [hR]; rfl)⟩, by show 11 - (d + 1) < 11 - d; omega, ⟨(weakSl_cons rfl rfl (weakSl_cons rfl rfl (weakSl_cons rfl rfl (weakSl_cons rfl rfl (weakSl_cons rfl rfl (weakSl_cons (stepB d (by omega)) rfl weakSl_nil)))))), (weakHp_cons rfl rfl (weakHp_cons rfl rfl weakHp_nil)), rfl⟩⟩
                · have hge : ¬ (d : Int) - 1 ≤ 9 := hge
                  have hd11 : d = 11 := by omega
                  exact ⟨⟨⟨b + 1, (q2 :: qs2)⟩, ⟨by show b + 1 ≤ 6; omega, by show (q2 :: qs2) = cur g cl n a (b + 1) 0; rw [cur_x, ← hd11]; exact hes2⟩⟩, by show 6 - (b + 1) < 6 - b; omega, ⟨(weakSl_cons rfl rfl (weakSl_cons rfl rfl (weakSl_cons rfl rfl (weakSl_cons rfl rfl (weakSl_cons (stepB b (by omega)) rfl weakSl_nil))))), (weakHp_cons rfl rfl (weakHp_cons rfl rfl weakHp_nil)), rfl⟩⟩
            · have hge : ¬ (b : Int) - 1 ≤ 4 := hge
              have hb6 : b = 6 := by omega
              exact ⟨⟨⟨a + 1, (q1 :: qs1)⟩, ⟨by show a + 1 ≤ 5; omega, by show (q1 :: qs1) = cur g cl n (a + 1) 0 0; rw [cur_o, ← hb6]; exact hes1⟩⟩, by show 5 - (a + 1) < 5 - a; omega, ⟨(weakSl_cons rfl rfl (weakSl_cons rfl rfl (weakSl_cons rfl rfl (weakSl_cons (stepA a (by omega)) rfl weakSl_nil)))), (weakHp_cons rfl rfl (weakHp_cons rfl rfl weakHp_nil)), rfl⟩⟩
        · have hge : ¬ (a : Int) + 1 ≤ 5 := hge
          have ha5 : a = 5 := by omega
          have hes5 : [] = cur g cl n 5 0 0 := by rw [← ha5]; exact hes0
          refine call_eq (clipR_ok true []) ?_
          conv => whnf
          refine (?_ : V.d _ = seeMvI g cl)
          rw [seeMvI, if_pos hyes, ← hn, ← hes5] <;> rfl
      | cons q0 qs0 =>
        conv => whnf
        refine ⟨fun hlt => ?_, fun hge => ?_⟩ <;> conv => whnf
        · have hlt : (a : Int) + 1 ≤ 5 := hlt
          refine ⟨{ x : MIx // MvInv 6 (fun b => cur g cl n a b 0) x }, fun x => MS 67 (.box [.d (dEnts fa g.ents), .d (dInts fb g.floor), .d (dInts fc g.last)]) [(1, vi cl), (2, .ref 2 0 0 0), (6, vi ((a : Int) + 1)), (7, vi ((x.1.i : Int) - 1))] x.1.es, fun x => 6 - x.1.i, ⟨⟨0, (q0 :: qs0)⟩, ⟨by simp, hes0⟩⟩, ?_, ?_⟩
          · exact ⟨(weakSl_cons rfl rfl (weakSl_cons rfl rfl (weakSl_cons rfl rfl (weakSl_cons rfl rfl (weakSl_cons rfl rfl weakSl_nil))))), (weakHp_cons rfl rfl (weakHp_cons rfl rfl weakHp_nil)), rfl⟩
          rintro ⟨⟨b, es1⟩, hinv1⟩
          have hb : b ≤ 6 := hinv1.i
          have hes1 : es1 = cur g cl n a b 0 := hinv1.es
          cases es1 with
          | nil =>
            conv => whnf
            refine ⟨fun hlt => ?_, fun hge => ?_⟩ <;> conv => whnf
            · have hlt : (b : Int) - 1 ≤ 4 := hlt
              refine ⟨{ x : MIx // MvInv 11 (cur g cl n a b) x }, fun x => MS 67 (.box [.d (dEnts fa g.ents), .d (dInts fb g.floor), .d (dInts fc g.last)]) [(1, vi cl), (2, .ref 2 0 0 0), (6, vi ((a : Int) + 1)), (7, vi ((b : Int) - 1)), (8, vi ((x.1.i : Int) - 1))] x.1.es, fun x => 11 - x.1.i, ⟨⟨0, []⟩, ⟨by simp, hes1⟩⟩, ?_, ?_⟩
              · exact ⟨(weakSl_cons rfl rfl (weakSl_cons rfl rfl (weakSl_cons rfl rfl (weakSl_cons rfl rfl (weakSl_cons rfl rfl (weakSl_cons rfl rfl weakSl_nil)))))), (weakHp_cons rfl rfl weakHp_nil), rfl⟩
              rintro ⟨⟨d, es2⟩, hinv2⟩
              have hd : d ≤ 11 := hinv2.i
              have hes2 : es2 = cur g cl n a b d := hinv2.es
              cases es2 with
              | nil =>
                conv => whnf
                refine ⟨fun hlt => ?_, fun hge => ?_⟩ <;> conv => whnf
                · have hlt : (d : Int) - 1 ≤ 9 := hlt
                  have hsame := (fun hgo : goes g (mvReq cl n a b d) = false => (⟨by show d + 1 ≤ 11; omega, by show [] = cur g cl n a b (d + 1); rw [cur_y, ← hes2, mv1, hgo]; simp⟩ : MvInv 11 (cur g cl n a b) ⟨d + 1, []⟩))
                  have hrow : ([.int .i64 cl, .int .i64 (IntKind.i64.wrap (intAt g.last (cl - 1) + 1)), .int .i64 ((a : Int) + 1), .int .i64 ((b : Int) - 1), .int .i64 ((d : Int) - 1)] : List D) = encReq (mvReq cl n a b d) := by rw [hw, ← hn]; rfl
                  have harg : V.agg [vi cl, vi (IntKind.i64.wrap (intAt g.last (cl - 1) + 1)), vi ((a : Int) + 1), vi ((b : Int) - 1), vi ((d : Int) - 1)] = vReq (mvReq cl n a b d) := by rw [hwn]; rfl
                  refine ⟨by rw [wc]; omega, encI (intAt g.last (cl - 1)), by rw [wc]; exact intAt_row (l := g.last) (by omega) (by omega), ?_⟩
                  conv => whnf
                  refine call_bool' (reqOk_ok (mvReq cl n a b d)) (congrArg (fun z => [z]) harg) (fun hR => ?_) (fun hR => ?_) <;> conv => whnf
                  · refine doYes_use hI hD (a := fa) (b := fb) (c := fc) hok hR (congrArg (fun z => [vGame fa fb fc g, z]) harg) fun x1 x2 x3 => ?_
                    conv => whnf
                    refine ⟨fun hz => ?_, fun hz => ?_⟩ <;> conv => whnf
                    · have hgo : goes g (mvReq cl n a b d) = true := by unfold goes; rw [hR]; simpa using hz
                      refine ⟨room (by simp) rfl, room' (by simp), ?_⟩
                      conv => whnf
                      exact ⟨⟨⟨d + 1, [mvReq cl n a b d]⟩, ⟨by show d + 1 ≤ 11; omega, by show [mvReq cl n a b d] = cur g cl n a b (d + 1); rw [cur_y, ← hes2, mv1, hgo]; rfl⟩⟩, by show 11 - (d + 1) < 11 - d; omega, ⟨(weakSl_cons (congrArg (fun z => V.osl 67 5 [z]) hrow) rfl (weakSl_cons rfl rfl (weakSl_cons rfl rfl (weakSl_cons rfl rfl (weakSl_cons rfl rfl (weakSl_cons (stepB d (by omega)) rfl weakSl_nil)))))), (weakHp_cons rfl rfl (weakHp_cons rfl rfl weakHp_nil)), rfl⟩⟩
                    · exact ⟨⟨⟨d + 1, []⟩, hsame (by unfold goes; rw [hR]; simpa using hz)⟩, by show 11 - (d + 1) < 11 - d; omega, ⟨(weakSl_cons rfl rfl (weakSl_cons rfl rfl (weakSl_cons rfl rfl (weakSl_cons rfl rfl (weakSl_cons rfl rfl (weakSl_cons (stepB d (by omega)) rfl weakSl_nil)))))), (weakHp_cons rfl rfl weakHp_nil), rfl⟩⟩
                  · exact ⟨⟨⟨d + 1, []⟩, hsame (by unfold goes; rw [hR]; rfl)⟩, by show 11 - (d + 1) < 11 - d; omega, ⟨(weakSl_cons rfl rfl (weakSl_cons rfl rfl (weakSl_cons rfl rfl (weakSl_cons rfl rfl (weakSl_cons rfl rfl (weakSl_cons (stepB d (by omega)) rfl weakSl_nil)))))), (weakHp_cons rfl rfl weakHp_nil), rfl⟩⟩
                · have hge : ¬ (d : Int) - 1 ≤ 9 := hge
                  have hd11 : d = 11 := by omega
                  exact ⟨⟨⟨b + 1, []⟩, ⟨by show b + 1 ≤ 6; omega, by show [] = cur g cl n a (b + 1) 0; rw [cur_x, ← hd11]; exact hes2⟩⟩, by show 6 - (b + 1) < 6 - b; omega, ⟨(weakSl_cons rfl rfl (weakSl_cons rfl rfl (weakSl_cons rfl rfl (weakSl_cons rfl rfl (weakSl_cons (stepB b (by omega)) rfl weakSl_nil))))), (weakHp_cons rfl rfl weakHp_nil), rfl⟩⟩
              | cons q2 qs2 =>
                conv => whnf
                have hlq : (q2 :: qs2).length ≤ 500 := by rw [hes2]; exact cur_len (by omega) (by omega) (by omega)
                simp only [List.length_cons] at hlq
                refine ⟨fun hlt => ?_, fun hge => ?_⟩ <;> conv => whnf
                · have hlt : (d : Int) - 1 ≤ 9 := hlt
                  have hsame := (fun hgo : goes g (mvReq cl n a b d) = false => (⟨by show d + 1 ≤ 11; omega, by show (q2 :: qs2) = cur g cl n a b (d + 1); rw [cur_y, ← hes2, mv1, hgo]; simp⟩ : MvInv 11 (cur g cl n a b) ⟨d + 1, (q2 :: qs2)⟩))
                  have hrow : ([.int .i64 cl, .int .i64 (IntKind.i64.wrap (intAt g.last (cl - 1) + 1)), .int .i64 ((a : Int) + 1), .int .i64 ((b : Int) - 1), .int .i64 ((d : Int) - 1)] : List D) = encReq (mvReq cl n a b d) := by rw [hw, ← hn]; rfl
                  have harg : V.agg [vi cl, vi (IntKind.i64.wrap (intAt g.last (cl - 1) + 1)), vi ((a : Int) + 1), vi ((b : Int) - 1), vi ((d : Int) - 1)] = vReq (mvReq cl n a b d) := by rw [hwn]; rfl
                  refine ⟨by rw [wc]; omega, encI (intAt g.last (cl - 1)), by rw [wc]; exact intAt_row (l := g.last) (by omega) (by omega), ?_⟩
                  conv => whnf
                  refine call_bool' (reqOk_ok (mvReq cl n a b d)) (congrArg (fun z => [z]) harg) (fun hR => ?_) (fun hR => ?_) <;> conv => whnf
                  · refine doYes_use hI hD (a := fa) (b := fb) (c := fc) hok hR (congrArg (fun z => [vGame fa fb fc g, z]) harg) fun x1 x2 x3 => ?_
                    conv => whnf
                    refine ⟨fun hz => ?_, fun hz => ?_⟩ <;> conv => whnf
                    · have hgo : goes g (mvReq cl n a b d) = true := by unfold goes; rw [hR]; simpa using hz
                      refine ⟨by simp, room (by simp; omega) rfl, room' (by simp; omega), ?_⟩
                      conv => whnf
                      have happ : (q2 :: qs2).map encReq ++ [[.int .i64 cl, .int .i64 (IntKind.i64.wrap (intAt g.last (cl - 1) + 1)), .int .i64 ((a : Int) + 1), .int .i64 ((b : Int) - 1), .int .i64 ((d : Int) - 1)]] = (q2 :: (qs2 ++ [mvReq cl n a b d])).map encReq := by rw [hrow]; simp
                      have hgrow : ((q2 :: qs2).map encReq).length + 1 = (qs2 ++ [mvReq cl n a b d]).length + 1 := by simp
                      exact ⟨⟨⟨d + 1, (q2 :: (qs2 ++ [mvReq cl n a b d]))⟩, ⟨by show d + 1 ≤ 11; omega, by show (q2 :: (qs2 ++ [mvReq cl n a b d])) = cur g cl n a b (d + 1); rw [cur_y, ← hes2, mv1, hgo]; rfl⟩⟩, by show 11 - (d + 1) < 11 - d; omega, ⟨(weakSl_cons (congrArg (fun z => V.osl 67 5 z) happ) rfl (weakSl_cons rfl rfl (weakSl_cons rfl rfl (weakSl_cons rfl rfl (weakSl_cons rfl rfl (weakSl_cons (stepB d (by omega)) rfl weakSl_nil)))))), (weakHp_cons rfl rfl (weakHp_cons (congrArg (fun z => Obj.grow 5 z) hgrow) rfl weakHp_nil)), rfl⟩⟩
                    · exact ⟨⟨⟨d + 1, (q2 :: qs2)⟩, hsame (by unfold goes; rw [hR]; simpa using hz)⟩, by show 11 - (d + 1) < 11 - d; omega, ⟨(weakSl_cons rfl rfl (weakSl_cons rfl rfl (weakSl_cons rfl rfl (weakSl_cons rfl rfl (weakSl_cons rfl rfl (weakSl_cons (stepB d (by omega)) rfl weakSl_nil)))))), (weakHp_cons rfl rfl (weakHp_cons rfl rfl weakHp_nil)), rfl⟩⟩
                  · exact ⟨⟨⟨d + 1, (q2 :: qs2)⟩, hsame (by unfold goes; rw [hR]; rfl)⟩, by show 11 - (d + 1) < 11 - d; omega, ⟨(weakSl_cons rfl rfl (weakSl_cons rfl rfl (weakSl_cons rfl rfl (weakSl_cons rfl rfl (weakSl_cons rfl rfl (weakSl_cons (stepB d (by omega)) rfl weakSl_nil)))))), (weakHp_cons rfl rfl (weakHp_cons rfl rfl weakHp_nil)), rfl⟩⟩
                · have hge : ¬ (d : Int) - 1 ≤ 9 := hge
                  have hd11 : d = 11 := by omega
                  exact ⟨⟨⟨b + 1, (q2 :: qs2)⟩, ⟨by show b + 1 ≤ 6; omega, by show (q2 :: qs2) = cur g cl n a (b + 1) 0; rw [cur_x, ← hd11]; exact hes2⟩⟩, by show 6 - (b + 1) < 6 - b; omega, ⟨(weakSl_cons rfl rfl (weakSl_cons rfl rfl (weakSl_cons rfl rfl (weakSl_cons rfl rfl (weakSl_cons (stepB b (by omega)) rfl weakSl_nil))))), (weakHp_cons rfl rfl (weakHp_cons rfl rfl weakHp_nil)), rfl⟩⟩
            · have hge : ¬ (b : Int) - 1 ≤ 4 := hge
              have hb6 : b = 6 := by omega
              exact ⟨⟨⟨a + 1, []⟩, ⟨by show a + 1 ≤ 5; omega, by show [] = cur g cl n (a + 1) 0 0; rw [cur_o, ← hb6]; exact hes1⟩⟩, by show 5 - (a + 1) < 5 - a; omega, ⟨(weakSl_cons rfl rfl (weakSl_cons rfl rfl (weakSl_cons rfl rfl (weakSl_cons (stepA a (by omega)) rfl weakSl_nil)))), (weakHp_cons rfl rfl weakHp_nil), rfl⟩⟩
          | cons q1 qs1 =>
            conv => whnf
            refine ⟨fun hlt => ?_, fun hge => ?_⟩ <;> conv => whnf
            · have hlt : (b : Int) - 1 ≤ 4 := hlt
              refine ⟨{ x : MIx // MvInv 11 (cur g cl n a b) x }, fun x => MS 67 (.box [.d (dEnts fa g.ents), .d (dInts fb g.floor), .d (dInts fc g.last)]) [(1, vi cl), (2, .ref 2 0 0 0), (6, vi ((a : Int) + 1)), (7, vi ((b : Int) - 1)), (8, vi ((x.1.i : Int) - 1))] x.1.es, fun x => 11 - x.1.i, ⟨⟨0, (q1 :: qs1)⟩, ⟨by simp, hes1⟩⟩, ?_, ?_⟩
              · exact ⟨(weakSl_cons rfl rfl (weakSl_cons rfl rfl (weakSl_cons rfl rfl (weakSl_cons rfl rfl (weakSl_cons rfl rfl (weakSl_cons rfl rfl weakSl_nil)))))), (weakHp_cons rfl rfl (weakHp_cons rfl rfl weakHp_nil)), rfl⟩
              rintro ⟨⟨d, es2⟩, hinv2⟩
              have hd : d ≤ 11 := hinv2.i
              have hes2 : es2 = cur g cl n a b d := hinv2.es
              cases es2 with
              | nil =>
                conv => whnf
                refine ⟨fun hlt => ?_, fun hge => ?_⟩ <;> conv => whnf
                · have hlt : (d : Int) - 1 ≤ 9 := hlt
                  have hsame := (fun hgo : goes g (mvReq cl n a b d) = false => (⟨by show d + 1 ≤ 11; omega, by show [] = cur g cl n a b (d + 1); rw [cur_y, ← hes2, mv1, hgo]; simp⟩ : MvInv 11 (cur g cl n a b) ⟨d + 1, []⟩))
                  have hrow : ([.int .i64 cl, .int .i64 (IntKind.i64.wrap (intAt g.last (cl - 1) + 1)), .int .i64 ((a : Int) + 1), .int .i64 ((b : Int) - 1), .int .i64 ((d : Int) - 1)] : List D) = encReq (mvReq cl n a b d) := by rw [hw, ← hn]; rfl
                  have harg : V.agg [vi cl, vi (IntKind.i64.wrap (intAt g.last (cl - 1) + 1)), vi ((a : Int) + 1), vi ((b : Int) - 1), vi ((d : Int) - 1)] = vReq (mvReq cl n a b d) := by rw [hwn]; rfl
                  refine ⟨by rw [wc]; omega, encI (intAt g.last (cl - 1)), by rw [wc]; exact intAt_row (l := g.last) (by omega) (by omega), ?_⟩
                  conv => whnf
                  refine call_bool' (reqOk_ok (mvReq cl n a b d)) (congrArg (fun z => [z]) harg) (fun hR => ?_) (fun hR => ?_) <;> conv => whnf
                  · refine doYes_use hI hD (a := fa) (b := fb) (c := fc) hok hR (congrArg (fun z => [vGame fa fb fc g, z]) harg) fun x1 x2 x3 => ?_
                    conv => whnf
                    refine ⟨fun hz => ?_, fun hz => ?_⟩ <;> conv => whnf
                    · have hgo : goes g (mvReq cl n a b d) = true := by unfold goes; rw [hR]; simpa using hz
                      refine ⟨room (by simp) rfl, room' (by simp), ?_⟩
                      conv => whnf
                      exact ⟨⟨⟨d + 1, [mvReq cl n a b d]⟩, ⟨by show d + 1 ≤ 11; omega, by show [mvReq cl n a b d] = cur g cl n a b (d + 1); rw [cur_y, ← hes2, mv1, hgo]; rfl⟩⟩, by show 11 - (d + 1) < 11 - d; omega, ⟨(weakSl_cons (congrArg (fun z => V.osl 67 5 [z]) hrow) rfl (weakSl_cons rfl rfl (weakSl_cons rfl rfl (weakSl_cons rfl rfl (weakSl_cons rfl rfl (weakSl_cons (stepB d (by omega)) rfl weakSl_nil)))))), (weakHp_cons rfl rfl (weakHp_cons rfl rfl weakHp_nil)), rfl⟩⟩
                    · exact ⟨⟨⟨d + 1, []⟩, hsame (by unfold goes; rw [hR]; simpa using hz)⟩, by show 11 - (d + 1) < 11 - d; omega, ⟨(weakSl_cons rfl rfl (weakSl_cons rfl rfl (weakSl_cons rfl rfl (weakSl_cons rfl rfl (weakSl_cons rfl rfl (weakSl_cons (stepB d (by omega)) rfl weakSl_nil)))))), (weakHp_cons rfl rfl weakHp_nil), rfl⟩⟩
                  · exact ⟨⟨⟨d + 1, []⟩, hsame (by unfold goes; rw [hR]; rfl)⟩, by show 11 - (d + 1) < 11 - d; omega, ⟨(weakSl_cons rfl rfl (weakSl_cons rfl rfl (weakSl_cons rfl rfl (weakSl_cons rfl rfl (weakSl_cons rfl rfl (weakSl_cons (stepB d (by omega)) rfl weakSl_nil)))))), (weakHp_cons rfl rfl weakHp_nil), rfl⟩⟩
                · have hge : ¬ (d : Int) - 1 ≤ 9 := hge
                  have hd11 : d = 11 := by omega
                  exact ⟨⟨⟨b + 1, []⟩, ⟨by show b + 1 ≤ 6; omega, by show [] = cur g cl n a (b + 1) 0; rw [cur_x, ← hd11]; exact hes2⟩⟩, by show 6 - (b + 1) < 6 - b; omega, ⟨(weakSl_cons rfl rfl (weakSl_cons rfl rfl (weakSl_cons rfl rfl (weakSl_cons rfl rfl (weakSl_cons (stepB b (by omega)) rfl weakSl_nil))))), (weakHp_cons rfl rfl weakHp_nil), rfl⟩⟩
              | cons q2 qs2 =>
                conv => whnf
                have hlq : (q2 :: qs2).length ≤ 500 := by rw [hes2]; exact cur_len (by omega) (by omega) (by omega)
                simp only [List.length_cons] at hlq
                refine ⟨fun hlt => ?_, fun hge => ?_⟩ <;> conv => whnf
                · have hlt : (d : Int) - 1 ≤ 9 := hlt
                  have hsame := (fun hgo : goes g (mvReq cl n a b d) = false => (⟨by show d + 1 ≤ 11; omega, by show (q2 :: qs2) = cur g cl n a b (d + 1); rw [cur_y, ← hes2, mv1, hgo]; simp⟩ : MvInv 11 (cur g cl n a b) ⟨d + 1, (q2 :: qs2)⟩))
                  have hrow : ([.int .i64 cl, .int .i64 (IntKind.i64.wrap (intAt g.last (cl - 1) + 1)), .int .i64 ((a : Int) + 1), .int .i64 ((b : Int) - 1), .int .i64 ((d : Int) - 1)] : List D) = encReq (mvReq cl n a b d) := by rw [hw, ← hn]; rfl
                  have harg : V.agg [vi cl, vi (IntKind.i64.wrap (intAt g.last (cl - 1) + 1)), vi ((a : Int) + 1), vi ((b : Int) - 1), vi ((d : Int) - 1)] = vReq (mvReq cl n a b d) := by rw [hwn]; rfl
                  refine ⟨by rw [wc]; omega, encI (intAt g.last (cl - 1)), by rw [wc]; exact intAt_row (l := g.last) (by omega) (by omega), ?_⟩
                  conv => whnf
                  refine call_bool' (reqOk_ok (mvReq cl n a b d)) (congrArg (fun z => [z]) harg) (fun hR => ?_) (fun hR => ?_) <;> conv => whnf
                  · refine doYes_use hI hD (a := fa) (b := fb) (c := fc) hok hR (congrArg (fun z => [vGame fa fb fc g, z]) harg) fun x1 x2 x3 => ?_
                    conv => whnf
                    refine ⟨fun hz => ?_, fun hz => ?_⟩ <;> conv => whnf
                    · have hgo : goes g (mvReq cl n a b d) = true := by unfold goes; rw [hR]; simpa using hz
                      refine ⟨by simp, room (by simp; omega) rfl, room' (by simp; omega), ?_⟩
                      conv => whnf
                      have happ : (q2 :: qs2).map encReq ++ [[.int .i64 cl, .int .i64 (IntKind.i64.wrap (intAt g.last (cl - 1) + 1)), .int .i64 ((a : Int) + 1), .int .i64 ((b : Int) - 1), .int .i64 ((d : Int) - 1)]] = (q2 :: (qs2 ++ [mvReq cl n a b d])).map encReq := by rw [hrow]; simp
                      have hgrow : ((q2 :: qs2).map encReq).length + 1 = (qs2 ++ [mvReq cl n a b d]).length + 1 := by simp
                      exact ⟨⟨⟨d + 1, (q2 :: (qs2 ++ [mvReq cl n a b d]))⟩, ⟨by show d + 1 ≤ 11; omega, by show (q2 :: (qs2 ++ [mvReq cl n a b d])) = cur g cl n a b (d + 1); rw [cur_y, ← hes2, mv1, hgo]; rfl⟩⟩, by show 11 - (d + 1) < 11 - d; omega, ⟨(weakSl_cons (congrArg (fun z => V.osl 67 5 z) happ) rfl (weakSl_cons rfl rfl (weakSl_cons rfl rfl (weakSl_cons rfl rfl (weakSl_cons rfl rfl (weakSl_cons (stepB d (by omega)) rfl weakSl_nil)))))), (weakHp_cons rfl rfl (weakHp_cons (congrArg (fun z => Obj.grow 5 z) hgrow) rfl weakHp_nil)), rfl⟩⟩
                    · exact ⟨⟨⟨d + 1, (q2 :: qs2)⟩, hsame (by unfold goes; rw [hR]; simpa using hz)⟩, by show 11 - (d + 1) < 11 - d; omega, ⟨(weakSl_cons rfl rfl (weakSl_cons rfl rfl (weakSl_cons rfl rfl (weakSl_cons rfl rfl (weakSl_cons rfl rfl (weakSl_cons (stepB d (by omega)) rfl weakSl_nil)))))), (weakHp_cons rfl rfl (weakHp_cons rfl rfl weakHp_nil)), rfl⟩⟩
                  · exact ⟨⟨⟨d + 1, (q2 :: qs2)⟩, hsame (by unfold goes; rw [hR]; rfl)⟩, by show 11 - (d + 1) < 11 - d; omega, ⟨(weakSl_cons rfl rfl (weakSl_cons rfl rfl (weakSl_cons rfl rfl (weakSl_cons rfl rfl (weakSl_cons rfl rfl (weakSl_cons (stepB d (by omega)) rfl weakSl_nil)))))), (weakHp_cons rfl rfl (weakHp_cons rfl rfl weakHp_nil)), rfl⟩⟩
                · have hge : ¬ (d : Int) - 1 ≤ 9 := hge
                  have hd11 : d = 11 := by omega
                  exact ⟨⟨⟨b + 1, (q2 :: qs2)⟩, ⟨by show b + 1 ≤ 6; omega, by show (q2 :: qs2) = cur g cl n a (b + 1) 0; rw [cur_x, ← hd11]; exact hes2⟩⟩, by show 6 - (b + 1) < 6 - b; omega, ⟨(weakSl_cons rfl rfl (weakSl_cons rfl rfl (weakSl_cons rfl rfl (weakSl_cons rfl rfl (weakSl_cons (stepB b (by omega)) rfl weakSl_nil))))), (weakHp_cons rfl rfl (weakHp_cons rfl rfl weakHp_nil)), rfl⟩⟩
            · have hge : ¬ (b : Int) - 1 ≤ 4 := hge
              have hb6 : b = 6 := by omega
              exact ⟨⟨⟨a + 1, (q1 :: qs1)⟩, ⟨by show a + 1 ≤ 5; omega, by show (q1 :: qs1) = cur g cl n (a + 1) 0 0; rw [cur_o, ← hb6]; exact hes1⟩⟩, by show 5 - (a + 1) < 5 - a; omega, ⟨(weakSl_cons rfl rfl (weakSl_cons rfl rfl (weakSl_cons rfl rfl (weakSl_cons (stepA a (by omega)) rfl weakSl_nil)))), (weakHp_cons rfl rfl (weakHp_cons rfl rfl weakHp_nil)), rfl⟩⟩
        · have hge : ¬ (a : Int) + 1 ≤ 5 := hge
          have ha5 : a = 5 := by omega
          have hes5 : (q0 :: qs0) = cur g cl n 5 0 0 := by rw [← ha5]; exact hes0
          refine call_eq (clipR_ok false ((q0 :: qs0).map encReq)) ?_
          conv => whnf
          refine (?_ : V.d _ = seeMvI g cl)
          rw [seeMvI, if_pos hyes, ← hn, ← hes5] <;> rfl
    · exact no (fun h => by have := h.2.1; rw [hin] at this; simp at this) rfl
  · exact no (fun h => by have := h.1; rw [hok] at this; simp at this) rfl
end Go.Proofs.Ytnnmkenloijkcaa
/- The order of asks. -/
set_option linter.unusedVariables false
set_option linter.unusedSimpArgs false
set_option maxRecDepth 10000
namespace Go.Proofs.Ytnnmkenloijkcaa
open Go Eng

def cmpI (a b : Int) : Int := if a < b then -1 else if b < a then 1 else 0
theorem isNaN_ok (n : Int) : ACalls Try.prog G0 82 [vi n] (· = vb false) := by
  refine spec_intro tabOk Try.func82 (by kernel_rfl) rfl ?_
  conv => whnf
  refine ⟨fun h => absurd rfl h, fun _ => ?_⟩
  conv => whnf
  rfl
theorem compare_ok (a b : Int) : ACalls Try.prog G0 57 [vi a, vi b] (· = vi (cmpI a b)) := by
  refine spec_intro tabOk Try.func57 (by kernel_rfl) rfl ?_
  conv => whnf
  refine call_eq (isNaN_ok a) ?_
  conv => whnf
  refine call_eq (isNaN_ok b) ?_
  conv => whnf
  refine ⟨fun h => ?_, fun h => ?_⟩ <;> conv => whnf
  · exact congrArg vi (by rw [cmpI, if_pos h])
  refine ⟨fun h2 => ?_, fun h2 => ?_⟩ <;> conv => whnf
  · exact congrArg vi (by rw [cmpI, if_neg h, if_pos h2])
  · exact congrArg vi (by rw [cmpI, if_neg h, if_neg h2])
def orF : List Int → Int
  | [] => 0
  | n :: r => if n ≠ 0 then n else orF r
theorem orF_at : ∀ {l : List Int} {i : Nat} {n : Int}, l[i]? = some n → n ≠ 0 → (∀ (j : Nat) x, j < i → l[j]? = some x → x = 0) → orF l = n
  | [], i, n, h, _, _ => by simp at h
  | a :: l, 0, n, h, hn, _ => by simp at h; subst h; rw [orF, if_pos hn]
  | a :: l, i + 1, n, h, hn, hp => by
    have := hp 0 a (by omega) rfl
    rw [orF, if_neg (by simpa using this)]
    exact orF_at (by simpa using h) hn fun j x hj hx => hp (j + 1) x (by omega) (by simpa using hx)
theorem orF_zero : ∀ {l : List Int}, (∀ (j : Nat) x, l[j]? = some x → x = 0) → orF l = 0
  | [], _ => rfl
  | a :: l, hp => by
    have := hp 0 a rfl
    rw [orF, if_neg (by simpa using this)]
    exact orF_zero fun j x hx => hp (j + 1) x (by simpa using hx)
theorem or_ok (f : Bool) (l : List Int) : ACalls Try.prog G0 56 [.d (dInts f l)] (· = vi (orF l)) := by
  refine spec_intro tabOk Try.func56 (by kernel_rfl) rfl ?_
  conv => whnf
  intro hlen
  have hlen := le_map hlen
  let P : Nat → Prop := fun i => ∀ (j : Nat) x, j < i → l[j]? = some x → x = 0
  let I : Nat → SL := fun i => ⟨[(3, vi 0), (6, .d (dInts f l)), (7, vi (l.map encI).length), (8, vi i)], []⟩
  refine loop_up l.length P I (by intro j n h; omega) ?_ ?_
  · refine ⟨?_, ?_, rfl⟩ <;> repeat' (first | exact weakSl_nil | exact weakHp_nil | refine weakSl_cons ?_ rfl ?_ | refine weakHp_cons ?_ rfl ?_)
    all_goals rfl
  intro i hi hP
  conv => whnf
  refine ⟨fun hlt => ?_, fun hge => ?_⟩ <;> conv => whnf
  · have hlt := lt_map hlt
    refine (entsAt hlt).elim fun n hn => ?_
    refine ⟨by omega, encI n, row_map hn, ?_⟩
    conv => whnf
    refine ⟨fun h => ?_, fun h => ?_⟩ <;> conv => whnf
    · exact congrArg vi (orF_at hn h hP).symm
    · exact up_next hlt (fun j x hj hx => by
        by_cases hji : j = i
        · subst hji; rw [hn] at hx; injection hx with hx; subst hx; exact Classical.not_not.1 h
        · exact hP j x (by omega) hx) ⟨weakSl_cons rfl rfl (weakSl_cons rfl rfl (weakSl_cons rfl rfl (weakSl_cons (wrap_succ (by omega)) rfl weakSl_nil))), weakHp_nil, rfl⟩
  have hin := ge_map hge hi
  subst hin
  exact congrArg vi (orF_zero fun j x hj => hP j x (List.getElem?_eq_some_iff.1 hj).1 hj).symm
def lessB (p q : Req) : Bool := decide (orF [cmpI p.client q.client, cmpI p.num q.num, cmpI p.op q.op, cmpI p.x q.x, cmpI p.y q.y] < 0)
theorem less_ok (p q : Req) : ACalls Try.prog G0 22 [vReq p, vReq q] (· = vb (lessB p q)) := by
  refine spec_intro tabOk Try.func22 (by kernel_rfl) rfl ?_
  conv => whnf
  refine drawn_eq (compare_ok _ _) ?_
  conv => whnf
  refine drawn_eq (compare_ok _ _) ?_
  conv => whnf
  refine drawn_eq (compare_ok _ _) ?_
  conv => whnf
  refine drawn_eq (compare_ok _ _) ?_
  conv => whnf
  refine drawn_eq (compare_ok _ _) ?_
  conv => whnf
  refine drawn_eq (or_ok true [cmpI p.client q.client, cmpI p.num q.num, cmpI p.op q.op, cmpI p.x q.x, cmpI p.y q.y]) ?_
  conv => whnf
  refine ⟨fun h => ?_, fun h => ?_⟩ <;> conv => whnf
  · exact congrArg vb (by simp only [lessB, decide_eq_true h])
  · exact congrArg vb (by simp only [lessB, decide_eq_false h])
theorem drawMoves_ok (full : Bool) (bs : List Int) (hb : Bytes bs) : ACalls Try.prog G0 18 [.d (.slc full 1 (bs.map encB))] (fun r => ∃ a b c g cl, r = .tup [vGame a b c g, vi cl]) := by
  refine spec_own tabOk Try.func18 (by kernel_rfl) [] [] rfl ?_
  conv => whnf
  refine ⟨_, see_ok full bs hb, fun r ⟨a, b, c, g, cl, e⟩ => ?_⟩
  subst e
  conv => whnf
  exact ⟨a, b, c, g, cl, rfl⟩
end Go.Proofs.Ytnnmkenloijkcaa
/- What the list of asks that go is like. -/
set_option linter.unusedVariables false
set_option linter.unusedSimpArgs false
namespace Go.Proofs.Ytnnmkenloijkcaa
open Go Eng

theorem cmpI_self (a : Int) : cmpI a a = 0 := by simp [cmpI]
theorem less_mv {c n : Int} {a b d a' b' d' : Nat} (hb : b ≤ 5) (hd : d ≤ 10) (hb' : b' ≤ 5) (hd' : d' ≤ 10) (h : a * 66 + b * 11 + d < a' * 66 + b' * 11 + d') : lessB (mvReq c n a b d) (mvReq c n a' b' d') = true := by
  unfold lessB mvReq
  simp only [cmpI_self, orF, ne_eq, not_true_eq_false, if_false, decide_eq_true_eq]
  by_cases h1 : a < a'
  · have : cmpI ((a : Int) + 1) ((a' : Int) + 1) = -1 := by rw [cmpI, if_pos (by omega)]
    rw [this]; simp
  have ha : a = a' := by omega
  subst ha
  rw [cmpI_self]
  by_cases h2 : b < b'
  · have : cmpI ((b : Int) - 1) ((b' : Int) - 1) = -1 := by rw [cmpI, if_pos (by omega)]
    rw [this]; simp
  have hbb : b = b' := by omega
  subst hbb
  rw [cmpI_self]
  have : cmpI ((d : Int) - 1) ((d' : Int) - 1) = -1 := by rw [cmpI, if_pos (by omega)]
  rw [this]; simp

structure Mv (g : Game) (c n : Int) (L : List Req) (N : Nat) : Prop where
  mem : ∀ r ∈ L, ∃ a b d : Nat, b ≤ 5 ∧ d ≤ 10 ∧ a * 66 + b * 11 + d < N ∧ r = mvReq c n a b d ∧ goes g r = true
  ord : L.Pairwise (fun p q => lessB p q = true)
theorem mv_step {g : Game} {c n : Int} {L : List Req} {a b d : Nat} (h : Mv g c n L (a * 66 + b * 11 + d)) (hb : b ≤ 5) (hd : d ≤ 10) : Mv g c n (L ++ mv1 g c n a b d) (a * 66 + b * 11 + d + 1) := by
  unfold mv1
  cases hg : goes g (mvReq c n a b d) with
  | false =>
    simp only [List.append_nil]
    exact ⟨fun r hr => by obtain ⟨a', b', d', h1, h2, h3, h4⟩ := h.mem r hr; exact ⟨a', b', d', h1, h2, by omega, h4⟩, h.ord⟩
  | true =>
    refine ⟨fun r hr => ?_, List.pairwise_append.2 ⟨h.ord, List.pairwise_singleton _ _, fun p hp q hq => ?_⟩⟩
    · rcases List.mem_append.1 hr with hr | hr
      · obtain ⟨a', b', d', h1, h2, h3, h4⟩ := h.mem r hr; exact ⟨a', b', d', h1, h2, by omega, h4⟩
      · simp at hr; subst hr; exact ⟨a, b, d, hb, hd, by omega, rfl, hg⟩
    · obtain ⟨a', b', d', h1, h2, h3, h4, _⟩ := h.mem p hp
      simp at hq; subst hq; subst h4
      exact less_mv h1 h2 hb hd h3
theorem mv_y {g : Game} {c n : Int} {a b : Nat} (hb : b ≤ 5) (h : Mv g c n (cur g c n a b 0) (a * 66 + b * 11)) : ∀ d, d ≤ 11 → Mv g c n (cur g c n a b d) (a * 66 + b * 11 + d)
  | 0, _ => h
  | d + 1, hd => by rw [cur_y]; exact mv_step (mv_y hb h d (by omega)) hb (by omega)
theorem mv_x {g : Game} {c n : Int} {a : Nat} (h : Mv g c n (cur g c n a 0 0) (a * 66)) : ∀ b, b ≤ 6 → Mv g c n (cur g c n a b 0) (a * 66 + b * 11)
  | 0, _ => by simpa using h
  | b + 1, hb => by
    rw [cur_x]
    have := mv_y (by omega) (mv_x h b (by omega)) 11 (by omega)
    have e : a * 66 + (b + 1) * 11 = a * 66 + b * 11 + 11 := by omega
    rw [e]; exact this
theorem mv_o {g : Game} {c n : Int} : ∀ a, Mv g c n (cur g c n a 0 0) (a * 66)
  | 0 => ⟨by simp [cur, accO, accX, accY], by simp [cur, accO, accX, accY]⟩
  | a + 1 => by
    rw [cur_o]
    have := mv_x (mv_o (g := g) (c := c) (n := n) a) 6 (by omega)
    have e : (a + 1) * 66 = a * 66 + 6 * 11 := by omega
    rw [e]; exact this
theorem mv_all (g : Game) (c n : Int) : Mv g c n (cur g c n 5 0 0) 330 := mv_o 5

theorem goes_ok {g : Game} {r : Req} (h : goes g r = true) : okR r = true ∧ (doI g r).2 = 0 := by
  unfold goes at h
  simpa using h
/-- Without a figure only to join goes. -/
theorem goes_off {g : Game} {r : Req} (h : goes g r = true) (hat : atF g.ents r.client < 0) : r.op = 1 ∧ r.x = 0 ∧ r.y = 0 := by
  obtain ⟨h1, h2⟩ := goes_ok h
  have ho : r.op = 1 := by
    apply Classical.byContradiction
    intro ho
    unfold doI at h2
    split at h2
    · simp at h2
    · split at h2
      · simp at h2
      · have : stepV ⟨true, true, true, noted g r⟩ r = (⟨true, true, true, noted g r⟩, 5) := by
          unfold stepV
          rw [if_neg ho, if_pos (show atF (noted g r).ents r.client < 0 from hat)]
        rw [this] at h2; simp at h2
  unfold okR at h1
  simp only [Bool.and_eq_true] at h1
  have h3 := h1.2.2
  rw [if_pos (.inl ho)] at h3
  simp at h3
  exact ⟨ho, h3⟩
theorem mv_off {g : Game} {c n : Int} (hat : atF g.ents c < 0) : ∀ r ∈ cur g c n 5 0 0, r = ⟨c, n, 1, 0, 0⟩ := fun r hr => by
  obtain ⟨a, b, d, h1, h2, h3, h4, h5⟩ := (mv_all g c n).mem r hr
  subst h4
  have := goes_off h5 hat
  simp only [mvReq] at this ⊢
  obtain ⟨q1, q2, q3⟩ := this
  rw [q1, q2, q3]
theorem less_irr (r : Req) : lessB r r = false := by simp [lessB, cmpI_self, orF]
theorem mv_off_len {g : Game} {c n : Int} (hat : atF g.ents c < 0) : (cur g c n 5 0 0).length ≤ 1 := by
  have hall := mv_off (n := n) hat
  have hord := (mv_all g c n).ord
  cases hL : cur g c n 5 0 0 with
  | nil => simp
  | cons p L =>
    cases L with
    | nil => simp
    | cons q L =>
      rw [hL] at hord hall
      have h1 := hall p (by simp)
      have h2 := hall q (by simp)
      have := (List.pairwise_cons.1 hord).1 q (by simp)
      rw [h1, h2, less_irr] at this
      simp at this
end Go.Proofs.Ytnnmkenloijkcaa
/- The law of what a player sees holds, whatever the code. -/
set_option linter.unusedVariables false
set_option maxRecDepth 10000
namespace Go.Proofs.Ytnnmkenloijkcaa
open Go Eng

theorem see_use {full : Bool} {bs : List Int} (hb : Bytes bs) {ψ : V → Prop} (k : ∀ a b c g cl, ψ (.tup [vGame a b c g, vi cl])) : ∃ φ, ACalls Try.prog G0 7 [.d (.slc full 1 (bs.map encB))] φ ∧ ∀ r, φ r → ψ r :=
  ⟨_, see_ok full bs hb, fun r ⟨a, b, c, g, cl, e⟩ => by subst e; exact k a b c g cl⟩
theorem seeI_no {a b c : Bool} {g : Game} {cl : Int} (h : ¬ (okG g = true ∧ 0 ≤ atF g.ents cl)) : ACalls Try.prog G0 8 [vGame a b c g, vi cl] (· = .tup [vGame true true true ⟨[], [], []⟩, vb false]) := by
  have := seeOf_ok a b c g cl
  simp only [seeI, if_neg h] at this; exact this
theorem seeS_no {a b c : Bool} {g : Game} {cl : Int} (h : ¬ (okG g = true ∧ 0 ≤ atF g.ents cl)) : ACalls Try.prog G0 9 [vGame a b c g, vi cl] (· = .tup [vGame true true true ⟨[], [], []⟩, vb false]) := by
  have := seeOfS_ok a b c g cl
  simp only [seeS, if_neg h] at this; exact this
theorem seeI_yes {a b c : Bool} {g : Game} {cl : Int} (h : okG g = true ∧ 0 ≤ atF g.ents cl) : ACalls Try.prog G0 8 [vGame a b c g, vi cl] (· = .tup [vGame true true true (seeF (entAt g.ents (atF g.ents cl)) g), vb true]) := by
  have := seeOf_ok a b c g cl
  simp only [seeI, if_pos h] at this; exact this
theorem seeS_yes {a b c : Bool} {g : Game} {cl : Int} (h : okG g = true ∧ 0 ≤ atF g.ents cl) : ACalls Try.prog G0 9 [vGame a b c g, vi cl] (· = .tup [vGame (seen (entAt g.ents (atF g.ents cl)) g.ents).isEmpty false false (seeF (entAt g.ents (atF g.ents cl)) g), vb true]) := by
  have := seeOfS_ok a b c g cl
  simp only [seeS, if_pos h] at this; exact this

theorem hid_spec (me : Ent) (fl : List Int) : ∀ k (j : Nat) n, (hid me fl k)[j]? = some n → n = -1 ∨ fl[j]? = some n
  | 0, j, n, h => .inr h
  | k + 1, j, n, h => by
    unfold hid at h
    split at h
    · exact hid_spec me fl k j n h
    · rw [List.getElem?_set] at h
      split at h
      · split at h
        · injection h with h; exact .inl h.symm
        · simp at h
      · exact hid_spec me fl k j n h

structure LIn where
  i : Nat
  m : Bool
def mineB (l : List Ent) (cl : Int) (i : Nat) : Bool := (l.take i).any fun e => e.client == cl
def isB (l : List Ent) (x : Ent) (k : Nat) : Bool := (l.take k).any fun e => entB e x
theorem mineB_succ {l : List Ent} {cl : Int} {i : Nat} {e : Ent} (h : l[i]? = some e) : mineB l cl (i + 1) = (mineB l cl i || (e.client == cl)) := by
  unfold mineB; rw [List.take_add_one, h]; simp
theorem isB_succ {l : List Ent} {x : Ent} {i : Nat} {e : Ent} (h : l[i]? = some e) : isB l x (i + 1) = (isB l x i || entB e x) := by
  unfold isB; rw [List.take_add_one, h]; simp
theorem isB_all {l : List Ent} {x : Ent} (h : x ∈ l) : isB l x l.length = true := by
  unfold isB; rw [List.take_length, List.any_eq_true]; exact ⟨x, h, entB_t.2 rfl⟩
structure MInv (l : List Ent) (cl : Int) (x : LIn) : Prop where
  i : x.i ≤ l.length
  m : x.m = mineB l cl x.i
structure KInv (l : List Ent) (e : Ent) (x : LIn) : Prop where
  i : x.i ≤ l.length
  m : x.m = isB l e x.i
theorem seen_me {g : Game} {cl : Int} (h0 : 0 ≤ atF g.ents cl) (hg : Good g) : mineB (seen (entAt g.ents (atF g.ents cl)) g.ents) cl (seen (entAt g.ents (atF g.ents cl)) g.ents).length = true := by
  rcases atF_spec g.ents cl with ⟨h, _⟩ | ⟨i, h, hi, hc⟩
  · omega
  · rw [h]
    have hm : entAt g.ents i ∈ g.ents := entAt_mem (by simpa using hi)
    unfold mineB
    rw [List.take_length, List.any_eq_true]
    refine ⟨entAt g.ents i, List.mem_filter.2 ⟨hm, ?_⟩, by simpa using hc⟩
    simp [nearF, inB_t]

def LM (a b c : Bool) (g xs : Game) (cl : Int) (x : LIn) : SL :=
  ⟨[(3, .ref 3 0 0 0), (4, vi cl), (5, .ref 5 0 0 0), (9, vb x.m), (10, vi x.i)], [(3, .box [.d (dEnts a g.ents), .d (dInts b g.floor), .d (dInts c g.last)]), (5, .box [.d (dEnts true xs.ents), .d (dInts true xs.floor), .d (dInts true xs.last)])]⟩
def LK (a b c : Bool) (g xs : Game) (cl : Int) (m : Bool) (i : Nat) (x : LIn) : SL :=
  ⟨[(3, .ref 3 0 0 0), (4, vi cl), (5, .ref 5 0 0 0), (9, vb m), (10, vi i), (11, vb x.m), (12, vi x.i)], [(3, .box [.d (dEnts a g.ents), .d (dInts b g.floor), .d (dInts c g.last)]), (5, .box [.d (dEnts true xs.ents), .d (dInts true xs.floor), .d (dInts true xs.last)])]⟩

theorem law_see (full : Bool) (bs : List Int) (hb : Bytes bs) : ACalls Try.prog G0 3 [.d (.slc full 1 (bs.map encB))] (· = vb true) := by
  refine spec_own tabOk Try.func3 (by kernel_rfl) [] [] rfl ?_
  conv => whnf
  intro _
  conv => whnf
  refine ⟨fun hbig => ?_, fun hsmall => ?_⟩ <;> conv => whnf
  · rfl
  refine see_use hb fun a b c g cl => ?_
  conv => whnf
  by_cases hyes : okG g = true ∧ 0 ≤ atF g.ents cl
  · refine call_eq (seeI_yes hyes) ?_
    conv => whnf
    refine call_eq (seeS_yes hyes) ?_
    conv => whnf
    refine call_bool (game_eq _ _ _ _ _ _ (seeF (entAt g.ents (atF g.ents cl)) g) (seeF (entAt g.ents (atF g.ents cl)) g)) (fun h => ?_) (fun h => ?_) <;> conv => whnf
    · have hg := ok_good (of_okG hyes.1)
      refine ⟨{ x : LIn // MInv (seeF (entAt g.ents (atF g.ents cl)) g).ents cl x }, fun x => LM a b c g (seeF (entAt g.ents (atF g.ents cl)) g) cl x.1, fun x => (seeF (entAt g.ents (atF g.ents cl)) g).ents.length - x.1.i, ⟨⟨0, false⟩, ⟨by simp, by simp [mineB]⟩⟩, ?_, ?_⟩
      · refine ⟨?_, ?_, rfl⟩ <;> repeat' (first | exact weakSl_nil | exact weakHp_nil | refine weakSl_cons ?_ rfl ?_ | refine weakHp_cons ?_ rfl ?_)
        all_goals rfl
      have hxl : (seeF (entAt g.ents (atF g.ents cl)) g).ents.length ≤ 4 := by
        have h1 := good_len hg
        have h2 : (seen (entAt g.ents (atF g.ents cl)) g.ents).length ≤ g.ents.length := List.length_filter_le _ _
        show (seen (entAt g.ents (atF g.ents cl)) g.ents).length ≤ 4
        omega
      have hgl := good_len hg
      have hfl : (seeF (entAt g.ents (atF g.ents cl)) g).floor.length = 16 := by
        show (hid _ _ _).length = 16
        rw [hid_len]; exact hg.nfloor
      rintro ⟨⟨i, m⟩, hinv⟩
      have hi : i ≤ (seeF (entAt g.ents (atF g.ents cl)) g).ents.length := hinv.i
      have hm : m = mineB (seeF (entAt g.ents (atF g.ents cl)) g).ents cl i := hinv.m
      cases m with
      | false =>
        conv => whnf
        intro _
        refine ⟨fun hlt1 => ?_, fun hge => ?_⟩ <;> conv => whnf
        · skip
          have hlt1 : i < (seeF (entAt g.ents (atF g.ents cl)) g).ents.length := lt_map hlt1
          refine (entsAt hlt1).elim fun e he => ?_
          have hmem : e ∈ g.ents := (List.mem_filter.1 (List.mem_of_getElem? he)).1
          refine ⟨by show (0 : Int) ≤ (i : Int); omega, encEnt e, row_map he, ?_⟩
          conv => whnf
          refine ⟨fun hc => ?_, fun hc => ?_⟩ <;> conv => whnf
          · skip
            refine ⟨{ x : LIn // KInv g.ents e x }, fun x => LK a b c g (seeF (entAt g.ents (atF g.ents cl)) g) cl true i x.1, fun x => g.ents.length - x.1.i, ⟨⟨0, false⟩, ⟨by simp, by simp [isB]⟩⟩, ?_, ?_⟩
            · refine ⟨?_, ?_, rfl⟩ <;> repeat' (first | exact weakSl_nil | exact weakHp_nil | refine weakSl_cons ?_ rfl ?_ | refine weakHp_cons ?_ rfl ?_)
              all_goals first | rfl | exact rfl
            rintro ⟨⟨k, is⟩, hkinv⟩
            have hk : k ≤ g.ents.length := hkinv.i
            have hm2 : is = isB g.ents e k := hkinv.m
            cases is with
            | false =>
              conv => whnf
              intro _
              refine ⟨fun hlt => ?_, fun hge => ?_⟩ <;> conv => whnf
              · have hlt : k < g.ents.length := lt_map hlt
                refine (entsAt hlt).elim fun f hf => ?_
                refine ⟨by show (0 : Int) ≤ (k : Int); omega, encEnt f, row_map hf, ?_⟩
                conv => whnf
                refine ⟨by show (0 : Int) ≤ (i : Int); omega, encEnt e, row_map he, ?_⟩
                conv => whnf
                refine ⟨fun hd => ?_, fun hd => ?_⟩ <;> conv => whnf
                · have hd : entB f e = true := hd
                  exact ⟨⟨⟨k + 1, true⟩, ⟨hlt, by show true = _; rw [isB_succ hf, ← hm2, hd]; rfl⟩⟩, by show g.ents.length - (k + 1) < g.ents.length - k; omega, ⟨(weakSl_cons rfl rfl (weakSl_cons rfl rfl (weakSl_cons rfl rfl (weakSl_cons rfl rfl (weakSl_cons rfl rfl (weakSl_cons rfl rfl (weakSl_cons (wrap_succ (by omega)) rfl weakSl_nil))))))), (weakHp_cons rfl rfl (weakHp_cons rfl rfl weakHp_nil)), rfl⟩⟩
                · have hd : entB f e = false := hd
                  exact ⟨⟨⟨k + 1, false⟩, ⟨hlt, by show false = _; rw [isB_succ hf, ← hm2, hd]; rfl⟩⟩, by show g.ents.length - (k + 1) < g.ents.length - k; omega, ⟨(weakSl_cons rfl rfl (weakSl_cons rfl rfl (weakSl_cons rfl rfl (weakSl_cons rfl rfl (weakSl_cons rfl rfl (weakSl_cons rfl rfl (weakSl_cons (wrap_succ (by omega)) rfl weakSl_nil))))))), (weakHp_cons rfl rfl (weakHp_cons rfl rfl weakHp_nil)), rfl⟩⟩
              · have hin : k = g.ents.length := ge_map hge hk
                rw [hin, isB_all hmem] at hm2
                exact absurd hm2 (by simp)
            | true =>
              conv => whnf
              intro _
              refine ⟨fun hlt => ?_, fun hge => ?_⟩ <;> conv => whnf
              · have hlt : k < g.ents.length := lt_map hlt
                exact ⟨⟨⟨k + 1, true⟩, ⟨hlt, by
                  refine (entsAt hlt).elim fun f hf => ?_
                  show true = _; rw [isB_succ hf, ← hm2]; rfl⟩⟩, by show g.ents.length - (k + 1) < g.ents.length - k; omega, ⟨(weakSl_cons rfl rfl (weakSl_cons rfl rfl (weakSl_cons rfl rfl (weakSl_cons rfl rfl (weakSl_cons rfl rfl (weakSl_cons rfl rfl (weakSl_cons (wrap_succ (by omega)) rfl weakSl_nil))))))), (weakHp_cons rfl rfl (weakHp_cons rfl rfl weakHp_nil)), rfl⟩⟩
              · exact ⟨⟨⟨i + 1, true⟩, ⟨hlt1, by show true = _; rw [mineB_succ he, ← hm]; simp; exact hc⟩⟩, by show (seeF (entAt g.ents (atF g.ents cl)) g).ents.length - (i + 1) < (seeF (entAt g.ents (atF g.ents cl)) g).ents.length - i; omega, ⟨(weakSl_cons rfl rfl (weakSl_cons rfl rfl (weakSl_cons rfl rfl (weakSl_cons rfl rfl (weakSl_cons (wrap_succ (by omega)) rfl weakSl_nil))))), (weakHp_cons rfl rfl (weakHp_cons rfl rfl weakHp_nil)), rfl⟩⟩
          · skip
            refine ⟨{ x : LIn // KInv g.ents e x }, fun x => LK a b c g (seeF (entAt g.ents (atF g.ents cl)) g) cl false i x.1, fun x => g.ents.length - x.1.i, ⟨⟨0, false⟩, ⟨by simp, by simp [isB]⟩⟩, ?_, ?_⟩
            · refine ⟨?_, ?_, rfl⟩ <;> repeat' (first | exact weakSl_nil | exact weakHp_nil | refine weakSl_cons ?_ rfl ?_ | refine weakHp_cons ?_ rfl ?_)
              all_goals first | rfl | exact rfl
            rintro ⟨⟨k, is⟩, hkinv⟩
            have hk : k ≤ g.ents.length := hkinv.i
            have hm2 : is = isB g.ents e k := hkinv.m
            cases is with
            | false =>
              conv => whnf
              intro _
              refine ⟨fun hlt => ?_, fun hge => ?_⟩ <;> conv => whnf
              · have hlt : k < g.ents.length := lt_map hlt
                refine (entsAt hlt).elim fun f hf => ?_
                refine ⟨by show (0 : Int) ≤ (k : Int); omega, encEnt f, row_map hf, ?_⟩
                conv => whnf
                refine ⟨by show (0 : Int) ≤ (i : Int); omega, encEnt e, row_map he, ?_⟩
                conv => whnf
                refine ⟨fun hd => ?_, fun hd => ?_⟩ <;> conv => whnf
                · have hd : entB f e = true := hd
                  exact ⟨⟨⟨k + 1, true⟩, ⟨hlt, by show true = _; rw [isB_succ hf, ← hm2, hd]; rfl⟩⟩, by show g.ents.length - (k + 1) < g.ents.length - k; omega, ⟨(weakSl_cons rfl rfl (weakSl_cons rfl rfl (weakSl_cons rfl rfl (weakSl_cons rfl rfl (weakSl_cons rfl rfl (weakSl_cons rfl rfl (weakSl_cons (wrap_succ (by omega)) rfl weakSl_nil))))))), (weakHp_cons rfl rfl (weakHp_cons rfl rfl weakHp_nil)), rfl⟩⟩
                · have hd : entB f e = false := hd
                  exact ⟨⟨⟨k + 1, false⟩, ⟨hlt, by show false = _; rw [isB_succ hf, ← hm2, hd]; rfl⟩⟩, by show g.ents.length - (k + 1) < g.ents.length - k; omega, ⟨(weakSl_cons rfl rfl (weakSl_cons rfl rfl (weakSl_cons rfl rfl (weakSl_cons rfl rfl (weakSl_cons rfl rfl (weakSl_cons rfl rfl (weakSl_cons (wrap_succ (by omega)) rfl weakSl_nil))))))), (weakHp_cons rfl rfl (weakHp_cons rfl rfl weakHp_nil)), rfl⟩⟩
              · have hin : k = g.ents.length := ge_map hge hk
                rw [hin, isB_all hmem] at hm2
                exact absurd hm2 (by simp)
            | true =>
              conv => whnf
              intro _
              refine ⟨fun hlt => ?_, fun hge => ?_⟩ <;> conv => whnf
              · have hlt : k < g.ents.length := lt_map hlt
                exact ⟨⟨⟨k + 1, true⟩, ⟨hlt, by
                  refine (entsAt hlt).elim fun f hf => ?_
                  show true = _; rw [isB_succ hf, ← hm2]; rfl⟩⟩, by show g.ents.length - (k + 1) < g.ents.length - k; omega, ⟨(weakSl_cons rfl rfl (weakSl_cons rfl rfl (weakSl_cons rfl rfl (weakSl_cons rfl rfl (weakSl_cons rfl rfl (weakSl_cons rfl rfl (weakSl_cons (wrap_succ (by omega)) rfl weakSl_nil))))))), (weakHp_cons rfl rfl (weakHp_cons rfl rfl weakHp_nil)), rfl⟩⟩
              · exact ⟨⟨⟨i + 1, false⟩, ⟨hlt1, by show false = _; rw [mineB_succ he, ← hm]; simp; exact hc⟩⟩, by show (seeF (entAt g.ents (atF g.ents cl)) g).ents.length - (i + 1) < (seeF (entAt g.ents (atF g.ents cl)) g).ents.length - i; omega, ⟨(weakSl_cons rfl rfl (weakSl_cons rfl rfl (weakSl_cons rfl rfl (weakSl_cons rfl rfl (weakSl_cons (wrap_succ (by omega)) rfl weakSl_nil))))), (weakHp_cons rfl rfl (weakHp_cons rfl rfl weakHp_nil)), rfl⟩⟩
        · have hin : i = (seeF (entAt g.ents (atF g.ents cl)) g).ents.length := ge_map hge hi
          rw [hin] at hm
          exact absurd (seen_me hyes.2 hg) (by show ¬ mineB (seeF (entAt g.ents (atF g.ents cl)) g).ents cl (seeF (entAt g.ents (atF g.ents cl)) g).ents.length = true; rw [← hm]; simp)
      | true =>
        conv => whnf
        intro _
        refine ⟨fun hlt1 => ?_, fun hge => ?_⟩ <;> conv => whnf
        · skip
          have hlt1 : i < (seeF (entAt g.ents (atF g.ents cl)) g).ents.length := lt_map hlt1
          refine (entsAt hlt1).elim fun e he => ?_
          have hmem : e ∈ g.ents := (List.mem_filter.1 (List.mem_of_getElem? he)).1
          refine ⟨{ x : LIn // KInv g.ents e x }, fun x => LK a b c g (seeF (entAt g.ents (atF g.ents cl)) g) cl true i x.1, fun x => g.ents.length - x.1.i, ⟨⟨0, false⟩, ⟨by simp, by simp [isB]⟩⟩, ?_, ?_⟩
          · refine ⟨?_, ?_, rfl⟩ <;> repeat' (first | exact weakSl_nil | exact weakHp_nil | refine weakSl_cons ?_ rfl ?_ | refine weakHp_cons ?_ rfl ?_)
            all_goals first | rfl | exact rfl
          rintro ⟨⟨k, is⟩, hkinv⟩
          have hk : k ≤ g.ents.length := hkinv.i
          have hm2 : is = isB g.ents e k := hkinv.m
          cases is with
          | false =>
            conv => whnf
            intro _
            refine ⟨fun hlt => ?_, fun hge => ?_⟩ <;> conv => whnf
            · have hlt : k < g.ents.length := lt_map hlt
              refine (entsAt hlt).elim fun f hf => ?_
              refine ⟨by show (0 : Int) ≤ (k : Int); omega, encEnt f, row_map hf, ?_⟩
              conv => whnf
              refine ⟨by show (0 : Int) ≤ (i : Int); omega, encEnt e, row_map he, ?_⟩
              conv => whnf
              refine ⟨fun hd => ?_, fun hd => ?_⟩ <;> conv => whnf
              · have hd : entB f e = true := hd
                exact ⟨⟨⟨k + 1, true⟩, ⟨hlt, by show true = _; rw [isB_succ hf, ← hm2, hd]; rfl⟩⟩, by show g.ents.length - (k + 1) < g.ents.length - k; omega, ⟨(weakSl_cons rfl rfl (weakSl_cons rfl rfl (weakSl_cons rfl rfl (weakSl_cons rfl rfl (weakSl_cons rfl rfl (weakSl_cons rfl rfl (weakSl_cons (wrap_succ (by omega)) rfl weakSl_nil))))))), (weakHp_cons rfl rfl (weakHp_cons rfl rfl weakHp_nil)), rfl⟩⟩
              · have hd : entB f e = false := hd
                exact ⟨⟨⟨k + 1, false⟩, ⟨hlt, by show false = _; rw [isB_succ hf, ← hm2, hd]; rfl⟩⟩, by show g.ents.length - (k + 1) < g.ents.length - k; omega, ⟨(weakSl_cons rfl rfl (weakSl_cons rfl rfl (weakSl_cons rfl rfl (weakSl_cons rfl rfl (weakSl_cons rfl rfl (weakSl_cons rfl rfl (weakSl_cons (wrap_succ (by omega)) rfl weakSl_nil))))))), (weakHp_cons rfl rfl (weakHp_cons rfl rfl weakHp_nil)), rfl⟩⟩
            · have hin : k = g.ents.length := ge_map hge hk
              rw [hin, isB_all hmem] at hm2
              exact absurd hm2 (by simp)
          | true =>
            conv => whnf
            intro _
            refine ⟨fun hlt => ?_, fun hge => ?_⟩ <;> conv => whnf
            · have hlt : k < g.ents.length := lt_map hlt
              exact ⟨⟨⟨k + 1, true⟩, ⟨hlt, by
                refine (entsAt hlt).elim fun f hf => ?_
                show true = _; rw [isB_succ hf, ← hm2]; rfl⟩⟩, by show g.ents.length - (k + 1) < g.ents.length - k; omega, ⟨(weakSl_cons rfl rfl (weakSl_cons rfl rfl (weakSl_cons rfl rfl (weakSl_cons rfl rfl (weakSl_cons rfl rfl (weakSl_cons rfl rfl (weakSl_cons (wrap_succ (by omega)) rfl weakSl_nil))))))), (weakHp_cons rfl rfl (weakHp_cons rfl rfl weakHp_nil)), rfl⟩⟩
            · exact ⟨⟨⟨i + 1, true⟩, ⟨hlt1, by show true = _; rw [mineB_succ he, ← hm]; rfl⟩⟩, by show (seeF (entAt g.ents (atF g.ents cl)) g).ents.length - (i + 1) < (seeF (entAt g.ents (atF g.ents cl)) g).ents.length - i; omega, ⟨(weakSl_cons rfl rfl (weakSl_cons rfl rfl (weakSl_cons rfl rfl (weakSl_cons rfl rfl (weakSl_cons (wrap_succ (by omega)) rfl weakSl_nil))))), (weakHp_cons rfl rfl (weakHp_cons rfl rfl weakHp_nil)), rfl⟩⟩
        · skip
          have hin : i = (seeF (entAt g.ents (atF g.ents cl)) g).ents.length := ge_map hge hi
          let P3 : Nat → Prop := fun j => True
          let I3 : Nat → SL := fun j => ⟨[(3, .ref 3 0 0 0), (4, vi cl), (5, .ref 5 0 0 0), (9, vb true), (13, vi j)], [(3, .box [.d (dEnts a g.ents), .d (dInts b g.floor), .d (dInts c g.last)]), (5, .box [.d (dEnts true (seeF (entAt g.ents (atF g.ents cl)) g).ents), .d (dInts true (seeF (entAt g.ents (atF g.ents cl)) g).floor), .d (dInts true (seeF (entAt g.ents (atF g.ents cl)) g).last)])]⟩
          refine loop_up (seeF (entAt g.ents (atF g.ents cl)) g).floor.length P3 I3 trivial ?_ ?_
          · refine ⟨?_, ?_, rfl⟩ <;> repeat' (first | exact weakSl_nil | exact weakHp_nil | refine weakSl_cons ?_ rfl ?_ | refine weakHp_cons ?_ rfl ?_)
            all_goals rfl
          intro j hj _
          conv => whnf
          intro _
          refine ⟨fun hlt => ?_, fun hge => ?_⟩ <;> conv => whnf
          · have hlt : j < (seeF (entAt g.ents (atF g.ents cl)) g).floor.length := lt_map hlt
            refine (entsAt hlt).elim fun n hn => ?_
            refine ⟨by omega, encI n, row_map hn, ?_⟩
            conv => whnf
            refine ⟨fun hd => ?_, fun hd => ?_⟩ <;> conv => whnf
            · have hgn : g.floor[j]? = some n := (hid_spec _ _ _ j n hn).resolve_left hd
              refine ⟨by omega, encI n, row_map hn, ?_⟩
              conv => whnf
              refine ⟨by omega, encI n, row_map hgn, ?_⟩
              conv => whnf
              refine ⟨fun hd => ?_, fun hd => ?_⟩ <;> conv => whnf
              · exact absurd rfl hd
              · exact up_next hlt trivial ⟨(weakSl_cons rfl rfl (weakSl_cons rfl rfl (weakSl_cons rfl rfl (weakSl_cons rfl rfl (weakSl_cons (wrap_succ (by omega)) rfl weakSl_nil))))), (weakHp_cons rfl rfl (weakHp_cons rfl rfl weakHp_nil)), rfl⟩
            · exact up_next hlt trivial ⟨(weakSl_cons rfl rfl (weakSl_cons rfl rfl (weakSl_cons rfl rfl (weakSl_cons rfl rfl (weakSl_cons (wrap_succ (by omega)) rfl weakSl_nil))))), (weakHp_cons rfl rfl (weakHp_cons rfl rfl weakHp_nil)), rfl⟩
          refine call_bool (ints_ok true c (seeF (entAt g.ents (atF g.ents cl)) g).last g.last) (fun h => ?_) (fun h => ?_) <;> conv => whnf
          · rfl
          · exact absurd (eqI_self g.last) (by show ¬ eqI g.last g.last = true; have h : eqI g.last g.last = false := h; rw [h]; simp)
    · exact absurd (eqG_self (seeF (entAt g.ents (atF g.ents cl)) g)) (by rw [h]; simp)
  · refine call_eq (seeI_no hyes) ?_
    conv => whnf
    refine call_eq (seeS_no hyes) ?_
    conv => whnf
    refine call_bool (game_eq _ _ _ _ _ _ ⟨[], [], []⟩ ⟨[], [], []⟩) (fun h => ?_) (fun h => ?_) <;> conv => whnf
    · refine call_bool (game_eq _ _ _ _ _ _ ⟨[], [], []⟩ ⟨[], [], []⟩) (fun h => ?_) (fun h => ?_) <;> conv => whnf
      · rfl
      · exact absurd (eqG_self ⟨[], [], []⟩) (by rw [h]; simp)
    · exact absurd (eqG_self ⟨[], [], []⟩) (by rw [h]; simp)
end Go.Proofs.Ytnnmkenloijkcaa
/- The law of what goes holds, whatever the code, given what slices.Insert and slices.Delete do. -/
set_option linter.unusedVariables false
set_option linter.unusedSimpArgs false
set_option maxRecDepth 10000
namespace Go.Proofs.Ytnnmkenloijkcaa
open Go Eng

theorem drawMoves_use {full : Bool} {bs : List Int} (hb : Bytes bs) {ψ : V → Prop} (k : ∀ a b c g cl, ψ (.tup [vGame a b c g, vi cl])) : ∃ φ, ACalls Try.prog G0 18 [.d (.slc full 1 (bs.map encB))] φ ∧ ∀ r, φ r → ψ r :=
  ⟨_, drawMoves_ok full bs hb, fun r ⟨a, b, c, g, cl, e⟩ => by subst e; exact k a b c g cl⟩
abbrev mvL (g : Game) (cl : Int) : List Req := cur g cl (intAt g.last (cl - 1) + 1) 5 0 0
theorem mvI_yes (hI : InsOk) (hD : DelOk) {a b c : Bool} {g : Game} {cl : Int} (h : mvOk g cl) : ACalls Try.prog G0 19 [vGame a b c g, vi cl] (· = .d (.slc true 5 ((mvL g cl).map encReq))) := by
  have := seeMvI_ok hI hD a b c g cl
  rw [seeMvI, if_pos h] at this; exact this
theorem mvI_no (hI : InsOk) (hD : DelOk) {a b c : Bool} {g : Game} {cl : Int} (h : ¬ mvOk g cl) : ACalls Try.prog G0 19 [vGame a b c g, vi cl] (· = .d (.slc true 5 (([] : List Req).map encReq))) := by
  have := seeMvI_ok hI hD a b c g cl
  rw [seeMvI, if_neg h] at this; exact this
theorem mvS_yes {a b c : Bool} {g : Game} {cl : Int} (h : mvOk g cl) : ACalls Try.prog G0 21 [vGame a b c g, vi cl] (· = .d (.slc (mvL g cl).isEmpty 5 ((mvL g cl).map encReq))) := by
  have := seeMvS_ok a b c g cl
  rw [seeMvS, if_pos h] at this; exact this
theorem mvS_no {a b c : Bool} {g : Game} {cl : Int} (h : ¬ mvOk g cl) : ACalls Try.prog G0 21 [vGame a b c g, vi cl] (· = .d (.slc true 5 (([] : List Req).map encReq))) := by
  have := seeMvS_ok a b c g cl
  rw [seeMvS, if_neg h] at this; exact this
theorem gdo_yes (hI : InsOk) (hD : DelOk) {a b c : Bool} {g : Game} {r : Req} (h : okG g = true) (hr : okR r = true) : ACalls Try.prog G0 17 [vGame a b c g, vReq r] (· = .tup [vGame true true true (doI g r).1, vi (doI g r).2]) := by
  have := gameDo_eq hI hD a b c g r
  rw [gdo, if_pos ⟨h, .inr hr⟩] at this; exact this
theorem mv_mem {g : Game} {cl n : Int} {i : Nat} {r : Req} (h : (cur g cl n 5 0 0)[i]? = some r) : okR r = true ∧ (doI g r).2 = 0 ∧ r.client = cl := by
  obtain ⟨a, b, d, _, _, _, h4, h5⟩ := (mv_all g cl n).mem r (List.mem_of_getElem? h)
  obtain ⟨q1, q2⟩ := goes_ok h5
  exact ⟨q1, q2, by rw [h4]; rfl⟩
theorem mv_less {g : Game} {cl n : Int} {i : Nat} {p r : Req} (hp : (cur g cl n 5 0 0)[i]? = some p) (hr : (cur g cl n 5 0 0)[i + 1]? = some r) : lessB p r = true := by
  obtain ⟨h1, rfl⟩ := List.getElem?_eq_some_iff.1 hp
  obtain ⟨h2, rfl⟩ := List.getElem?_eq_some_iff.1 hr
  exact List.pairwise_iff_getElem.1 (mv_all g cl n).ord i (i + 1) h1 h2 (by omega)

theorem law_moves (hI : InsOk) (hD : DelOk) (full : Bool) (bs : List Int) (hb : Bytes bs) : ACalls Try.prog G0 5 [.d (.slc full 1 (bs.map encB))] (· = vb true) := by
  refine spec_own tabOk Try.func5 (by kernel_rfl) [] [] rfl ?_
  conv => whnf
  intro _
  refine ⟨fun hbig => ?_, fun hsmall => ?_⟩ <;> conv => whnf
  · rfl
  refine drawMoves_use hb fun a b c g cl => ?_
  conv => whnf
  by_cases hmv : mvOk g cl
  · have hok := hmv.1
    have hg := ok_good (of_okG hok)
    have hLl : (mvL g cl).length ≤ 500 := cur_len (by omega) (by omega) (by omega)
    refine call_eq (mvI_yes hI hD hmv) ?_
    conv => whnf
    refine call_eq (mvS_yes hmv) ?_
    conv => whnf
    refine call_bool (reqs_eq true (mvL g cl).isEmpty (mvL g cl) (mvL g cl)) (fun _ => ?_) (fun h => absurd (eqR_self _) (by rw [h]; simp))
    conv => whnf
    refine call_bool (gameOk_ok a b c g) (fun _ => ?_) (fun h => absurd hok (by rw [h]; simp))
    conv => whnf
    let P : Nat → Prop := fun i => True
    let I : Nat → SL := fun i => ⟨[(3, .ref 3 0 0 0), (4, vi cl), (5, .d (.slc true 5 ((mvL g cl).map encReq))), (6, vi i)], [(3, .box [.d (dEnts a g.ents), .d (dInts b g.floor), .d (dInts c g.last)])]⟩
    refine loop_up (mvL g cl).length P I trivial ?_ ?_
    · refine ⟨?_, ?_, rfl⟩ <;> repeat' (first | exact weakSl_nil | exact weakHp_nil | refine weakSl_cons ?_ rfl ?_ | refine weakHp_cons ?_ rfl ?_)
      all_goals rfl
    intro i hi _
    conv => whnf
    intro _
    refine ⟨fun hlt => ?_, fun hge => ?_⟩ <;> conv => whnf
    · have hlt := lt_map hlt
      refine (entsAt hlt).elim fun r hr => ?_
      have hm := mv_mem hr
      refine ⟨by omega, encReq r, row_map hr, ?_⟩
      conv => whnf
      refine drawn_eq (gdo_yes hI hD hok hm.1) ?_
      conv => whnf
      refine ⟨fun h => absurd hm.2.1 h, fun _ => ?_⟩
      conv => whnf
      refine ⟨by omega, encReq r, row_map hr, ?_⟩
      conv => whnf
      refine ⟨fun h => absurd hm.2.2 h, fun _ => ?_⟩
      conv => whnf
      refine ⟨fun hpos => ?_, fun hpos => ?_⟩ <;> conv => whnf
      · have hpos : 0 < i := by have hh : (0 : Int) < (i : Int) := hpos; omega
        have hw : IntKind.i64.wrap ((i : Int) - 1) = ((i - 1 : Nat) : Int) := by rw [wrap_id (by omega) (by omega)]; omega
        refine (entsAt (l := mvL g cl) (i := i - 1) (by omega)).elim fun p hp => ?_
        refine ⟨by rw [hw]; omega, encReq p, by rw [hw]; exact row_map hp, ?_⟩
        conv => whnf
        refine ⟨by omega, encReq r, row_map hr, ?_⟩
        conv => whnf
        refine drawn_bool (less_ok p r) (fun _ => ?_) (fun h => absurd (mv_less hp (by rw [Nat.sub_add_cancel hpos]; exact hr)) (by rw [h]; simp))
        conv => whnf
        exact up_next hlt trivial ⟨weakSl_cons rfl rfl (weakSl_cons rfl rfl (weakSl_cons rfl rfl (weakSl_cons (wrap_succ (by omega)) rfl weakSl_nil))), weakHp_cons rfl rfl weakHp_nil, rfl⟩
      · exact up_next hlt trivial ⟨weakSl_cons rfl rfl (weakSl_cons rfl rfl (weakSl_cons rfl rfl (weakSl_cons (wrap_succ (by omega)) rfl weakSl_nil))), weakHp_cons rfl rfl weakHp_nil, rfl⟩
    by_cases hat : 0 ≤ atF g.ents cl
    · refine call_eq (seeI_yes ⟨hok, hat⟩) ?_
      conv => whnf
      rfl
    · refine call_eq (seeI_no (fun h => hat h.2)) ?_
      conv => whnf
      intro _
      refine ⟨fun hz => ?_, fun hz => ?_⟩ <;> conv => whnf
      · rfl
      have hl1 : (mvL g cl).length ≤ 1 := mv_off_len (by omega)
      intro _
      refine ⟨fun h1 => ?_, fun h1 => ?_⟩
      · conv => whnf
        have hlen1 : (mvL g cl).length = 1 := by simp at h1; omega
        refine (entsAt (l := mvL g cl) (i := 0) (by omega)).elim fun r hr => ?_
        refine ⟨by omega, encReq r, row_map hr, ?_⟩
        conv => whnf
        have hop : r.op = 1 := by
          have := mv_off (n := intAt g.last (cl - 1) + 1) (show atF g.ents cl < 0 by omega) r (List.mem_of_getElem? hr)
          rw [this]
        refine ⟨fun _ => ?_, fun h => absurd hop h⟩
        conv => whnf
        rfl
      · exfalso
        simp at hz h1
        have : (mvL g cl).length ≠ 0 := by
          intro h0
          exact hz (List.eq_nil_of_length_eq_zero h0)
        omega
  · refine call_eq (mvI_no hI hD hmv) ?_
    conv => whnf
    refine call_eq (mvS_no hmv) ?_
    conv => whnf
    refine call_bool (reqs_eq true true [] []) (fun _ => ?_) (fun h => absurd (eqR_self []) (by rw [h]; simp))
    conv => whnf
    refine call_bool (gameOk_ok a b c g) (fun hok => ?_) (fun hok => ?_) <;> conv => whnf
    · let P : Nat → Prop := fun i => True
      let I : Nat → SL := fun i => ⟨[(3, .ref 3 0 0 0), (4, vi cl), (5, .d (.slc true 5 [])), (6, vi i)], [(3, .box [.d (dEnts a g.ents), .d (dInts b g.floor), .d (dInts c g.last)])]⟩
      refine loop_up 0 P I trivial ?_ ?_
      · refine ⟨?_, ?_, rfl⟩ <;> repeat' (first | exact weakSl_nil | exact weakHp_nil | refine weakSl_cons ?_ rfl ?_ | refine weakHp_cons ?_ rfl ?_)
        all_goals rfl
      intro i hi _
      conv => whnf
      intro _
      refine ⟨fun hlt => ?_, fun hge => ?_⟩ <;> conv => whnf
      · exact absurd (show (i : Int) < 0 from hlt) (by omega)
      by_cases hat : 0 ≤ atF g.ents cl
      · refine call_eq (seeI_yes ⟨hok, hat⟩) ?_
        conv => whnf
        rfl
      · refine call_eq (seeI_no (fun h => hat h.2)) ?_
        conv => whnf
        intro _
        refine ⟨fun hz => ?_, fun hz => absurd rfl hz⟩
        conv => whnf
        rfl
    · refine call_eq (mvS_no hmv) ?_
      conv => whnf
      refine call_bool (reqs_eq true true [] []) (fun _ => ?_) (fun h => absurd (eqR_self []) (by rw [h]; simp))
      conv => whnf
      rfl
end Go.Proofs.Ytnnmkenloijkcaa
/- What slices.Insert and slices.Delete do to an array of figures. -/
set_option linter.unusedVariables false
set_option linter.unusedSimpArgs false
set_option maxRecDepth 10000
namespace Go.Proofs.Ytnnmkenloijkcaa
open Go Eng

/-- An array that was passed is forgotten. -/
theorem hcalls_forget {P : Program} {G : Nat → V} {f : FuncId} {i : Nat} {hp0 : Nat → Eng.Obj} {args : List V} {x : D} (h : HCalls P G f hp0 args (fun r l => r = .d x ∧ ∃ ob, l = [(i, ob)])) :
    HCalls P G f hp0 args (fun r l => r = .d x ∧ l = [(i, .dead)]) := by
  refine ⟨h.1, fun w g us h1 h2 h3 h4 h5 => (h.2 w g us h1 h2 h3 h4 h5).mono fun e w' ho => ⟨?_⟩⟩
  obtain ⟨u, r, l, g', q1, ⟨q2, ob, q3⟩, q4, q5, q6, q7, q8, q9, q10, q11, q12, q13, q14⟩ := ho.out
  subst q2; subst q3
  have hd : ∀ j, hpOf [(i, Eng.Obj.dead)] j = if j = i then .dead else .none := fun j => by
    unfold hpOf Eng.look
    cases hb : Nat.beq j i with
    | true => rw [if_pos (Nat.eq_of_beq_eq_true hb)]
    | false => rw [if_neg (by rintro rfl; simp at hb)]; rfl
  have ho : ∀ j, hpOf [(i, ob)] j = if j = i then ob else .none := fun j => by
    unfold hpOf Eng.look
    cases hb : Nat.beq j i with
    | true => rw [if_pos (Nat.eq_of_beq_eq_true hb)]
    | false => rw [if_neg (by rintro rfl; simp at hb)]; rfl
  have hl : ∀ j, (hpOf [(i, Eng.Obj.dead)] j).live = false := fun j => by rw [hd]; split <;> rfl
  refine ⟨u, .d x, [(i, .dead)], g', q1, ⟨rfl, rfl⟩, fun p hp => by simp only [List.mem_singleton] at hp; subst hp; rfl, by simp only [RepV] at q5 ⊢; exact q5, fun j => ?_, fun j k b _ hj _ _ => by rw [hl] at hj; simp at hj, q8, q9, q10, ⟨q11.ext, fun j hj => ?_, q11.blk, q11.val, fun j hj hg e n => ?_, fun j e n hj hg => ?_⟩, q12, fun j b hj _ => by rw [hl] at hj; simp at hj, q14⟩
  · rw [hd]; split <;> trivial
  · have := q11.used j hj
    rw [ho] at this
    rw [hd]
    split
    · rfl
    · rename_i hne; rw [if_neg hne] at this; simp [Eng.Obj.used] at this
  · rw [hd]; split <;> simp
  · rw [hd] at hg; split at hg <;> simp at hg

theorem fin5 {want : List (List D)} (s : St) (x : List (List D)) (ob : Eng.Obj) (hx : x = want) (h5 : s.hp 5 = ob) (ho : okO [5] ob = true) (hu : ob.used = true) :
    ∃ m, HRest s [5] m ∧ (V.d (.slc false 5 x) = .d (.slc false 5 want) ∧ ∃ ob, m = [(5, ob)]) := by
  subst hx
  refine ⟨[(5, ob)], ⟨⟨h5, ho, trivial⟩, ?_, rfl⟩, rfl, ob, rfl⟩
  simpa using hu

theorem ins_mid {α : Type} {l : List α} {k : Nat} {z e : α} (hk : k < l.length) {n : Nat} (hn : n = l.length - k + 1) :
    (((l.take k ++ List.replicate n z).take k ++ [e] ++ (l.take k ++ List.replicate n z).drop (k + 1)).take (k + 1) ++ l.drop k ++
      ((l.take k ++ List.replicate n z).take k ++ [e] ++ (l.take k ++ List.replicate n z).drop (k + 1)).drop (k + 1 + (l.drop k).length)) = l.take k ++ [e] ++ l.drop k := by
  subst hn
  have h1 : (l.take k).length = k := by simp; omega
  have h2 : (l.take k ++ List.replicate (l.length - k + 1) z).take k = l.take k := by rw [List.take_append_of_le_length (by omega), List.take_of_length_le (by omega)]
  rw [h2]
  have h3 : (l.take k ++ [e]).length = k + 1 := by simp; omega
  have h4 : (l.take k ++ [e] ++ (l.take k ++ List.replicate (l.length - k + 1) z).drop (k + 1)).drop (k + 1 + (l.drop k).length) = [] := List.drop_eq_nil_of_le (by simp; omega)
  rw [h4, List.take_append_of_le_length (by omega), List.take_of_length_le (by omega), List.append_nil]

theorem insOk : InsOk := by
  intro l k e hk hl
  refine hcalls_forget ?_
  refine hspec tabOk Try.func76 (by kernel_rfl) false [12, 25, 34, 40, 43, 50, 53] [] rfl ?_
  have w1 : IntKind.i64.wrap ((l.length : Int) + 1) = l.length + 1 := wrap_id (by omega) (by omega)
  have w2 : IntKind.i64.wrap ((l.length : Int) + 1 - k) = l.length + 1 - k := wrap_id (by omega) (by omega)
  have w3 : IntKind.i64.wrap ((k : Int) + 1) = k + 1 := wrap_id (by omega) (by omega)
  conv => whnf
  refine ⟨by simp, by simp; omega, by simp, ?_⟩
  conv => whnf
  intro _
  refine ⟨fun h => ?_, fun _ => ?_⟩
  · simp at h
  conv => whnf
  intro _
  refine ⟨fun h => ?_, fun h => ?_⟩ <;> conv => whnf
  · refine ⟨by simp, by simp, by simp; omega, by simp; omega, ?_⟩
    conv => whnf
    have hkl : k = l.length := by simp at h; omega
    refine fin5 _ _ (.arr true 5 (l.map encEnt)) ?_ ?_ ?_ ?_
    · subst hkl
      have e1 : (l.map encEnt).take l.length = l.map encEnt := List.take_of_length_le (by simp)
      simp [e1]
    · rfl
    · rfl
    · rfl
  · have hkl : k < l.length := by simp at h; omega
    refine ⟨by simp, ?_⟩
    conv => whnf
    refine ⟨fun h2 => ?_, fun h2 => ?_⟩
    · conv => whnf
      refine ⟨by simp, by simp, by simp; omega, ?_⟩
      conv => whnf
      refine ⟨?_, by simp, ?_, ?_, ?_⟩
      · simp [w1, w2]; omega
      · simp [w1, w2]; omega
      · simp [w1, w2]; omega
      conv => whnf
      refine ⟨by simp, by simp; omega, by simp [w1, w2], ?_⟩
      conv => whnf
      refine ⟨by simp [w3]; omega, ?_, ?_, ?_⟩
      · simp [w1, w2, w3]; omega
      · simp [w1, w2, w3]
      conv => whnf
      refine ⟨by simp, ?_, ?_, ?_⟩
      · simp; omega
      · simp
      conv => whnf
      refine fin5 _ _ (.arr true 5 (l.map encEnt)) ?_ ?_ ?_ ?_
      · have m1 : min k l.length = k := by omega
        have m2 : ((k : Int) + ((l.length + 1 - k : Nat) : Int)).toNat - k = l.length + 1 - k := by omega
        have m3 : min (l.length + 1 - k) 1 = 1 := by omega
        have m4 : [encEnt e].take (l.length + 1 - k) = [encEnt e] := List.take_of_length_le (by simp; omega)
        have m5 : ∀ x, min k (k + x) = k := fun x => by omega
        have m6 : ((k : Int) + (((k + (l.length + 1 - k) - (k + 1) : Nat) : Int) + 1)).toNat - (k + 1) = l.length - k := by omega
        have m7 : ((l.map encEnt).drop k).take (l.length - k) = (l.map encEnt).drop k := List.take_of_length_le (by simp)
        have m8 := ins_mid (l := l.map encEnt) (k := k) (z := [D.int IntKind.i64 0, D.int IntKind.i64 0, D.int IntKind.i64 0, D.int IntKind.i64 0, D.int IntKind.i64 0]) (e := encEnt e) (by simpa using hkl) (n := l.length + 1 - k) (by simp; omega)
        dsimp only
        have m9 : ∀ R : List (List D), ((l.map encEnt).take k ++ R).take k = (l.map encEnt).take k := fun R => by rw [List.take_append_of_le_length (by simp; omega), List.take_of_length_le (by simp; omega)]
        rw [m9] at m8
        simp at m8
        simp [w1, w2, w3, m1, m2, m3, m4, m5, m6, m7]
        exact m8
      · rfl
      · rfl
      · rfl
    · exfalso
      simp [w1] at h2
      omega
theorem delOk : DelOk := by
  intro l k h0 hk hl
  refine hcalls_forget ?_
  refine hspec tabOk Try.func78 (by kernel_rfl) false [13, 22, 25, 31] [] rfl ?_
  have w1 : (k + 1).toNat = k.toNat + 1 := by omega
  conv => whnf
  intro _
  refine ⟨?_, ?_, ?_, ?_, ?_, ?_⟩
  · simp
  · simp
  · simp; omega
  · simp; omega
  · simp; omega
  conv => whnf
  refine ⟨fun h => ?_, fun h => ?_⟩
  · omega
  conv => whnf
  intro _
  refine ⟨by simp, ?_, ?_, ?_⟩
  · simp; omega
  · simp; omega
  conv => whnf
  refine ⟨?_, ?_, ?_, ?_⟩
  · simp; omega
  · simp; omega
  · simp
  conv => whnf
  refine ⟨?_, ?_⟩
  · simp; omega
  conv => whnf
  intro _
  refine ⟨?_, ?_, ?_, ?_⟩
  · simp
  · simp; omega
  · simp; omega
  conv => whnf
  refine fin5 _ _ _ ?_ rfl ?_ ?_
  · have m1 : min k.toNat l.length = k.toNat := by omega
    have m2 : k.toNat + (l.length - (k.toNat + 1)) = l.length - 1 := by omega
    have m3 : min (l.length - 1) (k.toNat + (l.length - (k.toNat + 1) + (l.length - (l.length - 1)))) = l.length - 1 := by omega
    have m4 : ((l.map encEnt).drop (k.toNat + 1)).take (l.length - (k.toNat + 1)) = (l.map encEnt).drop (k.toNat + 1) := List.take_of_length_le (by simp)
    have m5 : ∀ C : List (List D), ((l.map encEnt).take k.toNat ++ ((l.map encEnt).drop (k.toNat + 1) ++ C)).take (l.length - 1) = (l.map encEnt).take k.toNat ++ (l.map encEnt).drop (k.toNat + 1) := fun C => by
      rw [← List.append_assoc, List.take_append_of_le_length (by simp; omega), List.take_of_length_le (by simp; omega)]
    dsimp only
    simp [w1, m1, m2, m3, m4, m5]
  · rfl
  · rfl
end Go.Proofs.Ytnnmkenloijkcaa
