/- A game that is ok stays ok, whatever is asked. -/
import Derived.Test.YtnnmkenloijkcaaSpecD
set_option linter.unusedVariables false
set_option linter.unusedSimpArgs false
namespace Go.Proofs.Ytnnmkenloijkcaa
open Go Eng

structure Good (g : Game) : Prop where
  ent : ∀ e ∈ g.ents, 1 ≤ e.client ∧ e.client ≤ 4 ∧ 0 ≤ e.x ∧ e.x ≤ 3 ∧ 0 ≤ e.y ∧ e.y ≤ 3 ∧ 0 ≤ e.life ∧ e.life ≤ 3 ∧ 0 ≤ e.gold
  ord : (g.ents.map Ent.client).Pairwise (· < ·)
  floor : ∀ n ∈ g.floor, 0 ≤ n
  last : ∀ n ∈ g.last, 0 ≤ n ∧ n ≤ 30
  nfloor : g.floor.length = 16
  nlast : g.last.length = 4
  sum : (g.ents.map Ent.gold).sum + g.floor.sum = 20

theorem sum_nonneg {l : List Int} (h : ∀ n ∈ l, 0 ≤ n) : 0 ≤ l.sum := by
  induction l with
  | nil => simp
  | cons a l ih =>
    have := h a List.mem_cons_self
    have := ih fun n hn => h n (List.mem_cons_of_mem _ hn)
    simp; omega
theorem mem_le_sum {l : List Int} (h : ∀ n ∈ l, 0 ≤ n) {n : Int} (hn : n ∈ l) : n ≤ l.sum := by
  induction l with
  | nil => simp at hn
  | cons a l ih =>
    have h0 := h a List.mem_cons_self
    have h1 := sum_nonneg fun n hn => h n (List.mem_cons_of_mem _ hn)
    simp only [List.sum_cons]
    rcases List.mem_cons.1 hn with rfl | hn
    · omega
    · have := ih (fun n hn => h n (List.mem_cons_of_mem _ hn)) hn
      omega
theorem adj_pair {l : List Int} : (∀ (i : Nat) p e, l[i]? = some p → l[i + 1]? = some e → p < e) ↔ l.Pairwise (· < ·) := by
  constructor
  · intro h
    induction l with
    | nil => simp
    | cons a l ih =>
      have ih := ih fun i p e hp he => h (i + 1) p e (by simpa using hp) (by simpa using he)
      refine List.pairwise_cons.2 ⟨fun b hb => ?_, ih⟩
      cases l with
      | nil => simp at hb
      | cons c l =>
        have hac := h 0 a c rfl rfl
        rcases List.mem_cons.1 hb with rfl | hb
        · exact hac
        · have := (List.pairwise_cons.1 ih).1 b hb
          omega
  · intro h i p e hp he
    obtain ⟨h1, rfl⟩ := List.getElem?_eq_some_iff.1 hp
    obtain ⟨h2, rfl⟩ := List.getElem?_eq_some_iff.1 he
    exact List.pairwise_iff_getElem.1 h i (i + 1) h1 h2 (by omega)

theorem good_ok {g : Game} (h : Good g) : OkG g := by
  have hg : ∀ n ∈ g.ents.map Ent.gold, 0 ≤ n := fun n hn => by
    obtain ⟨e, he, rfl⟩ := List.mem_map.1 hn
    exact (h.ent e he).2.2.2.2.2.2.2.2
  have s1 := sum_nonneg hg
  have s2 := sum_nonneg h.floor
  have hs := h.sum
  refine ⟨fun i e he => ?_, fun i p e hp he => ?_, fun i n hn => ?_, fun i n hn => inB_t.2 (h.last n (List.mem_of_getElem? hn)), h.nfloor, h.nlast, h.sum⟩
  · have hm := List.mem_of_getElem? he
    have := h.ent e hm
    have hle := mem_le_sum hg (List.mem_map.2 ⟨e, hm, rfl⟩)
    simp only [entOk, Bool.and_eq_true, inB_t]
    omega
  · exact adj_pair.2 h.ord i p.client e.client (by simp [hp]) (by simp [he])
  · have hm := List.mem_of_getElem? hn
    have := mem_le_sum h.floor hm
    have := h.floor n hm
    exact inB_t.2 (by omega)
theorem ok_good {g : Game} (h : OkG g) : Good g := by
  refine ⟨fun e he => ?_, adj_pair.1 fun i p e hp he => ?_, fun n hn => ?_, fun n hn => ?_, h.nfloor, h.nlast, h.sum⟩
  · obtain ⟨i, hi⟩ := List.mem_iff_getElem?.1 he
    have := h.ent i e hi
    simp only [entOk, Bool.and_eq_true, inB_t] at this
    omega
  · rw [List.getElem?_map] at hp he
    cases h1 : g.ents[i]? with
    | none => simp [h1] at hp
    | some a => cases h2 : g.ents[i + 1]? with
      | none => simp [h2] at he
      | some b =>
        simp [h1] at hp; simp [h2] at he
        subst hp; subst he
        exact h.ord i a b h1 h2
  · obtain ⟨i, hi⟩ := List.mem_iff_getElem?.1 hn
    exact (inB_t.1 (h.floor i n hi)).1
  · obtain ⟨i, hi⟩ := List.mem_iff_getElem?.1 hn
    exact inB_t.1 (h.last i n hi)

theorem incr_len {l : List Int} {lo hi : Int} (h : l.Pairwise (· < ·)) (hr : ∀ n ∈ l, lo ≤ n ∧ n ≤ hi) (hlh : lo ≤ hi + 1) : (l.length : Int) ≤ hi - lo + 1 := by
  induction l generalizing lo with
  | nil => simp; omega
  | cons a l ih =>
    have ha := hr a List.mem_cons_self
    obtain ⟨h1, h2⟩ := List.pairwise_cons.1 h
    have := ih (lo := a + 1) h2 (fun n hn => ⟨by have := h1 n hn; omega, (hr n (List.mem_cons_of_mem _ hn)).2⟩) (by omega)
    simp only [List.length_cons]; omega

theorem good_len {g : Game} (h : Good g) : g.ents.length ≤ 4 := by
  have := incr_len (lo := 1) (hi := 4) h.ord (fun n hn => by
    obtain ⟨e, he, rfl⟩ := List.mem_map.1 hn
    have := h.ent e he; omega) (by omega)
  simp at this; omega
theorem good_gold {g : Game} (h : Good g) : ∀ e ∈ g.ents, e.gold ≤ 20 := fun e he => by
  obtain ⟨i, hi⟩ := List.mem_iff_getElem?.1 he
  have := (good_ok h).ent i e hi
  simp only [entOk, Bool.and_eq_true, inB_t] at this
  omega
theorem good_floor {g : Game} (h : Good g) : ∀ n ∈ g.floor, n ≤ 20 := fun n hn => by
  obtain ⟨i, hi⟩ := List.mem_iff_getElem?.1 hn
  exact (inB_t.1 ((good_ok h).floor i n hi)).2
theorem good_fit {g : Game} (h : Good g) : Fit g := by
  refine ⟨by have := good_len h; omega, h.nfloor, h.nlast, fun i e he => ?_, fun i n hn => ?_⟩
  · have hm := List.mem_of_getElem? he
    have := h.ent e hm
    have := good_gold h e hm
    omega
  · have hm := List.mem_of_getElem? hn
    have := h.floor n hm
    have := good_floor h n hm
    omega
theorem good_life {g : Game} (h : Good g) : LifeOk g := fun i e he => by
  have := h.ent e (List.mem_of_getElem? he)
  omega

theorem sum_set {l : List Int} {i : Nat} {a v : Int} (h : l[i]? = some a) : (l.set i v).sum = l.sum - a + v := by
  induction l generalizing i with
  | nil => simp at h
  | cons b l ih =>
    cases i with
    | zero => simp at h; subst h; simp; omega
    | succ i =>
      simp at h
      have := ih (i := i) (by simpa using h)
      simp [this]; omega
theorem sum_setEnt {l : List Ent} {k : Int} {e : Ent} (h : k.toNat < l.length) : ((setEnt l k e).map Ent.gold).sum = (l.map Ent.gold).sum - (entAt l k).gold + e.gold := by
  unfold setEnt
  rw [List.map_set, sum_set (a := (entAt l k).gold) (by simp [entAt, h])]
theorem clients_setEnt {l : List Ent} {k : Int} {e : Ent} (h : k.toNat < l.length) (hc : e.client = (entAt l k).client) : (setEnt l k e).map Ent.client = l.map Ent.client := by
  unfold setEnt
  rw [List.map_set, hc]
  apply List.ext_getElem?
  intro i
  rw [List.getElem?_set]
  split
  · rename_i hi
    subst hi
    simp [entAt, h]
  · rfl
theorem mem_set {α : Type} {l : List α} {i : Nat} {a b : α} (h : b ∈ l.set i a) : b = a ∨ b ∈ l := by
  rcases List.mem_or_eq_of_mem_set h with h | h
  · exact .inr h
  · exact .inl h
theorem entAt_mem {l : List Ent} {k : Int} (h : k.toNat < l.length) : entAt l k ∈ l := List.mem_of_getElem? (entAt_get h)
theorem intAt_mem {l : List Int} {k : Int} (h : k.toNat < l.length) : intAt l k ∈ l := List.mem_of_getElem? (intAt_get h)
theorem sum_addAt {l : List Int} {k n : Int} (h : k.toNat < l.length) : (addAt l k n).sum = l.sum + n := by
  unfold addAt
  rw [sum_set (intAt_get h)]; omega
theorem at4_lt {e : Ent} (h : 0 ≤ e.x ∧ e.x ≤ 3 ∧ 0 ≤ e.y ∧ e.y ≤ 3) : 0 ≤ at4 e ∧ (at4 e).toNat < 16 := by unfold at4; omega

def entOf (e : Ent) : Prop := 1 ≤ e.client ∧ e.client ≤ 4 ∧ 0 ≤ e.x ∧ e.x ≤ 3 ∧ 0 ≤ e.y ∧ e.y ≤ 3 ∧ 0 ≤ e.life ∧ e.life ≤ 3 ∧ 0 ≤ e.gold

/-- One figure is changed, and gold moves between it and the floor. -/
theorem good_set {g : Game} (h : Good g) {k : Int} {e : Ent} {fl : List Int} (hk : k.toNat < g.ents.length) (hc : e.client = (entAt g.ents k).client) (he : entOf e) (hf : ∀ n ∈ fl, 0 ≤ n) (hl : fl.length = 16) (hs : fl.sum + e.gold = g.floor.sum + (entAt g.ents k).gold) :
    Good ⟨setEnt g.ents k e, fl, g.last⟩ := by
  have := h.sum
  refine ⟨fun x hx => ?_, by rw [clients_setEnt hk hc]; exact h.ord, hf, h.last, hl, h.nlast, by show ((setEnt g.ents k e).map Ent.gold).sum + fl.sum = 20; rw [sum_setEnt hk]; omega⟩
  rcases mem_set hx with rfl | hx
  · exact he
  · exact h.ent x hx

theorem sum_erase {l : List Ent} {k : Nat} (h : k < l.length) : ((l.take k ++ l.drop (k + 1)).map Ent.gold).sum = (l.map Ent.gold).sum - (l[k]).gold := by
  have : l.map Ent.gold = (l.take k).map Ent.gold ++ (l[k]).gold :: (l.drop (k + 1)).map Ent.gold := by
    rw [← List.map_cons, ← List.map_append, List.getElem_cons_drop h, List.take_append_drop]
  rw [this]
  simp
  omega
theorem good_drop {x : GV} (k : Int) (hk : k.toNat < x.g.ents.length) (hx : Good ⟨setEnt x.g.ents k { entAt x.g.ents k with life := 0 }, x.g.floor, x.g.last⟩) : Good (dropV x k).g := by
  have hke : x.g.ents[k.toNat] = entAt x.g.ents k := by simp [entAt, hk]
  have he := hx.ent { entAt x.g.ents k with life := 0 } (by unfold setEnt; exact List.mem_of_getElem? (i := k.toNat) (by simp [hk]))
  have ha := at4_lt (e := entAt x.g.ents k) ⟨he.2.2.1, he.2.2.2.1, he.2.2.2.2.1, he.2.2.2.2.2.1⟩
  have hs := hx.sum
  have hsum : ((setEnt x.g.ents k { entAt x.g.ents k with life := 0 }).map Ent.gold).sum = (x.g.ents.map Ent.gold).sum := by rw [sum_setEnt hk]; simp
  have hcl := clients_setEnt (e := { entAt x.g.ents k with life := 0 }) hk rfl
  have hnf : x.g.floor.length = 16 := hx.nfloor
  refine ⟨fun e hm => ?_, ?_, fun n hn => ?_, hx.last, by simp [dropV, addAt, hnf], hx.nlast, ?_⟩
  · have : ∃ j, j ≠ k.toNat ∧ x.g.ents[j]? = some e := by
      rcases List.mem_append.1 hm with hm | hm
      · obtain ⟨j, hj⟩ := List.mem_iff_getElem?.1 hm
        rw [List.getElem?_take] at hj
        split at hj
        · exact ⟨j, by omega, hj⟩
        · simp at hj
      · obtain ⟨j, hj⟩ := List.mem_iff_getElem?.1 hm
        rw [List.getElem?_drop] at hj
        exact ⟨_, by omega, hj⟩
    obtain ⟨j, hj, hje⟩ := this
    exact hx.ent e (List.mem_of_getElem? (i := j) (by simp only [setEnt]; rw [List.getElem?_set_ne (by omega)]; exact hje))
  · have h1 := hx.ord
    rw [hcl] at h1
    have : ((dropV x k).g.ents.map Ent.client).Sublist (x.g.ents.map Ent.client) := by
      refine List.Sublist.map _ ?_
      show (x.g.ents.take k.toNat ++ x.g.ents.drop (k.toNat + 1)).Sublist _
      rw [← List.eraseIdx_eq_take_drop_succ]
      exact List.eraseIdx_sublist _ _
    exact h1.sublist this
  · rcases mem_set hn with rfl | hn
    · have := hx.floor _ (intAt_mem (k := at4 (entAt x.g.ents k)) (by rw [hnf]; exact ha.2))
      have := he.2.2.2.2.2.2.2.2
      simp at this
      show 0 ≤ intAt x.g.floor _ + (entAt x.g.ents k).gold
      simp at *
      omega
    · exact hx.floor n hn
  · show ((x.g.ents.take k.toNat ++ x.g.ents.drop (k.toNat + 1)).map Ent.gold).sum + (addAt x.g.floor (at4 (entAt x.g.ents k)) (entAt x.g.ents k).gold).sum = 20
    rw [sum_erase hk, sum_addAt (by rw [hnf]; exact ha.2), hke]
    rw [hsum] at hs
    simp at hs
    omega

theorem good_hit {x : GV} {k n : Int} (h : Good x.g) (hn : n < x.g.ents.length) : Good (hitV x k n).1.g := by
  unfold hitV
  split
  · exact h
  · rename_i hc
    have hn0 : 0 ≤ n := by
      apply Classical.byContradiction; intro hh; exact hc (.inl (by omega))
    have hnn : n.toNat < x.g.ents.length := by omega
    have he := h.ent _ (entAt_mem hnn)
    have set : ∀ z : Int, 0 ≤ z → z ≤ 3 → Good ⟨setEnt x.g.ents n { entAt x.g.ents n with life := z }, x.g.floor, x.g.last⟩ := fun z h0 h3 =>
      good_set h hnn rfl (by simp only [entOf]; omega) h.floor h.nfloor rfl
    dsimp only
    split
    · rename_i hz
      have hent : entAt (hurt x.g.ents n) n = { entAt x.g.ents n with life := (entAt x.g.ents n).life - 1 } := by
        simp only [entAt, hurt, setEnt]
        simp [hnn]
      refine good_drop (x := ⟨false, x.b, x.c, ⟨hurt x.g.ents n, x.g.floor, x.g.last⟩⟩) n (by simp [hurt, setEnt]; exact hnn) ?_
      show Good ⟨setEnt (hurt x.g.ents n) n { entAt (hurt x.g.ents n) n with life := 0 }, x.g.floor, x.g.last⟩
      rw [hent]
      simp only [hurt, setEnt, List.set_set]
      exact set 0 (by omega) (by omega)
    · exact set _ (by omega) (by omega)

structure ReqOk (r : Req) : Prop where
  x : -1000 ≤ r.x ∧ r.x ≤ 1000
  y : -1000 ≤ r.y ∧ r.y ≤ 1000
  rest : reqNone r = true ∨ 1 ≤ r.client ∧ r.client ≤ 4 ∧ r.num ≤ 30 ∧ (r.op ≠ 2 → 0 ≤ r.y)
theorem ReqOk.into {r : Req} (h : ReqOk r) : ReqIn r := ⟨⟨h.x, h.y⟩, h.rest.imp id fun h => ⟨h.1, h.2.1⟩⟩

theorem good_act {x : GV} {k : Int} {r : Req} (h : Good x.g) (h0 : 0 ≤ k) (h1 : k < x.g.ents.length) (hy : r.op ≠ 2 → 0 ≤ r.y) : Good (actV x k r).1.g := by
  have hkk : k.toNat < x.g.ents.length := by omega
  have he := h.ent _ (entAt_mem hkk)
  have ha := at4_lt (e := entAt x.g.ents k) ⟨he.2.2.1, he.2.2.2.1, he.2.2.2.2.1, he.2.2.2.2.2.1⟩
  unfold actV
  dsimp only
  split
  · split
    · exact h
    · rename_i hc
      have hc1 : inB ((entAt x.g.ents k).x + r.x) 0 3 = true := by
        cases hb : inB ((entAt x.g.ents k).x + r.x) 0 3 with
        | true => rfl
        | false => exact absurd (.inl hb) hc
      have hc2 : inB ((entAt x.g.ents k).y + r.y) 0 3 = true := by
        cases hb : inB ((entAt x.g.ents k).y + r.y) 0 3 with
        | true => rfl
        | false => exact absurd (.inr hb) hc
      have := inB_t.1 hc1
      have := inB_t.1 hc2
      exact good_set h hkk rfl (by simp only [entOf]; omega) h.floor h.nfloor rfl
  · rename_i h2
    split
    · split
      · exact h
      · rename_i hz
        have hm := intAt_mem (l := x.g.floor) (k := at4 (entAt x.g.ents k)) (by rw [h.nfloor]; exact ha.2)
        have hm0 := h.floor _ hm
        refine good_set h hkk rfl (by simp only [entOf]; omega) (fun n hn => ?_) (by simp [addAt, h.nfloor]) ?_
        · rcases mem_set hn with rfl | hn
          · omega
          · exact h.floor n hn
        · rw [sum_addAt (by rw [h.nfloor]; exact ha.2)]; dsimp only; omega
    · split
      · exact good_hit h (by rcases atF_spec x.g.ents r.x with ⟨h, _⟩ | ⟨i, h, hi, _⟩ <;> omega)
      · split
        · exact h
        · rename_i hc
          split
          · exact h
          · rename_i hg
            have hn0 : 0 ≤ atF x.g.ents r.x := by
              apply Classical.byContradiction; intro hh; exact hc (.inl (by omega))
            have hnk : atF x.g.ents r.x ≠ k := fun hh => hc (.inr (.inl hh))
            have hnn : (atF x.g.ents r.x).toNat < x.g.ents.length := by rcases atF_spec x.g.ents r.x with ⟨h, _⟩ | ⟨i, h, hi, _⟩ <;> omega
            have hen := h.ent _ (entAt_mem hnn)
            generalize atF x.g.ents r.x = n at *
            have hy := hy (by assumption)
            have hE : entAt (setEnt x.g.ents n { entAt x.g.ents n with gold := (entAt x.g.ents n).gold + r.y }) k = entAt x.g.ents k := by
              simp only [entAt, setEnt]
              rw [List.getElem?_set_ne (by omega)]
            have hsm := h.sum
            refine ⟨fun e hm => ?_, ?_, h.floor, h.last, h.nfloor, h.nlast, ?_⟩
            · rcases mem_set hm with rfl | hm
              · dsimp only; omega
              · rcases mem_set hm with rfl | hm
                · dsimp only; omega
                · exact h.ent e hm
            · show (List.map Ent.client (setEnt (setEnt _ _ _) _ _)).Pairwise _
              rw [clients_setEnt (by simp [setEnt]; exact hkk) (by rw [hE]), clients_setEnt (e := { entAt x.g.ents n with gold := (entAt x.g.ents n).gold + r.y }) hnn rfl]
              exact h.ord
            · show (List.map Ent.gold (setEnt (setEnt _ _ _) _ _)).sum + _ = 20
              rw [sum_setEnt (by simp [setEnt]; exact hkk), sum_setEnt hnn, hE]
              dsimp only
              omega

theorem take_len {α : Type} {A B l : List α} (h : A ++ B = l) : l.take A.length = A := by subst h; simp
theorem drop_len {α : Type} {A B l : List α} (h : A ++ B = l) : l.drop A.length = B := by subst h; simp
theorem good_join {g : Game} {c : Int} (h : Good g) (h0 : 1 ≤ c) (h1 : c ≤ 4) (hno : ∀ (j : Nat) e, g.ents[j]? = some e → e.client ≠ c) : Good ⟨joinF g.ents c, g.floor, g.last⟩ := by
  have hj : joinF g.ents c = g.ents.takeWhile (fun e => decide (e.client < c)) ++ [⟨c, c - 1, c - 1, 3, 0⟩] ++ g.ents.dropWhile (fun e => decide (e.client < c)) := by
    unfold joinF under
    have hp := List.takeWhile_append_dropWhile (p := fun e : Ent => decide (e.client < c)) (l := g.ents)
    have ht : g.ents.take (g.ents.takeWhile (fun e => decide (e.client < c))).length = g.ents.takeWhile (fun e => decide (e.client < c)) := by
      exact take_len hp
    have hd : g.ents.drop (g.ents.takeWhile (fun e => decide (e.client < c))).length = g.ents.dropWhile (fun e => decide (e.client < c)) := by
      exact drop_len hp
    rw [ht, hd]
  have hp := List.takeWhile_append_dropWhile (p := fun e : Ent => decide (e.client < c)) (l := g.ents)
  have hA : ∀ e ∈ g.ents.takeWhile (fun e => decide (e.client < c)), e.client < c := fun e he => by
    have := List.all_eq_true.1 (List.all_takeWhile (p := fun e : Ent => decide (e.client < c)) (l := g.ents)) e he
    simpa using this
  have hB : ∀ e ∈ g.ents.dropWhile (fun e => decide (e.client < c)), c < e.client := by
    have hpw := h.ord
    rw [← hp, List.map_append, List.pairwise_append] at hpw
    have hpw := hpw.2.1
    have hsub : ∀ e ∈ g.ents.dropWhile (fun e => decide (e.client < c)), e.client ≠ c := fun e he => by
      have : e ∈ g.ents := (List.dropWhile_sublist _).subset he
      obtain ⟨j, hj⟩ := List.mem_iff_getElem?.1 this
      exact hno j e hj
    cases hd : g.ents.dropWhile (fun e => decide (e.client < c)) with
    | nil => simp
    | cons a B =>
      have hhead : ¬ a.client < c := by
        have := List.head?_dropWhile_not (fun e : Ent => decide (e.client < c)) g.ents
        rw [hd] at this
        simpa using this
      rw [hd] at hpw hsub
      have ha := hsub a List.mem_cons_self
      intro e he
      rcases List.mem_cons.1 he with rfl | he
      · omega
      · have := (List.pairwise_cons.1 (by simpa using hpw : ((a.client :: B.map Ent.client).Pairwise (· < ·)))).1 e.client (List.mem_map.2 ⟨e, he, rfl⟩)
        omega
  have hs := h.sum
  have ho := h.ord
  have he := h.ent
  rw [← hp] at hs ho he
  rw [hj]
  generalize g.ents.takeWhile (fun e => decide (e.client < c)) = A at *
  generalize g.ents.dropWhile (fun e => decide (e.client < c)) = B at *
  refine ⟨fun e hm => ?_, ?_, h.floor, h.last, h.nfloor, h.nlast, ?_⟩
  · simp only [List.append_assoc, List.mem_append, List.mem_singleton] at hm
    rcases hm with hm | rfl | hm
    · exact he e (List.mem_append_left _ hm)
    · dsimp only; omega
    · exact he e (List.mem_append_right _ hm)
  · rw [List.map_append, List.pairwise_append] at ho
    obtain ⟨o1, o2, o3⟩ := ho
    simp only [List.map_append, List.map_cons, List.map_nil, List.append_assoc]
    rw [List.pairwise_append, List.pairwise_append]
    refine ⟨o1, ⟨List.pairwise_singleton _ _, o2, fun p hp q hq => ?_⟩, fun p hp q hq => ?_⟩
    · simp at hp; subst hp
      obtain ⟨e, he', rfl⟩ := List.mem_map.1 hq
      exact hB e he'
    · obtain ⟨e, he', rfl⟩ := List.mem_map.1 hp
      rcases List.mem_append.1 hq with hq | hq
      · simp at hq; subst hq; exact hA e he'
      · exact o3 _ (List.mem_map.2 ⟨e, he', rfl⟩) _ hq
  · simp only [List.map_append, List.sum_append, List.map_cons, List.map_nil, List.sum_cons, List.sum_nil] at hs ⊢
    omega

theorem good_do {x : GV} {r : Req} (h : Good x.g) (hr : ReqOk r) : Good (doV x r).1.g := by
  unfold doV
  split
  · exact h
  · rename_i hno
    have hr := hr.rest.resolve_left hno
    split
    · exact h
    · rename_i hn
      have hm := intAt_mem (l := x.g.last) (k := r.client - 1) (by rw [h.nlast]; omega)
      have := h.last _ hm
      have hy : Good ⟨x.g.ents, x.g.floor, x.g.last.set (r.client - 1).toNat r.num⟩ := ⟨h.ent, h.ord, h.floor, fun n hn => by
        rcases mem_set hn with rfl | hn
        · omega
        · exact h.last n hn, h.nfloor, by simp [h.nlast], h.sum⟩
      dsimp only
      split
      · split
        · exact hy
        · rename_i hat
          refine good_join hy hr.1 hr.2.1 ?_
          rcases atF_spec x.g.ents r.client with ⟨_, hh⟩ | ⟨i, hh, _⟩
          · exact hh
          · omega
      · split
        · exact hy
        · exact good_act hy (by omega) (by rcases atF_spec x.g.ents r.client with ⟨h, _⟩ | ⟨i, h, hi, _⟩ <;> (show atF x.g.ents r.client < x.g.ents.length; omega)) hr.2.2.2

theorem good_new : Good newG := by
  refine ⟨by simp [newG], by simp [newG], ?_, ?_, by simp [newG, newFl_len], by simp [newG], by decide⟩
  · decide
  · decide
end Go.Proofs.Ytnnmkenloijkcaa
