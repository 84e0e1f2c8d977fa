/- The engine, part U: a region that draws its order is sound, by a check of its edges. -/
import Derived.Test.YtnnmkenloijkcaaEngT
set_option linter.unusedVariables false
set_option linter.unusedSimpArgs false
namespace Go.Proofs.Ytnnmkenloijkcaa.Eng
open Go

variable {T : Tab} {G : Nat → V} {C : Ctr} {ops : Array Oper} {o x y : Oper} {s t : St} {K : St → Prop} {E : Env} {a : Act} {w : World} {g : Gh}

mutual
theorem wf_of_rep {w : World} {g : Gh} {hp : Nat → Obj} : ∀ (v : V) (u : Value), RepV w g hp v u → WFv hp v
  | .undef, _, _ => trivial
  | .d _, _, _ => trivial
  | .ref .., u, h => by simp only [RepV] at h; exact h.1
  | .own _, u, h => by simp only [RepV] at h; exact h.1
  | .osl .., u, h => by simp only [RepV] at h; exact h.1
  | .agg cs, u, h => by simp only [RepV] at h; obtain ⟨us, _, h⟩ := h; simp only [WFv]; exact wfs_of_rep cs _ h
  | .tup cs, u, h => by simp only [RepV] at h; obtain ⟨us, _, h⟩ := h; simp only [WFv]; exact wfs_of_rep cs _ h
  | .clo f cs, u, h => by simp only [RepV] at h; obtain ⟨us, _, h⟩ := h; simp only [WFv]; exact wfs_of_rep cs _ h
theorem wfs_of_rep {w : World} {g : Gh} {hp : Nat → Obj} : ∀ (vs : List V) (us : List Value), RepVs w g hp vs us → WFvs hp vs
  | [], _, _ => trivial
  | c :: cs, us, h => by
    simp only [RepVs] at h
    obtain ⟨u, us', _, h1, h2⟩ := h
    exact ⟨wf_of_rep c u h1, wfs_of_rep cs us' h2⟩
end

theorem wf_of_rel (h : Rel E s a w g) : WF E.glob s := by
  refine ⟨fun i => wf_of_rep _ _ (h.slots i), fun i cells hi => ?_, fun k => ?_⟩
  · have := h.objs i
    rw [hi] at this
    obtain ⟨b, us, e, _, _, q, _⟩ := this
    exact wfs_of_rep _ _ q
  · have := wf_of_rep _ _ (h.globs k)
    exact WFv.mono (fun i hi => by simp [Obj.used] at hi) _ this

theorem bindsB_eq (e : Edge) : Region.binds .any e = bindsB e := by
  unfold Region.binds bindsB
  cases e.ground <;> rfl

/-- What comes before an operation in each order. -/
def Down (ops : List Oper) (S : Nat → Prop) : Prop := ∀ k o, ops[k]? = some o → S k → ∀ e, e ∈ o.after.toList → bindsB e = true → S e.on

theorem maskOf_ok {ms : List Nat} {S : Nat → Prop} (hm : ∀ i m, ms[i]? = some m → S i → ∀ j, m.testBit j = true → S j) : ∀ (es : List Edge), (∀ e, e ∈ es → bindsB e = true → S e.on) → ∀ j, (maskOf ms es).testBit j = true → S j
  | [], _, j, h => by simp [maskOf] at h
  | e :: es, hS, j, h => by
    unfold maskOf at h
    have ih := maskOf_ok hm es (fun e he => hS e (List.mem_cons_of_mem _ he)) j
    split at h
    · rename_i hb
      have h' : ((2 ^ e.on ||| ms.getD e.on 0) ||| maskOf ms es).testBit j = true := h
      simp only [Nat.testBit_or, Bool.or_eq_true, Nat.testBit_two_pow, decide_eq_true_eq] at h'
      have hon := hS e List.mem_cons_self hb
      rcases h' with (h' | h') | h'
      · exact h' ▸ hon
      · rw [List.getD_eq_getElem?_getD] at h'
        cases hg : ms[e.on]? with
        | none => simp [hg] at h'
        | some m => exact hm _ m hg hon j (by simpa [hg] using h')
      · exact ih h'
    · exact ih h

theorem masks_ok {all : List Oper} {S : Nat → Prop} (hS : Down all S) : ∀ (l : List Oper) (acc : List Nat), (∀ k, l[k]? = all[acc.length + k]?) →
    (∀ i m, acc[i]? = some m → S i → ∀ j, m.testBit j = true → S j) → ∀ i m, (masks l acc)[i]? = some m → S i → ∀ j, m.testBit j = true → S j
  | [], acc, _, hm => hm
  | o :: l, acc, hl, hm => by
    unfold masks
    refine masks_ok hS l _ (fun k => ?_) fun i m hi hSi j hj => ?_
    · have := hl (k + 1)
      simp only [List.getElem?_cons_succ] at this
      rw [this]; simp [Nat.add_comm, Nat.add_left_comm]
    · rw [List.getElem?_append] at hi
      split at hi
      · exact hm i m hi hSi j hj
      · rename_i hlt
        have hi0 : i = acc.length := by
          rw [List.getElem?_singleton] at hi
          split at hi
          · omega
          · simp at hi
        subst hi0
        simp at hi
        subst hi
        have ho : all[acc.length]? = some o := by rw [← Nat.add_zero acc.length, ← hl 0]; rfl
        exact maskOf_ok hm _ (fun e he hb => hS _ _ ho hSi e he hb) j hj

/-- The check of a region's edges. -/
def drawB (l : List Oper) (ops : Array Oper) : Bool :=
  let ms := masks l []
  (List.range l.length).all fun i => match l[i]? with
    | none => false
    | some o => (o.after.toList.all fun e => !bindsB e || Nat.blt e.on i) &&
        (List.range i).all fun j => match l[j]? with
          | none => false
          | some x => (ms.getD i 0).testBit j || slotApart ops x o

theorem specials_none {kd : FuncId → Bool} {l : List Oper} (h : l.any (fun o => isW kd o.op) = false) : specialsOf kd l = [] := by
  unfold specialsOf
  simp only [List.flatMap_eq_nil_iff, List.map_eq_nil_iff, List.filter_eq_nil_iff]
  intro i _ j _
  have hn : ∀ (k : Nat) (o : Oper), l[k]? = some o → isW kd o.op = false := fun k o hk => by
    cases hs : isW kd o.op with
    | false => rfl
    | true =>
      have := List.any_eq_true (p := fun o : Oper => isW kd o.op).2 ⟨o, List.mem_of_getElem? hk, hs⟩
      rw [h] at this; simp at this
  split
  · rename_i o x ho hx
    simp [hn _ _ ho, hn _ _ hx]
  · simp

theorem specials_mem {kd : FuncId → Bool} {l : List Oper} {i j : Nat} {o x : Oper} (ho : l[i]? = some o) (hx : l[j]? = some x) (hji : j < i) (hm : ((masks l []).getD i 0).testBit j = false) (hs : (isW kd o.op || isW kd x.op) = true) : (j, i) ∈ specialsOf kd l := by
  unfold specialsOf
  simp only [List.mem_flatMap, List.mem_map, List.mem_filter, List.mem_range]
  have hi : i < l.length := by
    rcases List.getElem?_eq_some_iff.1 ho with ⟨h, _⟩; exact h
  exact ⟨i, hi, j, ⟨hji, by simp only [ho, hx, hm, hs]; rfl⟩, rfl⟩

theorem ready_spec {listed : Array Bool} {i : Nat} : i ∈ Region.ready .any ops listed ↔ i < ops.size ∧ listed.getD i true = false ∧ ∃ o, ops[i]? = some o ∧ ∀ e, e ∈ o.after.toList → bindsB e = true → listed.getD e.on false = true := by
  unfold Region.ready
  simp only [List.mem_filter, List.mem_range, Bool.and_eq_true, Bool.not_eq_true']
  refine and_congr_right fun hi => and_congr_right fun hl => ?_
  cases ho : ops[i]? with
  | none => simp
  | some o =>
    simp only [Option.map_some, Option.getD_some, Array.all_eq_true_iff_forall_mem, Bool.or_eq_true, Bool.not_eq_true', bindsB_eq]
    constructor
    · intro h
      refine ⟨o, rfl, fun e he hb => ?_⟩
      rcases h e (by simpa using he) with h | h
      · rw [hb] at h; simp at h
      · exact h
    · rintro ⟨o', ho', h⟩ e he
      injection ho' with ho'
      subst ho'
      cases hb : bindsB e with
      | false => exact .inl rfl
      | true => exact .inr (h e (by simpa using he) hb)

structure Inv (C : Ctr) (ops : Array Oper) (L : List It) (listed : Array Bool) : Prop where
  op : ∀ x, x ∈ L → ops[x.i]? = some x.o
  ord : L.Pairwise (fun x y => x.i < y.i)
  size : listed.size = ops.size
  un : ∀ i, i < ops.size → (listed.getD i false = false ↔ ∃ x, x ∈ L ∧ x.i = i)
  down : Down ops.toList (fun k => listed.getD k false = true)
  ind : ∀ x y, x ∈ L → y ∈ L → x.i < y.i → ((masks ops.toList []).getD y.i 0).testBit x.i = false → Ind C ops x.o y.o x.ts y.ts

theorem getD_set {l : Array Bool} {i j : Nat} (hi : i < l.size) : (l.setIfInBounds i true).getD j false = if j = i then true else l.getD j false := by
  simp only [Array.getD_eq_getD_getElem?, Array.getElem?_setIfInBounds]
  by_cases h : i = j
  · subst h; simp [hi]
  · have h' : ¬ j = i := fun hh => h hh.symm
    simp [h, h']

theorem getD_tf {l : Array Bool} {i : Nat} (h : l.getD i true = false) : l.getD i false = false ∧ i < l.size := by
  simp only [Array.getD_eq_getD_getElem?] at h ⊢
  by_cases hi : i < l.size
  · refine ⟨?_, hi⟩
    simp [hi] at h ⊢; exact h
  · simp [Array.getElem?_eq_none (Nat.le_of_not_lt hi)] at h

theorem masks_len : ∀ (l : List Oper) (acc : List Nat), (masks l acc).length = acc.length + l.length
  | [], acc => by simp [masks]
  | o :: l, acc => by unfold masks; rw [masks_len l]; simp; omega

theorem draw_go {T : Tab} {C : Ctr} {Q : Exit → Act → World → Prop} {s' : St} (B : Base E T C) (hc : chkOps E.nt ops.toList = true) (hdb : drawB ops.toList ops = true)
    (hQ : ∀ a w g, Rel E s' a w g → Q .normal a w) : ∀ (fuel : Nat) (L : List It) (listed : Array Bool) (s : St) (a : Act) (w : World) (g : Gh), L.length ≤ fuel → Inv C ops L listed → Rel E s a w g → Run T E.glob C ops L s s' →
    wpAny E.P .any ops Q fuel listed a w := by
  have hback : ∀ i o, ops[i]? = some o → ∀ e, e ∈ o.after.toList → bindsB e = true → e.on < i := fun i o ho e he hb => by
    have ho' : ops.toList[i]? = some o := by simpa using ho
    have hi : i < ops.toList.length := (List.getElem?_eq_some_iff.1 ho').1
    have := List.all_eq_true.1 hdb i (List.mem_range.2 hi)
    simp only [ho', Bool.and_eq_true] at this
    have := List.all_eq_true.1 this.1 e he
    simp only [hb, Bool.not_true, Bool.false_or] at this
    exact Nat.le_of_ble_eq_true this
  have hready : ∀ (L : List It) (listed : Array Bool), Inv C ops L listed → Region.ready .any ops listed = [] → L = [] := fun L listed hI hr => by
    cases L with
    | nil => rfl
    | cons x L =>
      exfalso
      have hx := hI.op x List.mem_cons_self
      have hxs : x.i < ops.size := by
        rcases Array.getElem?_eq_some_iff.1 hx with ⟨h, _⟩; exact h
      have hun := (hI.un x.i hxs).2 ⟨x, List.mem_cons_self, rfl⟩
      have : x.i ∈ Region.ready .any ops listed := ready_spec.2 ⟨hxs, by
        simp only [Array.getD_eq_getD_getElem?] at hun ⊢
        have : x.i < listed.size := by rw [hI.size]; exact hxs
        simp [this] at hun ⊢; exact hun, x.o, hx, fun e he hb => by
        have hlt := hback _ _ hx e he hb
        cases hl : listed.getD e.on false with
        | true => rfl
        | false =>
          obtain ⟨y, hy, hyi⟩ := (hI.un e.on (by omega)).1 hl
          rcases List.mem_cons.1 hy with rfl | hy
          · omega
          · have := (List.pairwise_cons.1 hI.ord).1 y hy
            omega⟩
      rw [hr] at this
      simp at this
  intro fuel
  induction fuel with
  | zero =>
    intro L listed s a w g hlen hI hR hrun
    have hL : L = [] := by cases L with | nil => rfl | cons x L => simp at hlen
    subst hL
    simp only [Run] at hrun
    subst hrun
    refine ⟨?_, hQ _ _ _ hR⟩
    cases hr : Region.ready .any ops listed with
    | nil => rfl
    | cons i r =>
      have hi : i ∈ Region.ready .any ops listed := by rw [hr]; exact List.mem_cons_self
      obtain ⟨h1, h2, _⟩ := ready_spec.1 hi
      obtain ⟨x, hx, _⟩ := (hI.un i h1).1 (getD_tf h2).1
      simp at hx
  | succ fuel ih =>
    intro L listed s a w g hlen hI hR hrun
    refine ⟨fun hr => ?_, fun i hi => ?_⟩
    · have hL := hready L listed hI hr
      subst hL
      simp only [Run] at hrun
      subst hrun
      exact hQ _ _ _ hR
    · obtain ⟨his, hil, o, ho, hpre⟩ := ready_spec.1 hi
      obtain ⟨hil', hils⟩ := getD_tf hil
      obtain ⟨x, hx, hxi⟩ := (hI.un i his).1 hil'
      subst hxi
      have hxo := hI.op x hx
      rw [ho] at hxo
      injection hxo with hxo
      obtain ⟨L1, L2, rfl⟩ := List.append_of_mem hx
      have hord := hI.ord
      rw [List.pairwise_append] at hord
      obtain ⟨ho1, ho2, ho3⟩ := hord
      have ho2' := List.pairwise_cons.1 ho2
      have hlt1 : ∀ y, y ∈ L1 → y.i < x.i := fun y hy => ho3 y hy x List.mem_cons_self
      have hgt2 : ∀ y, y ∈ L2 → x.i < y.i := fun y hy => ho2'.1 y hy
      have hno : ∀ y, y ∈ L1 → ((masks ops.toList []).getD x.i 0).testBit y.i = false := fun y hy => by
        cases hb : ((masks ops.toList []).getD x.i 0).testBit y.i with
        | false => rfl
        | true =>
          exfalso
          have hmx : x.i < (masks ops.toList []).length := by rw [masks_len]; simpa using his
          have hget : (masks ops.toList [])[x.i]? = some ((masks ops.toList []).getD x.i 0) := by
            rw [List.getD_eq_getElem?_getD]; simp [hmx]
          have hS : Down ops.toList (fun k => listed.getD k false = true ∨ k = x.i) := fun k o' hk hSk e he hb' => by
            rcases hSk with hSk | rfl
            · exact .inl (hI.down k o' hk hSk e he hb')
            · have : ops.toList[x.i]? = some o := by simpa using ho
              rw [this] at hk
              injection hk with hk
              subst hk
              exact .inl (hpre e he hb')
          have := masks_ok hS ops.toList [] (by simp) (by simp) x.i _ hget (.inr rfl) y.i hb
          rcases this with h | h
          · have hy' := (hI.un y.i (by have := hlt1 y hy; omega)).2 ⟨y, List.mem_append_left _ hy, rfl⟩
            rw [h] at hy'; simp at hy'
          · have := hlt1 y hy; omega
      have hwf := wf_of_rel hR
      have hrun' := Run.move L1 s hwf (fun y hy => hI.ind y x (List.mem_append_left _ hy) hx (hlt1 y hy) (hno y hy)) hrun
      simp only [Run] at hrun'
      obtain ⟨_, δ, hδ, hrun'⟩ := hrun'
      have hstep := hδ.again s (AgreeG.refl _ _ _ _) (fun u => u = δ.app s) rfl
      have hI' : Inv C ops (L1 ++ L2) (listed.setIfInBounds x.i true) := by
        have hsub : ∀ y, y ∈ L1 ++ L2 → y ∈ L1 ++ x :: L2 := fun y hy => by
          rcases List.mem_append.1 hy with hy | hy
          · exact List.mem_append_left _ hy
          · exact List.mem_append_right _ (List.mem_cons_of_mem _ hy)
        have hne : ∀ y, y ∈ L1 ++ L2 → y.i ≠ x.i := fun y hy => by
          rcases List.mem_append.1 hy with hy | hy
          · have := hlt1 y hy; omega
          · have := hgt2 y hy; omega
        refine ⟨fun y hy => hI.op y (hsub y hy), List.pairwise_append.2 ⟨ho1, ho2'.2, fun y hy z hz => ho3 y hy z (List.mem_cons_of_mem _ hz)⟩, by simp [hI.size], fun k hk => ?_, fun k o' hk hSk e he hb => ?_, fun y z hy hz => hI.ind y z (hsub y hy) (hsub z hz)⟩
        · rw [getD_set hils]
          split
          · rename_i hkx
            subst hkx
            simp only [Bool.true_eq_false, false_iff, not_exists, not_and]
            exact fun y hy => hne y hy
          · rename_i hkx
            rw [hI.un k hk]
            constructor
            · rintro ⟨y, hy, hyk⟩
              refine ⟨y, ?_, hyk⟩
              rcases List.mem_append.1 hy with hy | hy
              · exact List.mem_append_left _ hy
              · rcases List.mem_cons.1 hy with rfl | hy
                · exact absurd hyk.symm hkx
                · exact List.mem_append_right _ hy
            · rintro ⟨y, hy, hyk⟩
              exact ⟨y, hsub y hy, hyk⟩
        · have hSk : (listed.setIfInBounds x.i true).getD k false = true := hSk
          show (listed.setIfInBounds x.i true).getD e.on false = true
          rw [getD_set hils] at hSk ⊢
          split
          · rfl
          · split at hSk
            · rename_i hkx
              subst hkx
              have : ops.toList[x.i]? = some o := by simpa using ho
              rw [this] at hk
              injection hk with hk
              subst hk
              exact hpre e he hb
            · exact hI.down k o' hk hSk e he hb
      have hcx : ∀ d, x.o.dst = some d → d < E.nt := chkOps_ok hc (by have := Array.mem_of_getElem? ho; rw [hxo] at this; simpa using this)
      have hnext := aStep_sound (Q := Q) (P' := []) (next := wpAny E.P .any ops Q fuel (listed.setIfInBounds x.i true)) B hR hcx hstep fun s1 a1 w1 g1 hk1 hR1 => by
        subst hk1
        exact ih (L1 ++ L2) _ _ a1 w1 g1 (by simp at hlen ⊢; omega) hI' hR1 hrun'
      unfold wpOp
      simp only [ho, hxo]
      split at hnext
      · rename_i hw; rw [if_pos hw]; exact .inl hnext
      · rename_i hw; rw [if_neg hw]; exact hnext

theorem draw_ok {T : Tab} {C : Ctr} (B : Base E T C) (hm : E.P.follows .mixedOrders = true) (hc : chkOps E.nt ops.toList = true) (hdb : drawB ops.toList ops = true) : DrawOk E T C ops := by
  intro id s a w g K Q hR hk hn
  refine wp_region_any hm ?_
  have hwf := wf_of_rel hR
  have main : ∀ (L : List It) (s' : St), L.map It.i = List.range' 0 ops.toList.length → L.map It.o = ops.toList → Run T E.glob C ops L s s' → K s' → disjB (L.map It.ts) (specialsOf C.kind ops.toList) = true →
      wpAny E.P .any ops Q ops.size (Array.replicate ops.size false) a { w with drawn := w.drawn + 1 } := fun L s' h1 h2 hrun hK hdis => by
    have hlen : L.length = ops.size := by have := congrArg List.length h2; simpa using this
    have hix : ∀ (k : Nat) (x : It), L[k]? = some x → x.i = k ∧ ops[k]? = some x.o := fun k x hk => by
      have e1 : (L.map It.i)[k]? = some x.i := by simp [hk]
      have e2 : (L.map It.o)[k]? = some x.o := by simp [hk]
      rw [h1] at e1
      rw [h2] at e2
      have hlt := (List.getElem?_eq_some_iff.1 hk).1
      rw [List.getElem?_range' (by simpa [hlen] using hlt)] at e1
      simp at e1
      exact ⟨e1.symm, by simpa using e2⟩
    refine draw_go B hc hdb (s' := s') (fun a w g hR' => hn s' a w g hK hR') ops.size L _ s a _ g (Nat.le_of_eq hlen) ⟨fun x hx => ?_, ?_, by simp, fun i hi => ?_, fun k o hk hSk => ?_, fun x y hx hy hxy hm' => ?_⟩ (rel_drawn hR _) hrun
    · obtain ⟨k, hk⟩ := List.mem_iff_getElem?.1 hx
      obtain ⟨q1, q2⟩ := hix k x hk
      rw [q1]; exact q2
    · have : (L.map It.i).Pairwise (· < ·) := by rw [h1]; exact List.pairwise_lt_range'
      exact List.pairwise_map.1 this
    · have hget : (Array.replicate ops.size false).getD i false = false := by
        simp [Array.getD_eq_getD_getElem?, Array.getElem?_replicate, hi]
      rw [hget]
      simp only [true_iff]
      have : i < L.length := by omega
      exact ⟨L[i], List.getElem_mem this, (hix i L[i] (by simp [this])).1⟩
    · have hSk : (Array.replicate ops.size false).getD k false = true := hSk
      rw [Array.getD_eq_getD_getElem?, Array.getElem?_replicate] at hSk
      split at hSk <;> simp at hSk
    · obtain ⟨kx, hkx⟩ := List.mem_iff_getElem?.1 hx
      obtain ⟨ky, hky⟩ := List.mem_iff_getElem?.1 hy
      obtain ⟨p1, p2⟩ := hix kx x hkx
      obtain ⟨q1, q2⟩ := hix ky y hky
      have p2' : ops.toList[x.i]? = some x.o := by rw [p1]; simpa using p2
      have q2' : ops.toList[y.i]? = some y.o := by rw [q1]; simpa using q2
      refine ⟨?_, fun hs => ?_⟩
      · have hi : y.i < ops.toList.length := (List.getElem?_eq_some_iff.1 q2').1
        have := List.all_eq_true.1 hdb y.i (List.mem_range.2 hi)
        simp only [q2', Bool.and_eq_true] at this
        have := List.all_eq_true.1 this.2 x.i (List.mem_range.2 hxy)
        simp only [p2', hm', Bool.false_or] at this
        exact this
      · have hmem := specials_mem q2' p2' hxy hm' (by rw [Bool.or_comm]; exact hs)
        have := List.all_eq_true.1 hdis _ hmem
        have e1 : (L.map It.ts).getD x.i [] = x.ts := by rw [List.getD_eq_getElem?_getD, p1]; simp [hkx]
        have e2 : (L.map It.ts).getD y.i [] = y.ts := by rw [List.getD_eq_getElem?_getD, q1]; simp [hky]
        simp only [e1, e2] at this
        exact this
  unfold aDraw at hk
  split at hk
  · rename_i hst
    obtain ⟨L, s', h1, h2, h3, h4⟩ := run_of_ops ops.toList 0 s hwf hk
    exact main L s' h1 h2 h3 h4 (by rw [specials_none hst]; rfl)
  · obtain ⟨L, s', h1, h2, h3, h4, h5⟩ := run_of_opsT ops.toList [] 0 s hwf hk
    exact main L s' h1 h2 h3 h4 (by simpa using h5)

/-- The check of a function's code. -/
def codeB (nt : Nat) : Code → Bool
  | .region _ ops draw => match draw with
    | true => chkOps nt ops.toList && drawB ops.toList ops
    | false => chkOps nt ops.toList
  | .seq a b => codeB nt a && codeB nt b
  | .cond _ a b => codeB nt a && codeB nt b
  | .block _ b => codeB nt b
  | .loop b => codeB nt b
  | _ => true

theorem codeB_ok {T : Tab} {C : Ctr} (B : Base E T C) (hm : E.P.follows .mixedOrders = true) : ∀ (c : Code), codeB E.nt c = true → CodeOk E T C c
  | .region _ ops draw, h => by
    cases draw with
    | true => simp only [codeB, Bool.and_eq_true] at h; exact draw_ok B hm h.1 h.2
    | false => simpa only [codeB, CodeOk] using h
  | .seq a b, h => by simp only [codeB, Bool.and_eq_true] at h; exact ⟨codeB_ok B hm a h.1, codeB_ok B hm b h.2⟩
  | .cond _ a b, h => by simp only [codeB, Bool.and_eq_true] at h; exact ⟨codeB_ok B hm a h.1, codeB_ok B hm b h.2⟩
  | .block _ b, h => codeB_ok B hm b (by simpa only [codeB] using h)
  | .loop b, h => codeB_ok B hm b (by simpa only [codeB] using h)
  | .skip, _ => trivial
  | .exit _, _ => trivial
  | .ret, _ => trivial
  | .scope _, _ => trivial
  | .label _, _ => trivial
  | .goto _, _ => trivial
  | .refuse _, _ => trivial
  | .rangeFunc .., _ => trivial

end Go.Proofs.Ytnnmkenloijkcaa.Eng
