/- The engine, part T: a region that draws its order. -/
import Derived.Test.YtnnmkenloijkcaaEngS
set_option linter.unusedVariables false
set_option linter.unusedSimpArgs false
namespace Go.Proofs.Ytnnmkenloijkcaa.Eng
open Go

variable {T : Tab} {G : Nat → V} {C : Ctr} {ops : Array Oper} {o x y : Oper} {s t : St} {K : St → Prop} {E : Env} {a : Act} {w : World} {g : Gh}

def guardSlot (ops : Array Oper) (o : Oper) : Option Nat := match o.guard with | some (j, _) => (ops[j]?).bind (·.dst) | none => none
def looks (ops : Array Oper) (o : Oper) : List Nat := (o.op.operands.toList.filterMap fun x => match x with | .tmp t => some t | _ => none) ++ (guardSlot ops o).toList
def slotApart (ops : Array Oper) (x y : Oper) : Bool :=
  (match x.dst with | some d => !(looks ops y).contains d && y.dst != some d | none => true) &&
  (match y.dst with | some d => !(looks ops x).contains d | none => true)

structure AgreeG (G : Nat → V) (ops : Array Oper) (o : Oper) (s t : St) : Prop extends Agree G o s t where
  grd : ∀ gs, guardSlot ops o = some gs → t.sl gs = s.sl gs

theorem AgreeG.refl (G : Nat → V) (ops : Array Oper) (o : Oper) (s : St) : AgreeG G ops o s s := ⟨⟨fun _ _ => rfl, fun _ _ _ _ _ => rfl, fun _ _ h => h⟩, fun _ _ => rfl⟩

theorem idsV_agree {hp hp' : Nat → Obj} {v : V} (h : ∀ id, id ∈ idsV hp v → hp' id = hp id) : idsV hp' v = idsV hp v := (pureV_agree h).2
theorem isW_heeds {kd : FuncId → Bool} {p : Op} (h : isW kd p = true) : heedless p = false := by
  cases p <;> simp [isW] at h <;> rfl
theorem idsT_agree {hp hp' : Nat → Obj} {v : V} (h : ∀ id, id ∈ idsT hp v → hp' id = hp id) : idsT hp' v = idsT hp v := by
  unfold idsT; rw [idsV_agree fun id hid => h id (idsT_of hid)]
theorem AgreeG.ids {s t : St} (h : AgreeG G ops o s t) (hh : heedless o.op = false) {z : Operand} (hz : z ∈ o.op.operands.toList) : idsT t.hp (ev G t z) = idsT s.hp (ev G s z) := by
  rw [h.ev z hz]; exact idsT_agree (h.hp hh z hz)
theorem AgreeG.touch {s t : St} (h : AgreeG G ops o s t) : touch G t o = touch G s o := by
  unfold Eng.touch
  split
  · rfl
  rename_i hh
  have : ∀ l : List Operand, (∀ z, z ∈ l → z ∈ o.op.operands.toList) → (l.flatMap fun x => idsT t.hp (ev G t x)) = l.flatMap fun x => idsT s.hp (ev G s x) := by
    intro l
    induction l with
    | nil => intro _; rfl
    | cons z l ih => intro hl; simp only [List.flatMap_cons]; rw [h.ids hh (hl z List.mem_cons_self), ih fun z hz => hl z (List.mem_cons_of_mem _ hz)]
  exact this _ fun _ h => h
theorem AgreeG.trans {s t u : St} (h : AgreeG G ops o s t) (k : AgreeG G ops o t u) : AgreeG G ops o s u := by
  refine ⟨⟨fun z hz => (k.ev z hz).trans (h.ev z hz), fun hh z hz id hid => ?_, fun d hd hn => k.fresh d hd (h.fresh d hd hn)⟩, fun gs hg => (k.grd gs hg).trans (h.grd gs hg)⟩
  rw [k.hp hh z hz id (by rw [h.ids hh hz]; exact hid), h.hp hh z hz id hid]

structure StepL (T : Tab) (G : Nat → V) (C : Ctr) (ops : Array Oper) (o : Oper) (s : St) (δ : Delta) : Prop where
  dst : δ.dst = o.dst
  wf : WF G (δ.app s)
  h : ∀ i ob, δ.h = some (i, ob) → ob.used = true ∧ ((True ∧ o.dst = some i ∧ s.hp i = .none) ∨ (isW C.kind o.op = true ∧ ∃ x, x ∈ o.op.operands.toList ∧ i ∈ idsT s.hp (ev G s x)))
  again : ∀ t, AgreeG G ops o s t → ∀ K' : St → Prop, K' (δ.app t) → aStep T G C true ops o t K'

theorem aStep_local (hwf : WF G s) (hk : aStep T G C true ops o s K) : ∃ δ, StepL T G C ops o s δ ∧ K (δ.app s) := by
  unfold aStep at hk
  split at hk
  · rename_i hg
    obtain ⟨δ, h⟩ := aOp_local hwf hk
    exact ⟨δ, ⟨h.dst, h.wf, h.h, fun t hA K' hK' => by unfold aStep; simp only [hg]; exact h.again t hA.toAgree K' hK'⟩, h.k⟩
  · rename_i j want hg
    split at hk
    · rename_i gs hgs
      have hgs' : guardSlot ops o = some gs := by simp only [guardSlot, hg, hgs]
      split at hk
      · rename_i b hb
        have yes : b = want → aOp T G C true o s K → ∃ δ, StepL T G C ops o s δ ∧ K (δ.app s) := fun hbw hk => by
          obtain ⟨δ, h⟩ := aOp_local hwf hk
          refine ⟨δ, ⟨h.dst, h.wf, h.h, fun t hA K' hK' => ?_⟩, h.k⟩
          unfold aStep; simp only [hg, hgs, hA.grd gs hgs', hb]
          have := h.again t hA.toAgree K' hK'
          subst hbw
          cases b <;> simpa only [aIf] using this
        have no : b ≠ want → putK s o.dst (.tup []) K → ∃ δ, StepL T G C ops o s δ ∧ K (δ.app s) := fun hbw hk => by
          refine ⟨⟨o.dst, .tup [], none⟩, ⟨rfl, wf_put hwf (show WFv s.hp (.tup []) from trivial) _, by simp, fun t hA K' hK' => ?_⟩, by rw [putK_eq] at hk; rw [app_put]; exact hk⟩
          unfold aStep; simp only [hg, hgs, hA.grd gs hgs', hb]
          have : putK t o.dst (.tup []) K' := by rw [putK_eq, ← app_put]; exact hK'
          cases b <;> cases want <;> simp only [aIf] <;> first | exact this | exact absurd rfl hbw
        cases b <;> cases want <;> simp only [aIf] at hk
        · exact yes rfl hk
        · exact no (by simp) hk
        · exact no (by simp) hk
        · exact yes rfl hk
      · rename_i hb
        refine ⟨⟨o.dst, .tup [], none⟩, ⟨rfl, wf_put hwf (show WFv s.hp (.tup []) from trivial) _, by simp, fun t hA K' hK' => ?_⟩, by rw [putK_eq] at hk; rw [app_put]; exact hk⟩
        unfold aStep; simp only [hg, hgs, hA.grd gs hgs', hb]
        rw [putK_eq, ← app_put]; exact hK'
      · exact hk.elim
    · exact hk.elim

/-- Two operations that may change places. -/
structure Ind (C : Ctr) (ops : Array Oper) (x y : Oper) (tx ty : List Nat) : Prop where
  apart : slotApart ops x y = true
  dis : (isW C.kind x.op || isW C.kind y.op) = true → disj tx ty = true

theorem apart_spec (h : slotApart ops x y = true) : (∀ d, x.dst = some d → d ∉ looks ops y) ∧ (∀ d, x.dst = some d → y.dst ≠ some d) ∧ (∀ d, y.dst = some d → d ∉ looks ops x) := by
  refine ⟨fun d hd => ?_, fun d hd => ?_, fun d hd => ?_⟩ <;> simp [slotApart, hd] at h
  · exact h.1.1
  · exact h.1.2
  · exact h.2
theorem disj_spec {xs ys : List Nat} (h : disj xs ys = true) {i : Nat} (h1 : i ∈ xs) (h2 : i ∈ ys) : False := by
  have := List.all_eq_true.1 h i h1
  simp at this
  exact this h2
theorem looks_tmp {z : Nat} (h : Operand.tmp z ∈ o.op.operands.toList) : z ∈ looks ops o := by
  unfold looks
  rw [List.mem_append]
  exact .inl (List.mem_filterMap.2 ⟨_, h, rfl⟩)
theorem looks_guard {gs : Nat} (h : guardSlot ops o = some gs) : gs ∈ looks ops o := by
  unfold looks
  rw [List.mem_append]
  exact .inr (by simp [h])
theorem mem_touch (hh : heedless o.op = false) {z : Operand} (hz : z ∈ o.op.operands.toList) {id : Nat} (h : id ∈ idsT s.hp (ev G s z)) : id ∈ touch G s o := by
  unfold touch; rw [hh]; exact List.mem_flatMap.2 ⟨z, hz, h⟩

theorem ids0_wf {hp : Nat → Obj} : ∀ {v : V}, WFv hp v → ∀ id, id ∈ ids0 v → (hp id).used = true := by
  intro v h id hid
  cases v <;> simp [ids0] at hid
  subst hid; exact h
theorem ids1_wf (hwf : WF G s) : ∀ {v : V}, WFv s.hp v → ∀ id, id ∈ ids1 s.hp v → (s.hp id).used = true := by
  intro v h id hid
  cases v with
  | ref i r e off =>
    simp only [ids1, List.mem_cons] at hid
    rcases hid with rfl | hid
    · exact h
    · split at hid
      · rename_i cells hc
        obtain ⟨c, hcm, hid⟩ := List.mem_flatMap.1 hid
        exact ids0_wf (WFvs_mem.1 (hwf.hp _ _ hc) c (List.mem_of_mem_drop hcm)) id hid
      · simp at hid
  | _ => exact ids0_wf h id hid
theorem idsV_wf (hwf : WF G s) : ∀ {v : V}, WFv s.hp v → ∀ id, id ∈ idsV s.hp v → (s.hp id).used = true := by
  intro v h id hid
  cases v with
  | agg cs =>
    obtain ⟨c, hcm, hid⟩ := List.mem_flatMap.1 hid
    exact ids0_wf (WFvs_mem.1 h c hcm) id hid
  | clo f cs =>
    obtain ⟨c, hcm, hid⟩ := List.mem_flatMap.1 hid
    exact ids1_wf hwf (WFvs_mem.1 h c hcm) id hid
  | ref => exact ids1_wf hwf h id hid
  | undef => exact ids1_wf hwf h id hid
  | d => exact ids1_wf hwf h id hid
  | own => exact ids1_wf hwf h id hid
  | osl => exact ids1_wf hwf h id hid
  | tup => exact ids1_wf hwf h id hid

theorem idsT_wf (hwf : WF G s) {v : V} (h : WFv s.hp v) (id : Nat) (hid : id ∈ idsT s.hp v) : (s.hp id).used = true := by
  rcases List.mem_append.1 hid with hid | hid
  · cases v <;> simp [toks] at hid
    subst hid
    exact h
  · exact idsV_wf hwf h id hid

theorem app_sl (δ : Delta) (s : St) (t : Nat) (h : ∀ d, δ.dst = some d → t ≠ d) : (δ.app s).sl t = s.sl t := by
  unfold Delta.app
  cases hd : δ.dst with
  | none => rfl
  | some d => exact upd_ne _ _ (h d hd)
theorem app_hp (δ : Delta) (s : St) (i : Nat) (h : ∀ j ob, δ.h = some (j, ob) → i ≠ j) : (δ.app s).hp i = s.hp i := by
  unfold Delta.app
  cases hd : δ.h with
  | none => rfl
  | some p => exact upd_ne _ _ (h p.1 p.2 (by rw [hd]))

theorem none_unused {ob : Obj} (h : ob.used = true) : ob ≠ .none := by rintro rfl; simp [Obj.used] at h

/-- What one operation writes another does not see: it was not there. -/
theorem agree_after {δ : Delta} {tx : List Nat} (hwf : WF G s) (hx : StepL T G C ops x s δ) (htx : touch G s x = tx) (h1 : ∀ d, x.dst = some d → d ∉ looks ops y)
    (hd : (isW C.kind x.op || isW C.kind y.op) = true → ∀ i, i ∈ tx → i ∉ touch G s y) (hdd : ∀ d, x.dst = some d → y.dst ≠ some d) : AgreeG G ops y s (δ.app s) := by
  have hev : ∀ z, z ∈ y.op.operands.toList → ev G (δ.app s) z = ev G s z := fun z hz => by
    cases z with
    | tmp t => exact app_sl δ s t fun d hd' => by rintro rfl; exact h1 t (by rw [← hx.dst]; exact hd') (looks_tmp hz)
    | _ => rfl
  refine ⟨⟨hev, fun hh z hz id hid => app_hp δ s id fun j ob hj => ?_, fun d hd' hn => ?_⟩, fun gs hg => app_sl δ s gs fun d hd' => by rintro rfl; exact h1 gs (by rw [← hx.dst]; exact hd') (looks_guard hg)⟩
  · rintro rfl
    rcases (hx.h _ _ hj).2 with ⟨_, _, hn⟩ | ⟨hs, z', hz', hr⟩
    · exact none_unused (idsT_wf hwf (hwf.ev z) _ hid) hn
    · exact hd (by simp [hs]) id (by rw [← htx]; exact mem_touch (isW_heeds hs) hz' hr) (mem_touch hh hz hid)
  · rw [app_hp δ s d fun j ob hj => ?_]
    · exact hn
    · rintro rfl
      rcases (hx.h _ _ hj).2 with ⟨_, hxd, _⟩ | ⟨hs, z', hz', hr⟩
      · exact hdd _ hxd hd'
      · exact none_unused (idsT_wf hwf (hwf.ev z') _ hr) hn

/-- The other way round: what an operation that comes first here, last there, has not seen. -/
theorem agree_before {δ : Delta} {tx ty : List Nat} (hwf : WF G s) (hx : StepL T G C ops x s δ) (htx : touch G s x = tx) (hty : touch G (δ.app s) y = ty) (hi : Ind C ops x y tx ty) : AgreeG G ops y (δ.app s) s := by
  obtain ⟨h1, h2, h3⟩ := apart_spec hi.apart
  have hev : ∀ z, z ∈ y.op.operands.toList → ev G s z = ev G (δ.app s) z := fun z hz => by
    cases z with
    | tmp t => exact (app_sl δ s t fun d hd' => by rintro rfl; exact h1 t (by rw [← hx.dst]; exact hd') (looks_tmp hz)).symm
    | _ => rfl
  refine ⟨⟨hev, fun hh z hz id hid => (app_hp δ s id fun j ob hj => ?_).symm, fun d hd' hn => ?_⟩, fun gs hg => (app_sl δ s gs fun d hd' => by rintro rfl; exact h1 gs (by rw [← hx.dst]; exact hd') (looks_guard hg)).symm⟩
  · rintro rfl
    rcases (hx.h _ _ hj).2 with ⟨_, _, hn⟩ | ⟨hs, z', hz', hr⟩
    · rw [← hev z hz] at hid
      have hsame : ∀ id', id' ∈ idsT s.hp (ev G s z) → (δ.app s).hp id' = s.hp id' := fun id' hid' => app_hp δ s id' fun j' ob' hj' => by
        rw [hj] at hj'; injection hj' with hj'; injection hj' with hj' _; subst hj'
        rintro rfl
        exact none_unused (idsT_wf hwf (hwf.ev z) _ hid') hn
      rw [idsT_agree hsame] at hid
      exact none_unused (idsT_wf hwf (hwf.ev z) _ hid) hn
    · exact disj_spec (hi.dis (by simp [hs])) (i := id) (by rw [← htx]; exact mem_touch (isW_heeds hs) hz' hr) (by rw [← hty]; exact mem_touch hh hz hid)
  · cases hh : δ.h with
    | none => simpa [Delta.app, hh] using hn
    | some p =>
      by_cases hp : d = p.1
      · subst hp
        have : (δ.app s).hp p.1 = p.2 := by simp [Delta.app, hh, upd_same]
        rw [this] at hn
        exact absurd hn (none_unused (hx.h p.1 p.2 (by rw [hh])).1)
      · rw [app_hp δ s d fun j ob hj => by rw [hh] at hj; injection hj with hj; subst hj; exact hp] at hn
        exact hn

theorem step_at {δ : Delta} {s t : St} (h : StepL T G C ops o s δ) (hA : AgreeG G ops o s t) (hwf : WF G t) : StepL T G C ops o t δ := by
  refine ⟨h.dst, ?_, fun i ob hi => ?_, fun u hu K' hK' => h.again u (hA.trans hu) K' hK'⟩
  · obtain ⟨δ', h', hk⟩ := aStep_local (K := fun u => u = δ.app t) hwf (h.again t hA _ rfl)
    rw [← hk]; exact h'.wf
  · obtain ⟨h1, h2⟩ := h.h i ob hi
    refine ⟨h1, ?_⟩
    rcases h2 with ⟨q1, q2, q3⟩ | ⟨q1, z, hz, hr⟩
    · exact .inl ⟨q1, q2, hA.fresh i q2 q3⟩
    · exact .inr ⟨q1, z, hz, by rw [hA.ids (isW_heeds q1) hz]; exact hr⟩

theorem swap {δx δy : Delta} {tx ty : List Nat} (hwf : WF G s) (hx : StepL T G C ops x s δx) (htx : touch G s x = tx) (hy : StepL T G C ops y (δx.app s) δy) (hty : touch G (δx.app s) y = ty)
    (hi : Ind C ops x y tx ty) : StepL T G C ops y s δy ∧ touch G s y = ty ∧ StepL T G C ops x (δy.app s) δx ∧ touch G (δy.app s) x = tx ∧ δx.app (δy.app s) = δy.app (δx.app s) := by
  obtain ⟨h1, h2, h3⟩ := apart_spec hi.apart
  have hA := agree_before hwf hx htx hty hi
  have hys := step_at hy hA hwf
  have htys : touch G s y = ty := by rw [← hty]; exact hA.touch
  have hB : AgreeG G ops x s (δy.app s) := agree_after hwf hys htys h3 (fun hs i hi1 hi2 => disj_spec (hi.dis (by rw [Bool.or_comm]; exact hs)) (by rw [← htx]; exact hi2) hi1) (fun d hd1 hd2 => h2 d hd2 hd1)
  refine ⟨hys, htys, step_at hx hB hys.wf, by rw [hB.touch, htx], ?_⟩
  have hdd : ∀ d e, δx.dst = some d → δy.dst = some e → d ≠ e := fun d e hd he => by
    rintro rfl
    exact h2 d (by rw [← hx.dst]; exact hd) (by rw [← hy.dst]; exact he)
  have hhh : ∀ i ob j ob', δx.h = some (i, ob) → δy.h = some (j, ob') → i ≠ j := fun i ob j ob' hi' hj' => by
    rintro rfl
    rcases (hx.h _ _ hi').2 with ⟨p1, p2, p3⟩ | ⟨p1, z, hz, hr⟩
    · rcases (hys.h _ _ hj').2 with ⟨q1, q2, q3⟩ | ⟨q1, z', hz', hr'⟩
      · exact h2 i p2 q2
      · exact none_unused (idsT_wf hwf (hwf.ev z') _ hr') p3
    · rcases (hys.h _ _ hj').2 with ⟨q1, q2, q3⟩ | ⟨q1, z', hz', hr'⟩
      · exact none_unused (idsT_wf hwf (hwf.ev z) _ hr) q3
      · exact disj_spec (hi.dis (by simp [p1])) (i := i) (by rw [← htx]; exact mem_touch (isW_heeds p1) hz hr) (by rw [← htys]; exact mem_touch (isW_heeds q1) hz' hr')
  unfold Delta.app
  congr 1
  · cases hd : δx.dst with
    | none => rfl
    | some d => cases he : δy.dst with
      | none => rfl
      | some e => exact upd_comm _ _ _ (hdd d e hd he).symm
  · cases hd : δx.h with
    | none => rfl
    | some d => cases he : δy.h with
      | none => rfl
      | some e => exact upd_comm _ _ _ (hhh d.1 d.2 e.1 e.2 (by rw [hd]) (by rw [he])).symm

structure It where
  i : Nat
  o : Oper
  ts : List Nat

def Run (T : Tab) (G : Nat → V) (C : Ctr) (ops : Array Oper) : List It → St → St → Prop
  | [], s, s' => s' = s
  | x :: L, s, s' => touch G s x.o = x.ts ∧ ∃ δ, StepL T G C ops x.o s δ ∧ Run T G C ops L (δ.app s) s'

theorem Run.move {i : It} {L2 : List It} {s' : St} : ∀ (L1 : List It) (s : St), WF G s → (∀ x, x ∈ L1 → Ind C ops x.o i.o x.ts i.ts) → Run T G C ops (L1 ++ i :: L2) s s' → Run T G C ops (i :: (L1 ++ L2)) s s'
  | [], s, _, _, h => h
  | x :: L1, s, hwf, hI, h => by
    simp only [List.cons_append, Run] at h ⊢
    obtain ⟨htx, δx, hx, h⟩ := h
    have h := Run.move L1 (δx.app s) hx.wf (fun y hy => hI y (List.mem_cons_of_mem _ hy)) h
    simp only [Run] at h
    obtain ⟨hti, δi, hi, h⟩ := h
    obtain ⟨q1, q2, q3, q4, q5⟩ := swap hwf hx htx hi hti (hI x List.mem_cons_self)
    exact ⟨q2, δi, q1, q4, δx, q3, by rw [q5]; exact h⟩

theorem run_of_ops : ∀ (l : List Oper) (k : Nat) (s : St), WF G s → aOps T G C true ops l s K → ∃ L s', L.map It.i = List.range' k l.length ∧ L.map It.o = l ∧ Run T G C ops L s s' ∧ K s'
  | [], k, s, _, h => ⟨[], s, rfl, rfl, rfl, h⟩
  | o :: l, k, s, hwf, h => by
    simp only [aOps] at h
    obtain ⟨δ, hδ, h⟩ := aStep_local hwf h
    obtain ⟨L, s', h1, h2, h3, h4⟩ := run_of_ops l (k + 1) _ hδ.wf h
    exact ⟨⟨k, o, touch G s o⟩ :: L, s', by simp [h1, List.range'_succ], by simp [h2], ⟨rfl, δ, hδ, h3⟩, h4⟩

theorem run_of_opsT {ps : List (Nat × Nat)} : ∀ (l : List Oper) (acc : List (List Nat)) (k : Nat) (s : St), WF G s → aOpsT T G C ops ps acc l s K →
    ∃ L s', L.map It.i = List.range' k l.length ∧ L.map It.o = l ∧ Run T G C ops L s s' ∧ K s' ∧ disjB (acc.reverse ++ L.map It.ts) ps = true
  | [], acc, k, s, _, h => by
    simp only [aOpsT] at h
    split at h
    · rename_i hd; exact ⟨[], s, rfl, rfl, rfl, h, by simpa using hd⟩
    · exact h.elim
  | o :: l, acc, k, s, hwf, h => by
    simp only [aOpsT] at h
    obtain ⟨δ, hδ, h⟩ := aStep_local hwf h
    obtain ⟨L, s', h1, h2, h3, h4, h5⟩ := run_of_opsT l _ (k + 1) _ hδ.wf h
    exact ⟨⟨k, o, touch G s o⟩ :: L, s', by simp [h1, List.range'_succ], by simp [h2], ⟨rfl, δ, hδ, h3⟩, h4, by simpa using h5⟩

end Go.Proofs.Ytnnmkenloijkcaa.Eng
