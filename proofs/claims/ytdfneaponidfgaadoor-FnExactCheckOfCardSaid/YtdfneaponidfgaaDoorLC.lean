/- Parts of the proof, in order: the engine, the contracts of the functions, the laws. -/
import Derived.Test.YtdfneaponidfgaaDoorLB
import Derived.Laws.StructEq
import Derived.ChangeKeysEq
import Derived.Test.YtdfneaponidfgaaDoorLA
import Derived.Test.YtdfneaponidfgaaDoorProg
import Derived.KernelRfl
import Derived.Test.YtdfneaponidfgaaDoorRows
import Derived.ProofKit
import Derived.SizedLaws
import Derived.Shelf.Strings.Builder1
import Derived.Shelf.Strconv.Itoa0
import Derived.Shelf.Strconv.Itoa1
import Derived.Shelf.LaysM
import Derived.Shelf.Strconv.Itoa2
import Derived.Shelf.Strconv.Itoa3
import Derived.LoopTactic
/- The engine, part T: a region that draws its order. -/
set_option linter.unusedVariables false
set_option linter.unusedSimpArgs false
namespace Go.Proofs.YtdfneaponidfgaaDoor.Eng
open Go

variable {T : Tab} {G : Nat → V} {C : Ctr} {ops : Array Oper} {o x y : Oper} {s t : St} {K : St → Prop} {E : Env} {a : Act} {w : World} {g : Gh}

def guardSlot (ops : Array Oper) (o : Oper) : Option Nat := match o.guard with | some (j, _) => (ops[j]?).bind (·.dst) | none => none
def looks (ops : Array Oper) (o : Oper) : List Nat := (o.op.operands.toList.filterMap fun x => match x with | .tmp t => some t | _ => none) ++ (guardSlot ops o).toList
def slotApart (ops : Array Oper) (x y : Oper) : Bool :=
  (match x.dst with | some d => !(looks ops y).contains d && y.dst != some d | none => true) &&
  (match y.dst with | some d => !(looks ops x).contains d | none => true)

structure AgreeG (G : Nat → V) (ops : Array Oper) (o : Oper) (s t : St) : Prop extends Agree G o s t where
  grd : ∀ gs, guardSlot ops o = some gs → t.sl gs = s.sl gs

theorem AgreeG.refl (G : Nat → V) (ops : Array Oper) (o : Oper) (s : St) : AgreeG G ops o s s := ⟨⟨fun _ _ => rfl, fun _ _ _ _ _ => rfl, fun _ _ h => h⟩, fun _ _ => rfl⟩

theorem idsV_agree {hp hp' : Nat → Obj} {v : V} (h : ∀ id, id ∈ idsV hp v → hp' id = hp id) : idsV hp' v = idsV hp v := (pureV_agree h).2
theorem isW_heeds {kd : FuncId → Bool} {p : Op} (h : isW kd p = true) : heedless p = false := by
  cases p <;> simp [isW] at h <;> rfl
theorem idsT_agree {hp hp' : Nat → Obj} {v : V} (h : ∀ id, id ∈ idsT hp v → hp' id = hp id) : idsT hp' v = idsT hp v := by
  unfold idsT; rw [idsV_agree fun id hid => h id (idsT_of hid)]
theorem AgreeG.ids {s t : St} (h : AgreeG G ops o s t) (hh : heedless o.op = false) {z : Operand} (hz : z ∈ o.op.operands.toList) : idsT t.hp (ev G t z) = idsT s.hp (ev G s z) := by
  rw [h.ev z hz]; exact idsT_agree (h.hp hh z hz)
theorem AgreeG.touch {s t : St} (h : AgreeG G ops o s t) : touch G t o = touch G s o := by
  unfold Eng.touch
  split
  · rfl
  rename_i hh
  have : ∀ l : List Operand, (∀ z, z ∈ l → z ∈ o.op.operands.toList) → (l.flatMap fun x => idsT t.hp (ev G t x)) = l.flatMap fun x => idsT s.hp (ev G s x) := by
    intro l
    induction l with
    | nil => intro _; rfl
    | cons z l ih => intro hl; simp only [List.flatMap_cons]; rw [h.ids hh (hl z List.mem_cons_self), ih fun z hz => hl z (List.mem_cons_of_mem _ hz)]
  exact this _ fun _ h => h
theorem AgreeG.trans {s t u : St} (h : AgreeG G ops o s t) (k : AgreeG G ops o t u) : AgreeG G ops o s u := by
  refine ⟨⟨fun z hz => (k.ev z hz).trans (h.ev z hz), fun hh z hz id hid => ?_, fun d hd hn => k.fresh d hd (h.fresh d hd hn)⟩, fun gs hg => (k.grd gs hg).trans (h.grd gs hg)⟩
  rw [k.hp hh z hz id (by rw [h.ids hh hz]; exact hid), h.hp hh z hz id hid]

structure StepL (T : Tab) (G : Nat → V) (C : Ctr) (ops : Array Oper) (o : Oper) (s : St) (δ : Delta) : Prop where
  dst : δ.dst = o.dst
  wf : WF G (δ.app s)
  h : ∀ i ob, δ.h = some (i, ob) → ob.used = true ∧ ((True ∧ o.dst = some i ∧ s.hp i = .none) ∨ (isW C.wr o.op = true ∧ ∃ x, x ∈ o.op.operands.toList ∧ i ∈ idsT s.hp (ev G s x)))
  again : ∀ t, AgreeG G ops o s t → ∀ K' : St → Prop, K' (δ.app t) → aStep T G C true ops o t K'

theorem aStep_local (hwf : WF G s) (hk : aStep T G C true ops o s K) : ∃ δ, StepL T G C ops o s δ ∧ K (δ.app s) := by
  unfold aStep at hk
  split at hk
  · rename_i hg
    obtain ⟨δ, h⟩ := aOp_local hwf hk
    exact ⟨δ, ⟨h.dst, h.wf, h.h, fun t hA K' hK' => by unfold aStep; simp only [hg]; exact h.again t hA.toAgree K' hK'⟩, h.k⟩
  · rename_i j want hg
    split at hk
    · rename_i gs hgs
      have hgs' : guardSlot ops o = some gs := by simp only [guardSlot, hg, hgs]
      split at hk
      · rename_i b hb
        have yes : b = want → aOp T G C true o s K → ∃ δ, StepL T G C ops o s δ ∧ K (δ.app s) := fun hbw hk => by
          obtain ⟨δ, h⟩ := aOp_local hwf hk
          refine ⟨δ, ⟨h.dst, h.wf, h.h, fun t hA K' hK' => ?_⟩, h.k⟩
          unfold aStep; simp only [hg, hgs, hA.grd gs hgs', hb]
          have := h.again t hA.toAgree K' hK'
          subst hbw
          cases b <;> simpa only [aIf] using this
        have no : b ≠ want → putK s o.dst (.tup []) K → ∃ δ, StepL T G C ops o s δ ∧ K (δ.app s) := fun hbw hk => by
          refine ⟨⟨o.dst, .tup [], none⟩, ⟨rfl, wf_put hwf (show WFv s.hp (.tup []) from trivial) _, by simp, fun t hA K' hK' => ?_⟩, by rw [putK_eq] at hk; rw [app_put]; exact hk⟩
          unfold aStep; simp only [hg, hgs, hA.grd gs hgs', hb]
          have : putK t o.dst (.tup []) K' := by rw [putK_eq, ← app_put]; exact hK'
          cases b <;> cases want <;> simp only [aIf] <;> first | exact this | exact absurd rfl hbw
        cases b <;> cases want <;> simp only [aIf] at hk
        · exact yes rfl hk
        · exact no (by simp) hk
        · exact no (by simp) hk
        · exact yes rfl hk
      · rename_i hb
        refine ⟨⟨o.dst, .tup [], none⟩, ⟨rfl, wf_put hwf (show WFv s.hp (.tup []) from trivial) _, by simp, fun t hA K' hK' => ?_⟩, by rw [putK_eq] at hk; rw [app_put]; exact hk⟩
        unfold aStep; simp only [hg, hgs, hA.grd gs hgs', hb]
        rw [putK_eq, ← app_put]; exact hK'
      · exact hk.elim
    · exact hk.elim

/-- Two operations that may change places. -/
structure Ind (C : Ctr) (ops : Array Oper) (x y : Oper) (tx ty : List Nat) : Prop where
  apart : slotApart ops x y = true
  dis : (isW C.wr x.op || isW C.wr y.op) = true → disj tx ty = true

theorem apart_spec (h : slotApart ops x y = true) : (∀ d, x.dst = some d → d ∉ looks ops y) ∧ (∀ d, x.dst = some d → y.dst ≠ some d) ∧ (∀ d, y.dst = some d → d ∉ looks ops x) := by
  refine ⟨fun d hd => ?_, fun d hd => ?_, fun d hd => ?_⟩ <;> simp [slotApart, hd] at h
  · exact h.1.1
  · exact h.1.2
  · exact h.2
theorem disj_spec {xs ys : List Nat} (h : disj xs ys = true) {i : Nat} (h1 : i ∈ xs) (h2 : i ∈ ys) : False := by
  have := List.all_eq_true.1 h i h1
  simp at this
  exact this h2
theorem looks_tmp {z : Nat} (h : Operand.tmp z ∈ o.op.operands.toList) : z ∈ looks ops o := by
  unfold looks
  rw [List.mem_append]
  exact .inl (List.mem_filterMap.2 ⟨_, h, rfl⟩)
theorem looks_guard {gs : Nat} (h : guardSlot ops o = some gs) : gs ∈ looks ops o := by
  unfold looks
  rw [List.mem_append]
  exact .inr (by simp [h])
theorem mem_touch (hh : heedless o.op = false) {z : Operand} (hz : z ∈ o.op.operands.toList) {id : Nat} (h : id ∈ idsT s.hp (ev G s z)) : id ∈ touch G s o := by
  unfold touch; rw [hh]; exact List.mem_flatMap.2 ⟨z, hz, h⟩

theorem ids0_wf {hp : Nat → Obj} : ∀ {v : V}, WFv hp v → ∀ id, id ∈ ids0 v → (hp id).used = true := by
  intro v h id hid
  cases v <;> simp [ids0] at hid
  · subst hid; exact h
  · subst hid; exact h
theorem ids1_wf (hwf : WF G s) : ∀ {v : V}, WFv s.hp v → ∀ id, id ∈ ids1 s.hp v → (s.hp id).used = true := by
  intro v h id hid
  cases v with
  | ref i r e off =>
    simp only [ids1, List.mem_cons] at hid
    rcases hid with rfl | hid
    · exact h
    · split at hid
      · rename_i cells hc
        obtain ⟨c, hcm, hid⟩ := List.mem_flatMap.1 hid
        exact ids0_wf (WFvs_mem.1 (hwf.hp _ _ hc) c (List.mem_of_mem_drop hcm)) id hid
      · simp at hid
  | _ => exact ids0_wf h id hid
theorem idsV_wf (hwf : WF G s) : ∀ {v : V}, WFv s.hp v → ∀ id, id ∈ idsV s.hp v → (s.hp id).used = true := by
  intro v h id hid
  cases v with
  | agg cs =>
    obtain ⟨c, hcm, hid⟩ := List.mem_flatMap.1 hid
    exact ids0_wf (WFvs_mem.1 h c hcm) id hid
  | clo f cs =>
    obtain ⟨c, hcm, hid⟩ := List.mem_flatMap.1 hid
    exact ids1_wf hwf (WFvs_mem.1 h c hcm) id hid
  | ref => exact ids1_wf hwf h id hid
  | undef => exact ids1_wf hwf h id hid
  | d => exact ids1_wf hwf h id hid
  | own => exact ids1_wf hwf h id hid
  | osl => exact ids1_wf hwf h id hid
  | view => exact ids1_wf hwf h id hid
  | any => exact ids1_wf hwf h id hid
  | tup => exact ids1_wf hwf h id hid

theorem idsT_wf (hwf : WF G s) {v : V} (h : WFv s.hp v) (id : Nat) (hid : id ∈ idsT s.hp v) : (s.hp id).used = true := by
  rcases List.mem_append.1 hid with hid | hid
  · cases v <;> simp [toks] at hid
    subst hid
    exact h
  · exact idsV_wf hwf h id hid

theorem app_sl (δ : Delta) (s : St) (t : Nat) (h : ∀ d, δ.dst = some d → t ≠ d) : (δ.app s).sl t = s.sl t := by
  unfold Delta.app
  cases hd : δ.dst with
  | none => rfl
  | some d => exact upd_ne _ _ (h d hd)
theorem app_hp (δ : Delta) (s : St) (i : Nat) (h : ∀ j ob, δ.h = some (j, ob) → i ≠ j) : (δ.app s).hp i = s.hp i := by
  unfold Delta.app
  cases hd : δ.h with
  | none => rfl
  | some p => exact upd_ne _ _ (h p.1 p.2 (by rw [hd]))

theorem none_unused {ob : Obj} (h : ob.used = true) : ob ≠ .none := by rintro rfl; simp [Obj.used] at h

/-- What one operation writes another does not see: it was not there. -/
theorem agree_after {δ : Delta} {tx : List Nat} (hwf : WF G s) (hx : StepL T G C ops x s δ) (htx : touch G s x = tx) (h1 : ∀ d, x.dst = some d → d ∉ looks ops y)
    (hd : (isW C.wr x.op || isW C.wr y.op) = true → ∀ i, i ∈ tx → i ∉ touch G s y) (hdd : ∀ d, x.dst = some d → y.dst ≠ some d) : AgreeG G ops y s (δ.app s) := by
  have hev : ∀ z, z ∈ y.op.operands.toList → ev G (δ.app s) z = ev G s z := fun z hz => by
    cases z with
    | tmp t => exact app_sl δ s t fun d hd' => by rintro rfl; exact h1 t (by rw [← hx.dst]; exact hd') (looks_tmp hz)
    | _ => rfl
  refine ⟨⟨hev, fun hh z hz id hid => app_hp δ s id fun j ob hj => ?_, fun d hd' hn => ?_⟩, fun gs hg => app_sl δ s gs fun d hd' => by rintro rfl; exact h1 gs (by rw [← hx.dst]; exact hd') (looks_guard hg)⟩
  · rintro rfl
    rcases (hx.h _ _ hj).2 with ⟨_, _, hn⟩ | ⟨hs, z', hz', hr⟩
    · exact none_unused (idsT_wf hwf (hwf.ev z) _ hid) hn
    · exact hd (by simp [hs]) id (by rw [← htx]; exact mem_touch (isW_heeds hs) hz' hr) (mem_touch hh hz hid)
  · rw [app_hp δ s d fun j ob hj => ?_]
    · exact hn
    · rintro rfl
      rcases (hx.h _ _ hj).2 with ⟨_, hxd, _⟩ | ⟨hs, z', hz', hr⟩
      · exact hdd _ hxd hd'
      · exact none_unused (idsT_wf hwf (hwf.ev z') _ hr) hn

/-- The other way round: what an operation that comes first here, last there, has not seen. -/
theorem agree_before {δ : Delta} {tx ty : List Nat} (hwf : WF G s) (hx : StepL T G C ops x s δ) (htx : touch G s x = tx) (hty : touch G (δ.app s) y = ty) (hi : Ind C ops x y tx ty) : AgreeG G ops y (δ.app s) s := by
  obtain ⟨h1, h2, h3⟩ := apart_spec hi.apart
  have hev : ∀ z, z ∈ y.op.operands.toList → ev G s z = ev G (δ.app s) z := fun z hz => by
    cases z with
    | tmp t => exact (app_sl δ s t fun d hd' => by rintro rfl; exact h1 t (by rw [← hx.dst]; exact hd') (looks_tmp hz)).symm
    | _ => rfl
  refine ⟨⟨hev, fun hh z hz id hid => (app_hp δ s id fun j ob hj => ?_).symm, fun d hd' hn => ?_⟩, fun gs hg => (app_sl δ s gs fun d hd' => by rintro rfl; exact h1 gs (by rw [← hx.dst]; exact hd') (looks_guard hg)).symm⟩
  · rintro rfl
    rcases (hx.h _ _ hj).2 with ⟨_, _, hn⟩ | ⟨hs, z', hz', hr⟩
    · rw [← hev z hz] at hid
      have hsame : ∀ id', id' ∈ idsT s.hp (ev G s z) → (δ.app s).hp id' = s.hp id' := fun id' hid' => app_hp δ s id' fun j' ob' hj' => by
        rw [hj] at hj'; injection hj' with hj'; injection hj' with hj' _; subst hj'
        rintro rfl
        exact none_unused (idsT_wf hwf (hwf.ev z) _ hid') hn
      rw [idsT_agree hsame] at hid
      exact none_unused (idsT_wf hwf (hwf.ev z) _ hid) hn
    · exact disj_spec (hi.dis (by simp [hs])) (i := id) (by rw [← htx]; exact mem_touch (isW_heeds hs) hz' hr) (by rw [← hty]; exact mem_touch hh hz hid)
  · cases hh : δ.h with
    | none => simpa [Delta.app, hh] using hn
    | some p =>
      by_cases hp : d = p.1
      · subst hp
        have : (δ.app s).hp p.1 = p.2 := by simp [Delta.app, hh, upd_same]
        rw [this] at hn
        exact absurd hn (none_unused (hx.h p.1 p.2 (by rw [hh])).1)
      · rw [app_hp δ s d fun j ob hj => by rw [hh] at hj; injection hj with hj; subst hj; exact hp] at hn
        exact hn

theorem step_at {δ : Delta} {s t : St} (h : StepL T G C ops o s δ) (hA : AgreeG G ops o s t) (hwf : WF G t) : StepL T G C ops o t δ := by
  refine ⟨h.dst, ?_, fun i ob hi => ?_, fun u hu K' hK' => h.again u (hA.trans hu) K' hK'⟩
  · obtain ⟨δ', h', hk⟩ := aStep_local (K := fun u => u = δ.app t) hwf (h.again t hA _ rfl)
    rw [← hk]; exact h'.wf
  · obtain ⟨h1, h2⟩ := h.h i ob hi
    refine ⟨h1, ?_⟩
    rcases h2 with ⟨q1, q2, q3⟩ | ⟨q1, z, hz, hr⟩
    · exact .inl ⟨q1, q2, hA.fresh i q2 q3⟩
    · exact .inr ⟨q1, z, hz, by rw [hA.ids (isW_heeds q1) hz]; exact hr⟩

theorem swap {δx δy : Delta} {tx ty : List Nat} (hwf : WF G s) (hx : StepL T G C ops x s δx) (htx : touch G s x = tx) (hy : StepL T G C ops y (δx.app s) δy) (hty : touch G (δx.app s) y = ty)
    (hi : Ind C ops x y tx ty) : StepL T G C ops y s δy ∧ touch G s y = ty ∧ StepL T G C ops x (δy.app s) δx ∧ touch G (δy.app s) x = tx ∧ δx.app (δy.app s) = δy.app (δx.app s) := by
  obtain ⟨h1, h2, h3⟩ := apart_spec hi.apart
  have hA := agree_before hwf hx htx hty hi
  have hys := step_at hy hA hwf
  have htys : touch G s y = ty := by rw [← hty]; exact hA.touch
  have hB : AgreeG G ops x s (δy.app s) := agree_after hwf hys htys h3 (fun hs i hi1 hi2 => disj_spec (hi.dis (by rw [Bool.or_comm]; exact hs)) (by rw [← htx]; exact hi2) hi1) (fun d hd1 hd2 => h2 d hd2 hd1)
  refine ⟨hys, htys, step_at hx hB hys.wf, by rw [hB.touch, htx], ?_⟩
  have hdd : ∀ d e, δx.dst = some d → δy.dst = some e → d ≠ e := fun d e hd he => by
    rintro rfl
    exact h2 d (by rw [← hx.dst]; exact hd) (by rw [← hy.dst]; exact he)
  have hhh : ∀ i ob j ob', δx.h = some (i, ob) → δy.h = some (j, ob') → i ≠ j := fun i ob j ob' hi' hj' => by
    rintro rfl
    rcases (hx.h _ _ hi').2 with ⟨p1, p2, p3⟩ | ⟨p1, z, hz, hr⟩
    · rcases (hys.h _ _ hj').2 with ⟨q1, q2, q3⟩ | ⟨q1, z', hz', hr'⟩
      · exact h2 i p2 q2
      · exact none_unused (idsT_wf hwf (hwf.ev z') _ hr') p3
    · rcases (hys.h _ _ hj').2 with ⟨q1, q2, q3⟩ | ⟨q1, z', hz', hr'⟩
      · exact none_unused (idsT_wf hwf (hwf.ev z) _ hr) q3
      · exact disj_spec (hi.dis (by simp [p1])) (i := i) (by rw [← htx]; exact mem_touch (isW_heeds p1) hz hr) (by rw [← htys]; exact mem_touch (isW_heeds q1) hz' hr')
  unfold Delta.app
  congr 1
  · cases hd : δx.dst with
    | none => rfl
    | some d => cases he : δy.dst with
      | none => rfl
      | some e => exact upd_comm _ _ _ (hdd d e hd he).symm
  · cases hd : δx.h with
    | none => rfl
    | some d => cases he : δy.h with
      | none => rfl
      | some e => exact upd_comm _ _ _ (hhh d.1 d.2 e.1 e.2 (by rw [hd]) (by rw [he])).symm

structure It where
  i : Nat
  o : Oper
  ts : List Nat

def Run (T : Tab) (G : Nat → V) (C : Ctr) (ops : Array Oper) : List It → St → St → Prop
  | [], s, s' => s' = s
  | x :: L, s, s' => touch G s x.o = x.ts ∧ ∃ δ, StepL T G C ops x.o s δ ∧ Run T G C ops L (δ.app s) s'

theorem Run.move {i : It} {L2 : List It} {s' : St} : ∀ (L1 : List It) (s : St), WF G s → (∀ x, x ∈ L1 → Ind C ops x.o i.o x.ts i.ts) → Run T G C ops (L1 ++ i :: L2) s s' → Run T G C ops (i :: (L1 ++ L2)) s s'
  | [], s, _, _, h => h
  | x :: L1, s, hwf, hI, h => by
    simp only [List.cons_append, Run] at h ⊢
    obtain ⟨htx, δx, hx, h⟩ := h
    have h := Run.move L1 (δx.app s) hx.wf (fun y hy => hI y (List.mem_cons_of_mem _ hy)) h
    simp only [Run] at h
    obtain ⟨hti, δi, hi, h⟩ := h
    obtain ⟨q1, q2, q3, q4, q5⟩ := swap hwf hx htx hi hti (hI x List.mem_cons_self)
    exact ⟨q2, δi, q1, q4, δx, q3, by rw [q5]; exact h⟩

theorem run_of_ops : ∀ (l : List Oper) (k : Nat) (s : St), WF G s → aOps T G C true ops l s K → ∃ L s', L.map It.i = List.range' k l.length ∧ L.map It.o = l ∧ Run T G C ops L s s' ∧ K s'
  | [], k, s, _, h => ⟨[], s, rfl, rfl, rfl, h⟩
  | o :: l, k, s, hwf, h => by
    simp only [aOps] at h
    obtain ⟨δ, hδ, h⟩ := aStep_local hwf h
    obtain ⟨L, s', h1, h2, h3, h4⟩ := run_of_ops l (k + 1) _ hδ.wf h
    exact ⟨⟨k, o, touch G s o⟩ :: L, s', by simp [h1, List.range'_succ], by simp [h2], ⟨rfl, δ, hδ, h3⟩, h4⟩

theorem run_of_opsT {ps : List (Nat × Nat)} : ∀ (l : List Oper) (acc : List (List Nat)) (k : Nat) (s : St), WF G s → aOpsT T G C ops ps acc l s K →
    ∃ L s', L.map It.i = List.range' k l.length ∧ L.map It.o = l ∧ Run T G C ops L s s' ∧ K s' ∧ disjB (acc.reverse ++ L.map It.ts) ps = true
  | [], acc, k, s, _, h => by
    simp only [aOpsT] at h
    split at h
    · rename_i hd; exact ⟨[], s, rfl, rfl, rfl, h, by simpa using hd⟩
    · exact h.elim
  | o :: l, acc, k, s, hwf, h => by
    simp only [aOpsT] at h
    obtain ⟨δ, hδ, h⟩ := aStep_local hwf h
    obtain ⟨L, s', h1, h2, h3, h4, h5⟩ := run_of_opsT l _ (k + 1) _ hδ.wf h
    exact ⟨⟨k, o, touch G s o⟩ :: L, s', by simp [h1, List.range'_succ], by simp [h2], ⟨rfl, δ, hδ, h3⟩, h4, by simpa using h5⟩

end Go.Proofs.YtdfneaponidfgaaDoor.Eng
/- The engine, part U: a region that draws its order is sound, by a check of its edges. -/
set_option linter.unusedVariables false
set_option linter.unusedSimpArgs false
namespace Go.Proofs.YtdfneaponidfgaaDoor.Eng
open Go

variable {T : Tab} {G : Nat → V} {C : Ctr} {ops : Array Oper} {o x y : Oper} {s t : St} {K : St → Prop} {E : Env} {a : Act} {w : World} {g : Gh}

mutual
theorem wf_of_rep {w : World} {g : Gh} {hp : Nat → Obj} : ∀ (v : V) (u : Value), RepV w g hp v u → WFv hp v
  | .undef, _, _ => trivial
  | .d _, _, _ => trivial
  | .ref .., u, h => by simp only [RepV] at h; exact h.1
  | .own _, u, h => by simp only [RepV] at h; exact h.1
  | .osl .., u, h => by simp only [RepV] at h; exact h.1
  | .view .., u, h => by simp only [RepV] at h; exact h.1
  | .any, _, _ => trivial
  | .agg cs, u, h => by simp only [RepV] at h; obtain ⟨us, _, h⟩ := h; simp only [WFv]; exact wfs_of_rep cs _ h
  | .tup cs, u, h => by simp only [RepV] at h; obtain ⟨us, _, h⟩ := h; simp only [WFv]; exact wfs_of_rep cs _ h
  | .clo f cs, u, h => by simp only [RepV] at h; obtain ⟨us, _, h⟩ := h; simp only [WFv]; exact wfs_of_rep cs _ h
theorem wfs_of_rep {w : World} {g : Gh} {hp : Nat → Obj} : ∀ (vs : List V) (us : List Value), RepVs w g hp vs us → WFvs hp vs
  | [], _, _ => trivial
  | c :: cs, us, h => by
    simp only [RepVs] at h
    obtain ⟨u, us', _, h1, h2⟩ := h
    exact ⟨wf_of_rep c u h1, wfs_of_rep cs us' h2⟩
end

theorem wf_of_rel (h : Rel E s a w g) : WF E.glob s := by
  refine ⟨fun i => wf_of_rep _ _ (h.slots i), fun i cells hi => ?_, fun k => ?_⟩
  · have := h.objs i
    rw [hi] at this
    obtain ⟨b, us, e, _, _, q, _⟩ := this
    exact wfs_of_rep _ _ q
  · have := wf_of_rep _ _ (h.globs k)
    exact WFv.mono (fun i hi => by simp [Obj.used] at hi) _ this

theorem bindsB_eq (e : Edge) : Region.binds .any e = bindsB e := by
  unfold Region.binds bindsB
  cases e.ground <;> rfl

/-- What comes before an operation in each order. -/
def Down (ops : List Oper) (S : Nat → Prop) : Prop := ∀ k o, ops[k]? = some o → S k → ∀ e, e ∈ o.after.toList → bindsB e = true → S e.on

theorem maskOf_ok {ms : List Nat} {S : Nat → Prop} (hm : ∀ i m, ms[i]? = some m → S i → ∀ j, m.testBit j = true → S j) : ∀ (es : List Edge), (∀ e, e ∈ es → bindsB e = true → S e.on) → ∀ j, (maskOf ms es).testBit j = true → S j
  | [], _, j, h => by simp [maskOf] at h
  | e :: es, hS, j, h => by
    unfold maskOf at h
    have ih := maskOf_ok hm es (fun e he => hS e (List.mem_cons_of_mem _ he)) j
    split at h
    · rename_i hb
      have h' : ((2 ^ e.on ||| ms.getD e.on 0) ||| maskOf ms es).testBit j = true := h
      simp only [Nat.testBit_or, Bool.or_eq_true, Nat.testBit_two_pow, decide_eq_true_eq] at h'
      have hon := hS e List.mem_cons_self hb
      rcases h' with (h' | h') | h'
      · exact h' ▸ hon
      · rw [List.getD_eq_getElem?_getD] at h'
        cases hg : ms[e.on]? with
        | none => simp [hg] at h'
        | some m => exact hm _ m hg hon j (by simpa [hg] using h')
      · exact ih h'
    · exact ih h

theorem masks_ok {all : List Oper} {S : Nat → Prop} (hS : Down all S) : ∀ (l : List Oper) (acc : List Nat), (∀ k, l[k]? = all[acc.length + k]?) →
    (∀ i m, acc[i]? = some m → S i → ∀ j, m.testBit j = true → S j) → ∀ i m, (masks l acc)[i]? = some m → S i → ∀ j, m.testBit j = true → S j
  | [], acc, _, hm => hm
  | o :: l, acc, hl, hm => by
    unfold masks
    refine masks_ok hS l _ (fun k => ?_) fun i m hi hSi j hj => ?_
    · have := hl (k + 1)
      simp only [List.getElem?_cons_succ] at this
      rw [this]; simp [Nat.add_comm, Nat.add_left_comm]
    · rw [List.getElem?_append] at hi
      split at hi
      · exact hm i m hi hSi j hj
      · rename_i hlt
        have hi0 : i = acc.length := by
          rw [List.getElem?_singleton] at hi
          split at hi
          · omega
          · simp at hi
        subst hi0
        simp at hi
        subst hi
        have ho : all[acc.length]? = some o := by rw [← Nat.add_zero acc.length, ← hl 0]; rfl
        exact maskOf_ok hm _ (fun e he hb => hS _ _ ho hSi e he hb) j hj

/-- The check of a region's edges. -/
def drawB (l : List Oper) (ops : Array Oper) : Bool :=
  let ms := masks l []
  (List.range l.length).all fun i => match l[i]? with
    | none => false
    | some o => (o.after.toList.all fun e => !bindsB e || Nat.blt e.on i) &&
        (List.range i).all fun j => match l[j]? with
          | none => false
          | some x => (ms.getD i 0).testBit j || slotApart ops x o

theorem specials_none {kd : FuncId → Bool} {l : List Oper} (h : l.any (fun o => isW kd o.op) = false) : specialsOf kd l = [] := by
  unfold specialsOf
  simp only [List.flatMap_eq_nil_iff, List.map_eq_nil_iff, List.filter_eq_nil_iff]
  intro i _ j _
  have hn : ∀ (k : Nat) (o : Oper), l[k]? = some o → isW kd o.op = false := fun k o hk => by
    cases hs : isW kd o.op with
    | false => rfl
    | true =>
      have := List.any_eq_true (p := fun o : Oper => isW kd o.op).2 ⟨o, List.mem_of_getElem? hk, hs⟩
      rw [h] at this; simp at this
  split
  · rename_i o x ho hx
    simp [hn _ _ ho, hn _ _ hx]
  · simp

theorem specials_mem {kd : FuncId → Bool} {l : List Oper} {i j : Nat} {o x : Oper} (ho : l[i]? = some o) (hx : l[j]? = some x) (hji : j < i) (hm : ((masks l []).getD i 0).testBit j = false) (hs : (isW kd o.op || isW kd x.op) = true) : (j, i) ∈ specialsOf kd l := by
  unfold specialsOf
  simp only [List.mem_flatMap, List.mem_map, List.mem_filter, List.mem_range]
  have hi : i < l.length := by
    rcases List.getElem?_eq_some_iff.1 ho with ⟨h, _⟩; exact h
  exact ⟨i, hi, j, ⟨hji, by simp only [ho, hx, hm, hs]; rfl⟩, rfl⟩

theorem ready_spec {listed : Array Bool} {i : Nat} : i ∈ Region.ready .any ops listed ↔ i < ops.size ∧ listed.getD i true = false ∧ ∃ o, ops[i]? = some o ∧ ∀ e, e ∈ o.after.toList → bindsB e = true → listed.getD e.on false = true := by
  unfold Region.ready
  simp only [List.mem_filter, List.mem_range, Bool.and_eq_true, Bool.not_eq_true']
  refine and_congr_right fun hi => and_congr_right fun hl => ?_
  cases ho : ops[i]? with
  | none => simp
  | some o =>
    simp only [Option.map_some, Option.getD_some, Array.all_eq_true_iff_forall_mem, Bool.or_eq_true, Bool.not_eq_true', bindsB_eq]
    constructor
    · intro h
      refine ⟨o, rfl, fun e he hb => ?_⟩
      rcases h e (by simpa using he) with h | h
      · rw [hb] at h; simp at h
      · exact h
    · rintro ⟨o', ho', h⟩ e he
      injection ho' with ho'
      subst ho'
      cases hb : bindsB e with
      | false => exact .inl rfl
      | true => exact .inr (h e (by simpa using he) hb)

structure Inv (C : Ctr) (ops : Array Oper) (L : List It) (listed : Array Bool) : Prop where
  op : ∀ x, x ∈ L → ops[x.i]? = some x.o
  ord : L.Pairwise (fun x y => x.i < y.i)
  size : listed.size = ops.size
  un : ∀ i, i < ops.size → (listed.getD i false = false ↔ ∃ x, x ∈ L ∧ x.i = i)
  down : Down ops.toList (fun k => listed.getD k false = true)
  ind : ∀ x y, x ∈ L → y ∈ L → x.i < y.i → ((masks ops.toList []).getD y.i 0).testBit x.i = false → Ind C ops x.o y.o x.ts y.ts

theorem getD_set {l : Array Bool} {i j : Nat} (hi : i < l.size) : (l.setIfInBounds i true).getD j false = if j = i then true else l.getD j false := by
  simp only [Array.getD_eq_getD_getElem?, Array.getElem?_setIfInBounds]
  by_cases h : i = j
  · subst h; simp [hi]
  · have h' : ¬ j = i := fun hh => h hh.symm
    simp [h, h']

theorem getD_tf {l : Array Bool} {i : Nat} (h : l.getD i true = false) : l.getD i false = false ∧ i < l.size := by
  simp only [Array.getD_eq_getD_getElem?] at h ⊢
  by_cases hi : i < l.size
  · refine ⟨?_, hi⟩
    simp [hi] at h ⊢; exact h
  · simp [Array.getElem?_eq_none (Nat.le_of_not_lt hi)] at h

theorem masks_len : ∀ (l : List Oper) (acc : List Nat), (masks l acc).length = acc.length + l.length
  | [], acc => by simp [masks]
  | o :: l, acc => by unfold masks; rw [masks_len l]; simp; omega

theorem draw_go {T : Tab} {C : Ctr} {Q : Exit → Act → World → Prop} {s' : St} (B : Base E T C) (hc : chkOps E.nt ops.toList = true) (hdb : drawB ops.toList ops = true)
    (hQ : ∀ a w g, Rel E s' a w g → Q .normal a w) : ∀ (fuel : Nat) (L : List It) (listed : Array Bool) (s : St) (a : Act) (w : World) (g : Gh), L.length ≤ fuel → Inv C ops L listed → Rel E s a w g → Run T E.glob C ops L s s' →
    wpAny E.P .any ops Q fuel listed a w := by
  have hback : ∀ i o, ops[i]? = some o → ∀ e, e ∈ o.after.toList → bindsB e = true → e.on < i := fun i o ho e he hb => by
    have ho' : ops.toList[i]? = some o := by simpa using ho
    have hi : i < ops.toList.length := (List.getElem?_eq_some_iff.1 ho').1
    have := List.all_eq_true.1 hdb i (List.mem_range.2 hi)
    simp only [ho', Bool.and_eq_true] at this
    have := List.all_eq_true.1 this.1 e he
    simp only [hb, Bool.not_true, Bool.false_or] at this
    exact Nat.le_of_ble_eq_true this
  have hready : ∀ (L : List It) (listed : Array Bool), Inv C ops L listed → Region.ready .any ops listed = [] → L = [] := fun L listed hI hr => by
    cases L with
    | nil => rfl
    | cons x L =>
      exfalso
      have hx := hI.op x List.mem_cons_self
      have hxs : x.i < ops.size := by
        rcases Array.getElem?_eq_some_iff.1 hx with ⟨h, _⟩; exact h
      have hun := (hI.un x.i hxs).2 ⟨x, List.mem_cons_self, rfl⟩
      have : x.i ∈ Region.ready .any ops listed := ready_spec.2 ⟨hxs, by
        simp only [Array.getD_eq_getD_getElem?] at hun ⊢
        have : x.i < listed.size := by rw [hI.size]; exact hxs
        simp [this] at hun ⊢; exact hun, x.o, hx, fun e he hb => by
        have hlt := hback _ _ hx e he hb
        cases hl : listed.getD e.on false with
        | true => rfl
        | false =>
          obtain ⟨y, hy, hyi⟩ := (hI.un e.on (by omega)).1 hl
          rcases List.mem_cons.1 hy with rfl | hy
          · omega
          · have := (List.pairwise_cons.1 hI.ord).1 y hy
            omega⟩
      rw [hr] at this
      simp at this
  intro fuel
  induction fuel with
  | zero =>
    intro L listed s a w g hlen hI hR hrun
    have hL : L = [] := by cases L with | nil => rfl | cons x L => simp at hlen
    subst hL
    simp only [Run] at hrun
    subst hrun
    refine ⟨?_, hQ _ _ _ hR⟩
    cases hr : Region.ready .any ops listed with
    | nil => rfl
    | cons i r =>
      have hi : i ∈ Region.ready .any ops listed := by rw [hr]; exact List.mem_cons_self
      obtain ⟨h1, h2, _⟩ := ready_spec.1 hi
      obtain ⟨x, hx, _⟩ := (hI.un i h1).1 (getD_tf h2).1
      simp at hx
  | succ fuel ih =>
    intro L listed s a w g hlen hI hR hrun
    refine ⟨fun hr => ?_, fun i hi => ?_⟩
    · have hL := hready L listed hI hr
      subst hL
      simp only [Run] at hrun
      subst hrun
      exact hQ _ _ _ hR
    · obtain ⟨his, hil, o, ho, hpre⟩ := ready_spec.1 hi
      obtain ⟨hil', hils⟩ := getD_tf hil
      obtain ⟨x, hx, hxi⟩ := (hI.un i his).1 hil'
      subst hxi
      have hxo := hI.op x hx
      rw [ho] at hxo
      injection hxo with hxo
      obtain ⟨L1, L2, rfl⟩ := List.append_of_mem hx
      have hord := hI.ord
      rw [List.pairwise_append] at hord
      obtain ⟨ho1, ho2, ho3⟩ := hord
      have ho2' := List.pairwise_cons.1 ho2
      have hlt1 : ∀ y, y ∈ L1 → y.i < x.i := fun y hy => ho3 y hy x List.mem_cons_self
      have hgt2 : ∀ y, y ∈ L2 → x.i < y.i := fun y hy => ho2'.1 y hy
      have hno : ∀ y, y ∈ L1 → ((masks ops.toList []).getD x.i 0).testBit y.i = false := fun y hy => by
        cases hb : ((masks ops.toList []).getD x.i 0).testBit y.i with
        | false => rfl
        | true =>
          exfalso
          have hmx : x.i < (masks ops.toList []).length := by rw [masks_len]; simpa using his
          have hget : (masks ops.toList [])[x.i]? = some ((masks ops.toList []).getD x.i 0) := by
            rw [List.getD_eq_getElem?_getD]; simp [hmx]
          have hS : Down ops.toList (fun k => listed.getD k false = true ∨ k = x.i) := fun k o' hk hSk e he hb' => by
            rcases hSk with hSk | rfl
            · exact .inl (hI.down k o' hk hSk e he hb')
            · have : ops.toList[x.i]? = some o := by simpa using ho
              rw [this] at hk
              injection hk with hk
              subst hk
              exact .inl (hpre e he hb')
          have := masks_ok hS ops.toList [] (by simp) (by simp) x.i _ hget (.inr rfl) y.i hb
          rcases this with h | h
          · have hy' := (hI.un y.i (by have := hlt1 y hy; omega)).2 ⟨y, List.mem_append_left _ hy, rfl⟩
            rw [h] at hy'; simp at hy'
          · have := hlt1 y hy; omega
      have hwf := wf_of_rel hR
      have hrun' := Run.move L1 s hwf (fun y hy => hI.ind y x (List.mem_append_left _ hy) hx (hlt1 y hy) (hno y hy)) hrun
      simp only [Run] at hrun'
      obtain ⟨_, δ, hδ, hrun'⟩ := hrun'
      have hstep := hδ.again s (AgreeG.refl _ _ _ _) (fun u => u = δ.app s) rfl
      have hI' : Inv C ops (L1 ++ L2) (listed.setIfInBounds x.i true) := by
        have hsub : ∀ y, y ∈ L1 ++ L2 → y ∈ L1 ++ x :: L2 := fun y hy => by
          rcases List.mem_append.1 hy with hy | hy
          · exact List.mem_append_left _ hy
          · exact List.mem_append_right _ (List.mem_cons_of_mem _ hy)
        have hne : ∀ y, y ∈ L1 ++ L2 → y.i ≠ x.i := fun y hy => by
          rcases List.mem_append.1 hy with hy | hy
          · have := hlt1 y hy; omega
          · have := hgt2 y hy; omega
        refine ⟨fun y hy => hI.op y (hsub y hy), List.pairwise_append.2 ⟨ho1, ho2'.2, fun y hy z hz => ho3 y hy z (List.mem_cons_of_mem _ hz)⟩, by simp [hI.size], fun k hk => ?_, fun k o' hk hSk e he hb => ?_, fun y z hy hz => hI.ind y z (hsub y hy) (hsub z hz)⟩
        · rw [getD_set hils]
          split
          · rename_i hkx
            subst hkx
            simp only [Bool.true_eq_false, false_iff, not_exists, not_and]
            exact fun y hy => hne y hy
          · rename_i hkx
            rw [hI.un k hk]
            constructor
            · rintro ⟨y, hy, hyk⟩
              refine ⟨y, ?_, hyk⟩
              rcases List.mem_append.1 hy with hy | hy
              · exact List.mem_append_left _ hy
              · rcases List.mem_cons.1 hy with rfl | hy
                · exact absurd hyk.symm hkx
                · exact List.mem_append_right _ hy
            · rintro ⟨y, hy, hyk⟩
              exact ⟨y, hsub y hy, hyk⟩
        · have hSk : (listed.setIfInBounds x.i true).getD k false = true := hSk
          show (listed.setIfInBounds x.i true).getD e.on false = true
          rw [getD_set hils] at hSk ⊢
          split
          · rfl
          · split at hSk
            · rename_i hkx
              subst hkx
              have : ops.toList[x.i]? = some o := by simpa using ho
              rw [this] at hk
              injection hk with hk
              subst hk
              exact hpre e he hb
            · exact hI.down k o' hk hSk e he hb
      have hcx : ∀ d, x.o.dst = some d → d < E.nt := chkOps_ok hc (by have := Array.mem_of_getElem? ho; rw [hxo] at this; simpa using this)
      have hnext := aStep_sound (Q := Q) (P' := []) (next := wpAny E.P .any ops Q fuel (listed.setIfInBounds x.i true)) B hR hcx hstep fun s1 a1 w1 g1 hk1 hR1 => by
        subst hk1
        exact ih (L1 ++ L2) _ _ a1 w1 g1 (by simp at hlen ⊢; omega) hI' hR1 hrun'
      unfold wpOp
      simp only [ho, hxo]
      split at hnext
      · rename_i hw; rw [if_pos hw]; exact .inl hnext
      · rename_i hw; rw [if_neg hw]; exact hnext

theorem draw_ok {T : Tab} {C : Ctr} (B : Base E T C) (hm : E.P.follows .mixedOrders = true) (hc : chkOps E.nt ops.toList = true) (hdb : drawB ops.toList ops = true) : DrawOk E T C ops := by
  intro id s a w g K Q hR hk hn
  refine wp_region_any hm ?_
  have hwf := wf_of_rel hR
  have main : ∀ (L : List It) (s' : St), L.map It.i = List.range' 0 ops.toList.length → L.map It.o = ops.toList → Run T E.glob C ops L s s' → K s' → disjB (L.map It.ts) (specialsOf C.wr ops.toList) = true →
      wpAny E.P .any ops Q ops.size (Array.replicate ops.size false) a { w with drawn := w.drawn + 1 } := fun L s' h1 h2 hrun hK hdis => by
    have hlen : L.length = ops.size := by have := congrArg List.length h2; simpa using this
    have hix : ∀ (k : Nat) (x : It), L[k]? = some x → x.i = k ∧ ops[k]? = some x.o := fun k x hk => by
      have e1 : (L.map It.i)[k]? = some x.i := by simp [hk]
      have e2 : (L.map It.o)[k]? = some x.o := by simp [hk]
      rw [h1] at e1
      rw [h2] at e2
      have hlt := (List.getElem?_eq_some_iff.1 hk).1
      rw [List.getElem?_range' (by simpa [hlen] using hlt)] at e1
      simp at e1
      exact ⟨e1.symm, by simpa using e2⟩
    refine draw_go B hc hdb (s' := s') (fun a w g hR' => hn s' a w g hK hR') ops.size L _ s a _ g (Nat.le_of_eq hlen) ⟨fun x hx => ?_, ?_, by simp, fun i hi => ?_, fun k o hk hSk => ?_, fun x y hx hy hxy hm' => ?_⟩ (rel_drawn hR _) hrun
    · obtain ⟨k, hk⟩ := List.mem_iff_getElem?.1 hx
      obtain ⟨q1, q2⟩ := hix k x hk
      rw [q1]; exact q2
    · have : (L.map It.i).Pairwise (· < ·) := by rw [h1]; exact List.pairwise_lt_range'
      exact List.pairwise_map.1 this
    · have hget : (Array.replicate ops.size false).getD i false = false := by
        simp [Array.getD_eq_getD_getElem?, Array.getElem?_replicate, hi]
      rw [hget]
      simp only [true_iff]
      have : i < L.length := by omega
      exact ⟨L[i], List.getElem_mem this, (hix i L[i] (by simp [this])).1⟩
    · have hSk : (Array.replicate ops.size false).getD k false = true := hSk
      rw [Array.getD_eq_getD_getElem?, Array.getElem?_replicate] at hSk
      split at hSk <;> simp at hSk
    · obtain ⟨kx, hkx⟩ := List.mem_iff_getElem?.1 hx
      obtain ⟨ky, hky⟩ := List.mem_iff_getElem?.1 hy
      obtain ⟨p1, p2⟩ := hix kx x hkx
      obtain ⟨q1, q2⟩ := hix ky y hky
      have p2' : ops.toList[x.i]? = some x.o := by rw [p1]; simpa using p2
      have q2' : ops.toList[y.i]? = some y.o := by rw [q1]; simpa using q2
      refine ⟨?_, fun hs => ?_⟩
      · have hi : y.i < ops.toList.length := (List.getElem?_eq_some_iff.1 q2').1
        have := List.all_eq_true.1 hdb y.i (List.mem_range.2 hi)
        simp only [q2', Bool.and_eq_true] at this
        have := List.all_eq_true.1 this.2 x.i (List.mem_range.2 hxy)
        simp only [p2', hm', Bool.false_or] at this
        exact this
      · have hmem := specials_mem q2' p2' hxy hm' (by rw [Bool.or_comm]; exact hs)
        have := List.all_eq_true.1 hdis _ hmem
        have e1 : (L.map It.ts).getD x.i [] = x.ts := by rw [List.getD_eq_getElem?_getD, p1]; simp [hkx]
        have e2 : (L.map It.ts).getD y.i [] = y.ts := by rw [List.getD_eq_getElem?_getD, q1]; simp [hky]
        simp only [e1, e2] at this
        exact this
  unfold aDraw at hk
  split at hk
  · rename_i hst
    obtain ⟨L, s', h1, h2, h3, h4⟩ := run_of_ops ops.toList 0 s hwf hk
    exact main L s' h1 h2 h3 h4 (by rw [specials_none hst]; rfl)
  · obtain ⟨L, s', h1, h2, h3, h4, h5⟩ := run_of_opsT ops.toList [] 0 s hwf hk
    exact main L s' h1 h2 h3 h4 (by simpa using h5)

/-- The check of a function's code. -/
def codeB (nt : Nat) : Code → Bool
  | .region _ ops draw => match draw with
    | true => chkOps nt ops.toList && drawB ops.toList ops
    | false => chkOps nt ops.toList
  | .seq a b => codeB nt a && codeB nt b
  | .cond _ a b => codeB nt a && codeB nt b
  | .block _ b => codeB nt b
  | .loop b => codeB nt b
  | _ => true

theorem codeB_ok {T : Tab} {C : Ctr} (B : Base E T C) (hm : E.P.follows .mixedOrders = true) : ∀ (c : Code), codeB E.nt c = true → CodeOk E T C c
  | .region _ ops draw, h => by
    cases draw with
    | true => simp only [codeB, Bool.and_eq_true] at h; exact draw_ok B hm h.1 h.2
    | false => simpa only [codeB, CodeOk] using h
  | .seq a b, h => by simp only [codeB, Bool.and_eq_true] at h; exact ⟨codeB_ok B hm a h.1, codeB_ok B hm b h.2⟩
  | .cond _ a b, h => by simp only [codeB, Bool.and_eq_true] at h; exact ⟨codeB_ok B hm a h.1, codeB_ok B hm b h.2⟩
  | .block _ b, h => codeB_ok B hm b (by simpa only [codeB] using h)
  | .loop b, h => codeB_ok B hm b (by simpa only [codeB] using h)
  | .skip, _ => trivial
  | .exit _, _ => trivial
  | .ret, _ => trivial
  | .scope _, _ => trivial
  | .label _, _ => trivial
  | .goto _, _ => trivial
  | .refuse _, _ => trivial
  | .rangeFunc .., _ => trivial

end Go.Proofs.YtdfneaponidfgaaDoor.Eng
/- The engine, part V: structs are compared cell by cell. -/
set_option linter.unusedVariables false
set_option linter.unusedSimpArgs false
namespace Go.Proofs.YtdfneaponidfgaaDoor.Eng
open Go

def fldsC (P : Program) (c : TypeId → Nat → List D → Bool) (k : Nat) : List Field → Nat → List D → Bool
  | [], off, _ => Nat.beq off k
  | f :: fs, off, z => f.name != "_" && Nat.beq f.offset off && match P.info? f.type with
    | some i => i.size != 0 && c f.type i.size (z.take i.size) && fldsC P c k fs (off + i.size) (z.drop i.size)
    | none => false
def cmpT (P : Program) : Nat → TypeId → Nat → List D → Bool
  | 0, _, _, _ => false
  | n + 1, t, k, z => match P.underlying t with
    | some .bool => match z with | [.bool _] => Nat.beq k 1 | _ => false
    | some (.int i) => match z with | [.int j _] => Nat.beq k 1 && decide (j = i) | _ => false
    | some .string => match z with | [.str _] => Nat.beq k 1 | _ => false
    | some (.struct fs) => (match P.info? t with | some i => Nat.beq i.size k | none => false) && !P.stoodInHeld t && fldsC P (cmpT P n) k fs.toList 0 z
    | _ => false
def cmpB (P : Program) : Tab → Bool
  | [] => true
  | (t, ti) :: r => (match ti.cmp with | true => cmpT P 9 t ti.size ti.zero && Nat.beq ti.zero.length ti.size && !P.eqGuardType P.depth t && (match P.underlying t with | some (.struct _) => true | _ => false) | false => true) && cmpB P r

theorem eqVs_len : ∀ {z : List D} {xs ys : List V} {b : Bool}, eqVs z xs ys = some b → xs.length = z.length ∧ ys.length = z.length
  | [], xs, ys, b, h => by
    unfold eqVs at h
    split at h <;> simp_all
  | z :: zs, xs, ys, b, h => by
    unfold eqVs at h
    split at h
    · simp_all
    · simp_all
    · rename_i z' zs' x' xs' y' ys' hne hz
      split at h
      · rename_i a c h1 h2
        injection hz with hz1 hz2
        subst hz2
        have := eqVs_len h2
        simp [this.1, this.2]
      · simp at h
    · simp at h
theorem eqVs_cons {z : D} {zs : List D} {xs ys : List V} {b : Bool} (h : eqVs (z :: zs) xs ys = some b) :
    ∃ p q xs' ys' a c, xs = .d p :: xs' ∧ ys = .d q :: ys' ∧ eqD z p q = some a ∧ eqVs zs xs' ys' = some c ∧ b = (a && c) := by
  unfold eqVs at h
  split at h
  · rename_i hz; simp at hz
  · rename_i z' p q hz
    injection hz with hz1 hz2
    subst hz1; subst hz2
    exact ⟨p, q, [], [], b, true, rfl, rfl, h, by simp [eqVs], by simp⟩
  · rename_i z' zs' p xs' q ys' hne hz
    injection hz with hz1 hz2
    subst hz1; subst hz2
    split at h
    · rename_i a c h3 h4
      injection h with h
      exact ⟨p, q, xs', ys', a, c, rfl, rfl, h3, h4, h.symm⟩
    · simp at h
  · simp at h
theorem eqVs_append : ∀ {z1 z2 : List D} {xs ys : List V} {b : Bool}, eqVs (z1 ++ z2) xs ys = some b → ∃ b1 b2, eqVs z1 (xs.take z1.length) (ys.take z1.length) = some b1 ∧ eqVs z2 (xs.drop z1.length) (ys.drop z1.length) = some b2 ∧ b = (b1 && b2)
  | [], z2, xs, ys, b, h => ⟨true, b, by simp [eqVs], by simpa using h, by simp⟩
  | z :: z1, z2, xs, ys, b, h => by
    obtain ⟨p, q, xs', ys', a, c, rfl, rfl, h1, h2, rfl⟩ := eqVs_cons (by simpa using h)
    obtain ⟨b1, b2, h3, h4, rfl⟩ := eqVs_append h2
    refine ⟨a && b1, b2, ?_, by simpa using h4, by rw [Bool.and_assoc]⟩
    simp only [List.length_cons, List.take_succ_cons]
    have hl := eqVs_len h3
    cases z1 with
    | nil =>
      simp [eqVs] at h3 ⊢; subst h3; simpa using h1
    | cons z' z1 =>
      cases hx : xs'.take (z' :: z1).length with
      | nil => rw [hx] at hl; simp at hl
      | cons x' x1 => cases hy : ys'.take (z' :: z1).length with
        | nil => rw [hy] at hl; simp at hl
        | cons y' y1 =>
          rw [hx, hy] at h3
          unfold eqVs
          simp only [h1, h3]

section
variable {P : Program} {w : World} {g : Gh} {hp : Nat → Obj}

theorem part_one {t : TypeId} {d : TypeDesc} (hu : P.underlying t = some d) (hd : (match d with | .struct _ | .array _ _ => true | _ => false) = false) {U : Array Value} {off : Nat} {v : Value} (hv : U[off]? = some v) : (part t U off).run P w = .ok v w := by
  cases d <;> simp at hd <;> simp [part, isAgg, run_underlying hu, hv]

theorem part_struct {t : TypeId} {fs : Array Field} {i : TypeInfo} (hu : P.underlying t = some (.struct fs)) (hi : P.info? t = some i) {U : Array Value} {off : Nat} : (part t U off).run P w = .ok (.agg (U.extract off (off + i.size))) w := by
  have : P.cellsOf t = i.size := by simp [Program.cellsOf, hi]
  simp [part, isAgg, run_underlying hu, run_sizeOf w hi, this]

def EqOk (P : Program) (w : World) (g : Gh) (hp : Nat → Obj) (d : Nat) (t : TypeId) (k : Nat) (z : List D) : Prop :=
  ∀ (U W : Array Value) (off : Nat) (xs ys : List V) (b : Bool), z.length = k → RepVs w g hp xs ((U.toList.drop off).take k) → RepVs w g hp ys ((W.toList.drop off).take k) → eqVs z xs ys = some b →
    ∃ u v, (part t U off).run P w = .ok u w ∧ (part t W off).run P w = .ok v w ∧ (Op.equalIn d t u v).run P w = .ok b w

theorem fldsC_le {c : TypeId → Nat → List D → Bool} {k : Nat} : ∀ (fs : List Field) (o : Nat) (z : List D), fldsC P c k fs o z = true → o ≤ k
  | [], o, z, h => by have := Nat.eq_of_beq_eq_true (by simpa [fldsC] using h); omega
  | f :: fs, o, z, h => by
    unfold fldsC at h
    simp only [Bool.and_eq_true] at h
    obtain ⟨⟨_, _⟩, h⟩ := h
    split at h
    · simp only [Bool.and_eq_true] at h
      have := fldsC_le fs _ _ h.2
      omega
    · simp at h

theorem flds_eq {c : TypeId → Nat → List D → Bool} {d k : Nat} (hc : ∀ t n z, c t n z = true → EqOk P w g hp d t n z) : ∀ (fs : List Field) (o : Nat) (z : List D), fldsC P c k fs o z = true → ∀ (U W : Array Value) (xs ys : List V) (b : Bool),
    z.length + o = k → RepVs w g hp xs (U.toList.drop o) → RepVs w g hp ys (W.toList.drop o) → eqVs z xs ys = some b → (Op.eqFields d U W fs).run P w = .ok b w
  | [], o, z, hf, U, W, xs, ys, b, hx, hU, hW, he => by
    have ho := Nat.eq_of_beq_eq_true (by simpa [fldsC] using hf)
    have h1 : z = [] := by cases z with | nil => rfl | cons => simp at hx; omega
    subst h1
    have := eqVs_len he
    simp at this
    obtain ⟨rfl, rfl⟩ := this
    simp [eqVs] at he
    subst he
    simp [Op.eqFields]
  | f :: fs, o, z, hf, U, W, xs, ys, b, hx, hU, hW, he => by
    unfold fldsC at hf
    cases hi : P.info? f.type with
    | none => simp [hi] at hf
    | some i =>
      simp only [hi, Bool.and_eq_true] at hf
      obtain ⟨⟨hn, ho⟩, ⟨hz, hcf⟩, hr⟩ := hf
      have ho := Nat.eq_of_beq_eq_true ho
      subst ho
      have hn' : f.name ≠ "_" := by simpa using hn
      have hk := fldsC_le _ _ _ hr
      rw [← List.take_append_drop i.size z] at he
      have hlz : (z.take i.size).length = i.size := by simp; omega
      obtain ⟨b1, b2, h1, h2, rfl⟩ := eqVs_append he
      rw [hlz] at h1 h2
      obtain ⟨u, v, q1, q2, q3⟩ := hc _ _ _ hcf U W f.offset _ _ b1 hlz (hU.take i.size) (hW.take i.size) h1
      have hrec := flds_eq hc fs (f.offset + i.size) _ hr U W (xs.drop i.size) (ys.drop i.size) b2 (by simp; omega)
        (by have := hU.drop i.size; rwa [List.drop_drop] at this) (by have := hW.drop i.size; rwa [List.drop_drop] at this) h2
      simp only [Op.eqFields, hn', ne_eq, not_false_eq_true, if_true, Sem.run_bind, q1, q2, q3, Result.andThen_ok]
      cases b1 with
      | true => simpa using hrec
      | false => simp

theorem cmp_struct {n m : Nat} {t : TypeId} {k : Nat} {z : List D} (ih : ∀ t n' z', cmpT P n t n' z' = true → EqOk P w g hp (n + m) t n' z') {fs : Array Field} (hu : P.underlying t = some (.struct fs)) (h : cmpT P (n + 1) t k z = true)
    {U W : Array Value} {xs ys : List V} {b : Bool} (hz : z.length = k) (hU : RepVs w g hp xs U.toList) (hW : RepVs w g hp ys W.toList) (he : eqVs z xs ys = some b) : (Op.equalIn (n + m + 1) t (.agg U) (.agg W)).run P w = .ok b w := by
  unfold cmpT at h
  simp only [hu, Bool.and_eq_true] at h
  obtain ⟨⟨hi, hp'⟩, hf⟩ := h
  have hfs : P.fieldsOf t = fs := by simp [Program.fieldsOf, hu]
  rw [run_equalIn_agg w (n + m) t _ _ (by rw [hfs]; exact hu) (by simpa using hp'), hfs]
  exact flds_eq ih fs.toList 0 z hf _ _ xs ys b (by omega) (by simpa using hU) (by simpa using hW) he

theorem cmp_ok : ∀ (n m : Nat) (t : TypeId) (k : Nat) (z : List D), cmpT P n t k z = true → EqOk P w g hp (n + m) t k z
  | 0, m, t, k, z, h => by simp [cmpT] at h
  | n + 1, m, t, k, z, h => by
    intro U W off xs ys b hz hU hW he
    have hone : ∀ z0, z = [z0] → k = 1 → ∃ p q u v, U[off]? = some u ∧ W[off]? = some v ∧ RepD w g.imm p u ∧ RepD w g.imm q v ∧ eqD z0 p q = some b := fun z0 hz0 hk => by
      subst hz0; subst hk
      obtain ⟨p, q, xs', ys', a, c, rfl, rfl, h1, h2, rfl⟩ := eqVs_cons he
      have := eqVs_len h2
      simp at this
      obtain ⟨rfl, rfl⟩ := this
      simp [eqVs] at h2
      subst h2
      obtain ⟨u, hu1, hu2⟩ := RepVs.get hU (i := 0) rfl
      obtain ⟨v, hv1, hv2⟩ := RepVs.get hW (i := 0) rfl
      simp only [RepV] at hu2 hv2
      exact ⟨p, q, u, v, by simpa using hu1, by simpa using hv1, hu2, hv2, by simpa using h1⟩
    have hnm : n + 1 + m = (n + m) + 1 := by omega
    rw [hnm]
    have h0 := h
    unfold cmpT at h
    split at h
    · rename_i hu
      split at h
      · obtain ⟨p, q, u, v, h1, h2, h3, h4, h5⟩ := hone _ rfl (Nat.eq_of_beq_eq_true h)
        refine ⟨u, v, part_one hu rfl h1, part_one hu rfl h2, ?_⟩
        unfold eqD at h5
        split at h5 <;> first | (rename_i hh; simp at hh; done) | skip
        · cases h3; cases h4; injection h5 with h5; subst h5; exact run_equalIn_bool' _ _ _ _ _ hu
        · simp at h5
      · simp at h
    · rename_i i hu
      split at h
      · rename_i j nn
        simp only [Bool.and_eq_true] at h
        obtain ⟨p, q, u, v, h1, h2, h3, h4, h5⟩ := hone _ rfl (Nat.eq_of_beq_eq_true h.1)
        refine ⟨u, v, part_one hu rfl h1, part_one hu rfl h2, ?_⟩
        unfold eqD at h5
        split at h5 <;> first | (rename_i hh; simp at hh; done) | skip
        · split at h5
          · rename_i hk1 hk2
            have hk1 := of_decide_eq_true hk1
            have hk2 := of_decide_eq_true hk2
            subst hk1; subst hk2
            cases h3; cases h4; injection h5 with h5; subst h5
            exact run_equalIn_int _ _ _ _ _ _ _ hu
          · simp at h5
        · simp at h5
      · simp at h
    · rename_i hu
      split at h
      · obtain ⟨p, q, u, v, h1, h2, h3, h4, h5⟩ := hone _ rfl (Nat.eq_of_beq_eq_true h)
        refine ⟨u, v, part_one hu rfl h1, part_one hu rfl h2, ?_⟩
        unfold eqD at h5
        split at h5 <;> first | (rename_i hh; simp at hh; done) | skip
        · cases h3; cases h4; injection h5 with h5; subst h5
          rw [run_equalIn_string _ _ _ _ _ hu, beq_toListBytes]
        · simp at h5
      · simp at h
    · rename_i fs hu
      have h' := h
      simp only [Bool.and_eq_true] at h
      obtain ⟨⟨hi, hp'⟩, hf⟩ := h
      cases hinfo : P.info? t with
      | none => simp [hinfo] at hi
      | some i =>
        simp only [hinfo] at hi
        have hi := Nat.eq_of_beq_eq_true hi
        subst hi
        refine ⟨_, _, part_struct hu hinfo, part_struct hu hinfo, ?_⟩
        have htl : ∀ U : Array Value, (U.extract off (off + i.size)).toList = (U.toList.drop off).take i.size := fun U => by simp [List.extract]
        exact cmp_struct (fun t n' z' h' => cmp_ok n m t n' z' h') hu h0 hz (by rw [htl]; exact hU) (by rw [htl]; exact hW) he
    · simp at h

theorem cmpB_ok : ∀ {T : Tab}, cmpB P T = true → ∀ t ti, T.get t = some ti → ti.cmp = true → CmpOk P t ti.zero
  | [], _, t, ti, h => by simp [Tab.get] at h
  | (k, i) :: r, hb, t, ti, h => by
    intro hcmp
    simp only [cmpB, Bool.and_eq_true] at hb
    unfold Tab.get at h
    split at h
    · rename_i hk
      obtain rfl := Nat.eq_of_beq_eq_true hk
      injection h with h
      subst h
      have hb1 := hb.1
      simp only [hcmp, Bool.and_eq_true] at hb1
      obtain ⟨⟨⟨h1, h2⟩, h3⟩, h4⟩ := hb1
      split at h4
      · rename_i fs hu
        intro w g hp xs ys us vs b hx hy he x y
        have hg : P.eqGuardType P.depth k = false := by simpa using h3
        have heq := cmp_struct (w := w) (g := g) (hp := hp) (n := 8) (m := 9991) (fun t n' z' h' => cmp_ok 8 9991 t n' z' h') hu h1 (Nat.eq_of_beq_eq_true h2) hx hy he
        refine ⟨run_eqGuard_agg w _ _ _ _ _ _ hg, run_eqGuard_agg w _ _ _ _ _ _ hg, ?_, ?_⟩
        · rw [run_eql_struct]
          show ((Op.equalIn (8 + 9991 + 1) k (.agg us) (.agg vs)).run P w).andThen _ = _
          rw [heq]; rfl
        · rw [run_neq_struct]
          show ((Op.equalIn (8 + 9991 + 1) k (.agg us) (.agg vs)).run P w).andThen _ = _
          rw [heq]; rfl
      · simp at h4
    · exact cmpB_ok hb.2 t ti h hcmp
end

end Go.Proofs.YtdfneaponidfgaaDoor.Eng
/- The engine, part N3: objects get other numbers. -/
set_option linter.unusedVariables false
set_option linter.unusedSimpArgs false
namespace Go.Proofs.YtdfneaponidfgaaDoor.Eng
open Go

mutual
def V.ren (ρ : Nat → Nat) : V → V
  | .undef => .undef
  | .d x => .d x
  | .ref id r e o => .ref (ρ id) r e o
  | .own id => .own (ρ id)
  | .osl t e rows => .osl (ρ t) e rows
  | .view i e lo n => .view (ρ i) e lo n
  | .any => .any
  | .agg cs => .agg (rens ρ cs)
  | .tup cs => .tup (rens ρ cs)
  | .clo f cs => .clo f (rens ρ cs)
def rens (ρ : Nat → Nat) : List V → List V
  | [] => []
  | c :: cs => V.ren ρ c :: rens ρ cs
end
def Obj.ren (ρ : Nat → Nat) : Obj → Obj
  | .box cs => .box (rens ρ cs)
  | .none => .none
  | .dead => .dead
  | .arr f e r => .arr f e r
  | .grow e n => .grow e n
theorem ren_used {ρ : Nat → Nat} (o : Obj) : (o.ren ρ).used = o.used := by cases o <;> rfl
theorem ren_live {ρ : Nat → Nat} (o : Obj) : (o.ren ρ).live = o.live := by cases o <;> rfl
theorem ren_grow {ρ : Nat → Nat} {o : Obj} {e n : Nat} : o.ren ρ = .grow e n ↔ o = .grow e n := by cases o <;> simp [Obj.ren]
def Gh.ren (σ : Nat → Nat) (g : Gh) : Gh := ⟨g.imm, fun i => g.blk (σ i), fun i => g.val (σ i)⟩
def hpRen (ρ σ : Nat → Nat) (hp : Nat → Obj) (i : Nat) : Obj := (hp (σ i)).ren ρ

mutual
theorem rep_ren {ρ σ : Nat → Nat} (h : ∀ i, σ (ρ i) = i) {w : World} {g : Gh} {hp : Nat → Obj} : ∀ (v : V) (u : Value), RepV w (g.ren σ) (hpRen ρ σ hp) (v.ren ρ) u ↔ RepV w g hp v u
  | .undef, u => by simp [V.ren, RepV]
  | .d x, u => by simp [V.ren, RepV, Gh.ren]
  | .ref id r e o, u => by simp only [V.ren, RepV, Gh.ren, hpRen, h, ren_used, ne_eq, ren_grow]
  | .own id, u => by simp only [V.ren, RepV, Gh.ren, hpRen, h, ren_used, ne_eq, ren_grow]
  | .osl id e rows, u => by simp only [V.ren, RepV, Gh.ren, hpRen, h, ren_used, ne_eq, ren_grow]
  | .view .., u => by simp only [V.ren, RepV, Gh.ren, hpRen, h, ren_used, ne_eq, ren_grow]
  | .any, u => by simp only [V.ren, RepV]
  | .agg cs, u => by simp only [V.ren, RepV]; exact exists_congr fun us => and_congr_right fun _ => reps_ren h cs _
  | .tup cs, u => by simp only [V.ren, RepV]; exact exists_congr fun us => and_congr_right fun _ => reps_ren h cs _
  | .clo f cs, u => by simp only [V.ren, RepV]; exact exists_congr fun us => and_congr_right fun _ => reps_ren h cs _
theorem reps_ren {ρ σ : Nat → Nat} (h : ∀ i, σ (ρ i) = i) {w : World} {g : Gh} {hp : Nat → Obj} : ∀ (vs : List V) (us : List Value), RepVs w (g.ren σ) (hpRen ρ σ hp) (rens ρ vs) us ↔ RepVs w g hp vs us
  | [], us => by simp [rens, RepVs]
  | c :: cs, us => by
    simp only [rens, RepVs]
    exact exists_congr fun u => exists_congr fun us' => and_congr_right fun _ => and_congr (rep_ren h c u) (reps_ren h cs us')
end

theorem obj_ren {ρ σ : Nat → Nat} (h : ∀ i, σ (ρ i) = i) {w : World} {g : Gh} {hp : Nat → Obj} (id : Nat) (o : Obj) : ObjRep w (g.ren σ) (hpRen ρ σ hp) (ρ id) (o.ren ρ) ↔ ObjRep w g hp id o := by
  cases o with
  | none => simp [Obj.ren, ObjRep]
  | dead => simp [Obj.ren, ObjRep]
  | box cells => simp only [Obj.ren, ObjRep, reps_ren h]; simp only [Gh.ren, h]
  | arr f e r => simp only [Obj.ren, ObjRep, Gh.ren, h]
  | grow e n => simp only [Obj.ren, ObjRep, Gh.ren, h]

def renP (ρ : Nat → Nat) (p : Nat × Obj) : Nat × Obj := (ρ p.1, p.2.ren ρ)
theorem hpOf_ren {ρ σ : Nat → Nat} (h1 : ∀ i, σ (ρ i) = i) (h2 : ∀ i, ρ (σ i) = i) : ∀ (l : HP), hpOf (l.map (renP ρ)) = hpRen ρ σ (hpOf l)
  | [] => rfl
  | (k, o) :: l => by
    funext i
    have ih := congrFun (hpOf_ren h1 h2 l) i
    unfold hpOf at ih
    show look .none ((ρ k, o.ren ρ) :: l.map (renP ρ)) i = ((look .none ((k, o) :: l) (σ i)).ren ρ)
    unfold look
    cases hb : Nat.beq (σ i) k with
    | true =>
      have := Nat.eq_of_beq_eq_true hb
      have : i = ρ k := by rw [← this, h2]
      subst this
      simp only [Nat.beq_refl]
    | false =>
      have hne : i ≠ ρ k := by rintro rfl; rw [h1] at hb; simp at hb
      cases hb' : Nat.beq i (ρ k) with
      | true => exact absurd (Nat.eq_of_beq_eq_true hb') hne
      | false => exact ih

theorem gren_ren {ρ σ : Nat → Nat} (h : ∀ i, ρ (σ i) = i) (g : Gh) : (g.ren ρ).ren σ = g := by
  unfold Gh.ren
  simp only [h]
theorem hpRen_apply {ρ σ : Nat → Nat} (h : ∀ i, σ (ρ i) = i) (hp : Nat → Obj) (i : Nat) : hpRen ρ σ hp (ρ i) = (hp i).ren ρ := by simp [hpRen, h]

/-- A call's contract, when objects have other numbers. -/
theorem HCalls.ren {P : Program} {G : Nat → V} {f : FuncId} {hin : HP} {args : List V} {φ ψ : V → HP → Prop} (h : HCalls P G f (hpOf hin) args φ) (ρ σ : Nat → Nat) (h1 : ∀ i, σ (ρ i) = i) (h2 : ∀ i, ρ (σ i) = i)
    (hφ : ∀ r l, φ r l → ψ (r.ren ρ) (l.map (renP ρ))) : HCalls P G f (hpOf (hin.map (renP ρ))) (rens ρ args) ψ := by
  obtain ⟨hf, h⟩ := h
  refine ⟨hf, fun w g us hb hG hargs hobj hdist => ?_⟩
  rw [hpOf_ren h1 h2] at hargs hobj hdist ⊢
  have hg := gren_ren (σ := σ) (ρ := ρ) h2 g
  rw [← hg] at hargs hobj
  have hargs' := (reps_ren h1 _ _).1 hargs
  have hobj' : ∀ id, ObjRep w (g.ren ρ) (hpOf hin) id (hpOf hin id) := fun id => by
    have := hobj (ρ id)
    rw [hpRen_apply h1] at this
    exact (obj_ren h1 _ _).1 this
  have hlv : ∀ i, (hpRen ρ σ (hpOf hin) (ρ i)).live = (hpOf hin i).live := fun i => by rw [hpRen_apply h1, ren_live]
  refine (h w (g.ren ρ) us hb hG hargs' hobj' fun i j b hij hi hj hbi => ?_).mono fun e w' hout => ?_
  · exact hdist (ρ i) (ρ j) b (fun e => hij (by rw [← h1 i, e, h1])) (by rw [hlv]; exact hi) (by rw [hlv]; exact hj) hbi
  · have hown : ∀ b, Own (g.ren ρ) (hpOf hin) b ↔ Own g (hpRen ρ σ (hpOf hin)) b := fun b => by
      constructor
      · rintro ⟨id, hl, hb⟩; exact ⟨ρ id, by rw [hlv]; exact hl, hb⟩
      · rintro ⟨id, hl, hb⟩
        refine ⟨σ id, by rw [← hlv, h2]; exact hl, ?_⟩
        show g.blk (ρ (σ id)) = some b
        rw [h2]; exact hb
    obtain ⟨u, r, l, g', q1, q2, q3, q4, q5, q6, q7, q8, q9, q10, q11, q12, q13⟩ := hout.out
    refine ⟨u, r.ren ρ, l.map (renP ρ), g'.ren σ, q1, hφ r l q2, fun p hp => ?_, ?_, fun id => ?_, fun i j b hij hi hj hbi hbj => ?_, q7, q8, fun b hb hn => q9 b hb fun ho => hn ((hown b).1 ho), ?_, fun b o hi hb => ?_, fun id b hl hb => ?_, q13⟩
    · obtain ⟨p', hp', rfl⟩ := List.mem_map.1 hp
      show (p'.2.ren ρ).used = true
      rw [ren_used]; exact q3 p' hp'
    · rw [hpOf_ren h1 h2]; exact (rep_ren h1 _ _).2 q4
    · rw [hpOf_ren h1 h2]
      have := (obj_ren (ρ := ρ) (σ := σ) h1 (σ id) (hpOf l (σ id))).2 (q5 (σ id))
      rw [h2] at this
      exact this
    · rw [hpOf_ren h1 h2] at hi hj
      simp only [hpRen, ren_live] at hi hj
      exact q6 (σ i) (σ j) b (fun e => hij (by rw [← h2 i, e, h2])) hi hj hbi hbj
    · rw [hpOf_ren h1 h2]
      have e1 : g = (g.ren ρ).ren σ := hg.symm
      refine ⟨q10.ext, fun id hu => ?_, fun id hu hn => ?_, fun id hu hn => ?_, fun id hu hn e n => ?_, fun id e n hu hgr => ?_⟩
      · simp only [hpRen, ren_used] at hu ⊢; exact q10.used _ hu
      · simp only [hpRen, ren_used] at hu
        have := q10.blk (σ id) hu (fun e n he => hn e n (by simp only [hpRen, ren_grow]; exact he))
        rw [e1]; exact this
      · simp only [hpRen, ren_used] at hu
        have := q10.val (σ id) hu (fun e n he => hn e n (by simp only [hpRen, ren_grow]; exact he))
        rw [e1]; exact this
      · simp only [hpRen, ren_used] at hu
        simp only [hpRen, ne_eq, ren_grow]
        exact q10.nogrow (σ id) hu (fun e n he => hn e n (by simp only [hpRen, ren_grow]; exact he)) e n
      · simp only [hpRen, ren_used] at hu
        simp only [hpRen, ren_grow] at hgr
        obtain ⟨m, k1, k2, k3⟩ := q10.grow (σ id) e n hu hgr
        refine ⟨m, by simp only [hpRen, ren_grow]; exact k1, k2, fun hm => ?_⟩
        rw [e1]; exact k3 hm
    · rcases q11 b o hi hb with h' | h'
      · exact .inl h'
      · exact .inr ((hown b).1 h')
    · rw [hpOf_ren h1 h2] at hl
      simp only [hpRen, ren_live] at hl
      rcases q12 (σ id) b hl hb with h' | h'
      · exact .inl h'
      · exact .inr ((hown b).1 h')

def swp (i j n : Nat) : Nat := match Nat.beq n i with | true => j | false => match Nat.beq n j with | true => i | false => n
theorem swp_swp (i j n : Nat) : swp i j (swp i j n) = n := by
  have e : ∀ n, swp i j n = if n = i then j else if n = j then i else n := fun n => by
    unfold swp
    by_cases h1 : n = i
    · subst h1; simp
    · have : Nat.beq n i = false := by cases hb : Nat.beq n i with | true => exact absurd (Nat.eq_of_beq_eq_true hb) h1 | false => rfl
      by_cases h2 : n = j
      · subst h2; simp [this, h1]
      · have h' : Nat.beq n j = false := by cases hb : Nat.beq n j with | true => exact absurd (Nat.eq_of_beq_eq_true hb) h2 | false => rfl
        simp [this, h', h1, h2]
  rw [e, e]
  split
  · rename_i h; subst h
    split <;> simp_all
  · split
    · rename_i h; simp [h]
    · rename_i h1 h2; simp [h1, h2]

/-- Two numbers change places. -/
theorem HCalls.swap {P : Program} {G : Nat → V} {f : FuncId} {hin : HP} {args : List V} {φ ψ : V → HP → Prop} (h : HCalls P G f (hpOf hin) args φ) (i j : Nat)
    (hφ : ∀ r l, φ r l → ψ (r.ren (swp i j)) (l.map (renP (swp i j)))) : HCalls P G f (hpOf (hin.map (renP (swp i j)))) (rens (swp i j) args) ψ :=
  h.ren _ _ (swp_swp i j) (swp_swp i j) hφ

mutual
theorem ren_plain {ρ : Nat → Nat} : ∀ (v : V), v.plain = true → v.ren ρ = v
  | .undef, _ => rfl
  | .d _, _ => rfl
  | .ref .., h => by simp [V.plain] at h
  | .own _, h => by simp [V.plain] at h
  | .osl .., h => by simp [V.plain] at h
  | .view .., h => by simp [V.plain] at h
  | .any, h => by simp [V.plain] at h
  | .agg cs, h => by simp only [V.plain] at h; simp only [V.ren, rens_plain cs h]
  | .tup cs, h => by simp only [V.plain] at h; simp only [V.ren, rens_plain cs h]
  | .clo .., h => by simp [V.plain] at h
theorem rens_plain {ρ : Nat → Nat} : ∀ (vs : List V), plains vs = true → rens ρ vs = vs
  | [], _ => rfl
  | c :: cs, h => by
    unfold plains at h
    split at h
    · rename_i hc; simp only [rens, ren_plain c hc, rens_plain cs h]
    · simp at h
end

/-- A call that is given one box of plain cells: whatever the box's number. -/
theorem HCalls.box {P : Program} {G : Nat → V} {f : FuncId} {cells args : List V} {φ : V → List V → Prop} (h : HCalls P G f (hpOf [(1000, .box cells)]) (.ref 1000 0 0 0 :: args) (fun r l => ∃ cells', l = [(1000, .box cells')] ∧ r.plain = true ∧ plains cells' = true ∧ φ r cells'))
    (hc : plains cells = true) (ha : plains args = true) (id : Nat) : HCalls P G f (hpOf [(id, .box cells)]) (.ref id 0 0 0 :: args) (fun r l => ∃ cells', l = [(id, .box cells')] ∧ r.plain = true ∧ plains cells' = true ∧ φ r cells') := by
  have := h.swap (ψ := fun r l => ∃ cells', l = [(id, .box cells')] ∧ r.plain = true ∧ plains cells' = true ∧ φ r cells') 1000 id (by
    rintro r l ⟨cells', rfl, h1, h2, h3⟩
    refine ⟨cells', ?_, ?_, h2, ?_⟩
    · simp [renP, Obj.ren, rens_plain _ h2, swp]
    · rw [ren_plain _ h1]; exact h1
    · rw [ren_plain _ h1]; exact h3)
  simpa [renP, Obj.ren, rens_plain _ hc, rens, V.ren, rens_plain _ ha, swp] using this

end Go.Proofs.YtdfneaponidfgaaDoor.Eng
/- The engine, part Q2: a call that is given objects, from its function's code. -/
set_option linter.unusedVariables false
set_option linter.unusedSimpArgs false
namespace Go.Proofs.YtdfneaponidfgaaDoor.Eng
open Go

variable {E : Env} {s : St} {a : Act} {w : World} {g : Gh} {T : Tab} {C : Ctr} {q : Bool} {o : Oper} {K : St → Prop}

def single : List V → V
  | [v] => v
  | vs => .tup vs
/-- One value, or some, as far as their heads. -/
def withV (vs : List V) (k : V → Prop) : Prop :=
  match vs with
  | [v] => force v k
  | vs => forceL vs fun vs => k (.tup vs)
theorem withV_eq : ∀ (vs : List V) (k : V → Prop), withV vs k = k (single vs)
  | [], k => rfl
  | [v], k => force_eq v k
  | v :: v' :: vs, k => forceL_eq _ _
/-- The objects behind a call. -/
def HRest (s : St) (kp : List Nat) (l : HP) : Prop := weakHp s (l.map (·.1)) l ∧ l.all (fun p => p.2.used) = true ∧ kp.all (fun i => (l.map (·.1)).contains i) = true
def defB : List V → Bool
  | [] => true
  | .undef :: _ => false
  | _ :: r => defB r
def outH (raw : Bool) (T : Tab) (rs : List ResultVar) (kp : List Nat) (s : St) (φ : V → HP → Prop) : Prop :=
  match raw with
  | false => match outVs T s rs with
    | some vs => withV vs fun v => ∃ l, HRest (s.kill ((rs.map (rawV T s)).flatMap (idsV s.hp))) kp l ∧ φ v l
    | none => False
  | true => match defB (rs.map (rawV T s)) with
    | true => withV (rs.map (rawV T s)) fun v => ∃ l, HRest s kp l ∧ okV (l.map (·.1)) v = true ∧ φ v l
    | false => False
def finH (raw : Bool) (T : Tab) (rs : List ResultVar) (kp : List Nat) (φ : V → HP → Prop) : Ex → St → Prop
  | .normal, s => outH raw T rs kp s φ
  | .ret, s => outH raw T rs kp s φ
  | _, _ => False
def initH (hp0 : Nat → Obj) (args : List V) : St := ⟨nthV args, hp0⟩

theorem defB_mem : ∀ {vs : List V}, defB vs = true → ∀ v, v ∈ vs → v ≠ .undef
  | [], _, v, h => by simp at h
  | x :: vs, hd, v, h => by
    cases x with
    | undef => simp [defB] at hd
    | _ =>
      rcases List.mem_cons.1 h with rfl | h
      · simp
      · exact defB_mem (vs := vs) (by simpa [defB] using hd) v h

theorem run_raw (hT : tabB E.P T = true) (h : Rel E s a w g) : ∀ (rs : List ResultVar), (∀ r, r ∈ rs → rawV T s r ≠ .undef) →
    ∃ us : List Value, (rs.mapM (resF a.tmps)).run E.P w = .ok us w ∧ RepVs w g s.hp (rs.map (rawV T s)) us
  | [], _ => ⟨[], by simp, by simp [RepVs]⟩
  | r :: rs, hx => by
    obtain ⟨us, h1, h2⟩ := run_raw hT h rs fun r hr => hx r (List.mem_cons_of_mem _ hr)
    have hne := hx r List.mem_cons_self
    have : ∃ u, (resF a.tmps r).run E.P w = .ok u w ∧ RepV w g s.hp (rawV T s r) u := by
      cases r with
      | tmp t => exact ⟨_, rfl, h.slots t⟩
      | cell t ty =>
        simp only [rawV] at hne ⊢
        have hs := h.slots t
        split at hne
        · rename_i id e ti hsl hti
          rw [hsl] at hs
          simp only [RepV] at hs
          obtain ⟨hu, hng, b, hb, hv⟩ := hs
          have hob := h.objs id
          split at hne
          · rename_i cells hid
            rw [hid] at hob
            obtain ⟨b', us', tt, q1, q2, q3, q4⟩ := hob
            rw [hb] at q1; injection q1 with q1; subst q1
            split at hne
            · rename_i hle
              have hle' := Nat.le_of_ble_eq_true hle
              have hlen := q3.len
              have hr := q3.take ti.size
              have hld := run_loadVarT (tab_ok hT hti) w b 0 (us'.toList.take ti.size) (by simp at hlen ⊢; omega) (fun j v hj => by
                rw [cell_of q2, Nat.zero_add]
                rw [List.getElem?_take] at hj
                split at hj
                · simpa using hj
                · simp at hj)
              refine ⟨_, ?_, repV_mkV hr ti.agg⟩
              show (do loadVar ty (← asAddr (a.tmps.getD t Go.undef)) : Sem Value).run E.P w = _
              rw [hv]
              simp only [Nat.zero_mul, asAddr, Sem.run_bind, Sem.run_pure, Result.andThen_ok, hld]
            · exact absurd rfl hne
          · exact absurd rfl hne
        · exact absurd rfl hne
    obtain ⟨u, h3, h4⟩ := this
    refine ⟨u :: us, ?_, by simp only [List.map_cons, RepVs]; exact ⟨u, us, rfl, h4, h2⟩⟩
    simp only [List.mapM_cons, Sem.run_bind, h3, h1, Result.andThen_ok, Sem.run_pure]

theorem single_rep {w : World} {g : Gh} {hp : Nat → Obj} {vs : List V} {us : List Value} (h : RepVs w g hp vs us) : RepV w g hp (single vs) (if h : us.toArray.size = 1 then us.toArray[0] else .tuple us.toArray) := by
  have hl := RepVs.len h
  match vs, us, h with
  | [], [], h => simp [single, RepV]; exact h
  | [v], [u], h => simp only [RepVs] at h; obtain ⟨u', us', e, h1, _⟩ := h; injection e with e1 _; subst e1; simpa [single] using h1
  | v :: v' :: vs, u :: u' :: us, h =>
    have : ¬ (u :: u' :: us).toArray.size = 1 := by simp
    rw [dif_neg this]
    simp only [single, RepV]
    exact ⟨_, rfl, h⟩
  | [], _ :: _, _ => simp at hl
  | _ :: _, [], _ => simp at hl
  | [v], u :: u' :: us, _ => simp at hl
  | v :: v' :: vs, [u], _ => simp at hl

/-- What a state says of the objects that are left. -/
theorem left_out {kp : List Nat} {l : HP} {φ : V → HP → Prop} {v : V} {u : Value} {w0 : World} {g0 : Gh} {hp0 : Nat → Obj} (hn : E.n0 = w0.heap.size) (ho : E.own0 = Own g0 hp0) (hw : E.w0 = w0) (hg : E.g0 = g0) (hh : E.hp0 = hp0) (hi : E.i0 = g0.imm)
    (hkp : ∀ id, (E.hp0 id).used = true → id ∈ kp) (h : Rel E s a w g) (hl : HRest s kp l) (hv : RepV w g (hpOf l) v u) (hφ : φ v l) : HOut w0 g0 hp0 φ (.returned u) w := by
  subst hw; subst hg; subst hh
  obtain ⟨hwk, hus, hk⟩ := hl
  have hids : ∀ id, id ∈ l.map (·.1) → hpOf l id = s.hp id := fun id hi => (hpOf_in hwk id hi).1.symm
  have hus' : ∀ p, p ∈ l → p.2.used = true := fun p hp => List.all_eq_true.1 hus p hp
  have hno : ∀ id, (hpOf l id).used = true → id ∈ l.map (·.1) := fun id hi => (hpOf_used hus').2 hi
  have hin1 : ∀ i, (hpOf l i).live = true → (s.hp i).live = true := fun i hi => by rw [← hids i (hno i (Obj.live_used hi))]; exact hi
  refine ⟨u, v, l, g, rfl, hφ, hus', hv, fun id => ?_, fun i j b hij hi hj => h.dist i j b hij (hin1 i hi) (hin1 j hj), h.bound, by rw [← hn]; exact h.size, fun b hb hno' => h.frame b (by rw [hn]; exact hb) (by rw [ho]; exact hno'), ?_, fun b o hi' hb => ?_, fun id b hi' hb => ?_, h.io⟩
  · cases hlive : (hpOf l id).live with
    | false => cases hh : hpOf l id <;> simp_all [Obj.live, ObjRep]
    | true =>
      have hi := hno id (Obj.live_used hlive)
      have hob := h.objs id
      obtain ⟨q1, q2⟩ := hpOf_in hwk id hi
      rw [q1] at hob q2
      cases hh : hpOf l id with
      | none => trivial
      | dead => trivial
      | box cells =>
        rw [hh] at hob q2
        obtain ⟨b, us, e, p1, p2, p3, p4⟩ := hob
        exact ⟨b, us, e, p1, p2, RepVs.weak hids _ _ q2 p3, p4⟩
      | arr full e rows => rw [hh] at hob; exact hob
      | grow e n => rw [hh] at hob; exact hob
  · refine gext_weak (fun id hu => hids id ?_) h.old
    have := List.all_eq_true.1 hk id (hkp id hu)
    simpa using this
  · have := h.fresh b o hi' (by rw [hn]; exact hb)
    rw [hi, ho] at this; exact this
  · have := h.low id b (hin1 id hi') hb
    rw [hn, ho] at this; exact this

/-- A contract of a function that is given objects, by its code. -/
theorem hcalls_intro {P : Program} {G : Nat → V} {T : Tab} {C : Ctr} {f : FuncId} {fn : Func} {c : Code} (hf : P.funcs[f]? = some fn) (hb : fn.body = some c) (hn : (fn.name == "runtime.NumGoroutine") = false)
    (hT : tabB P T = true) (hcmp : ∀ t ti, T.get t = some ti → ti.cmp = true → CmpOk P t ti.zero) (hC : ∀ f args φ, C.pure f args φ → ACalls P G f args φ) (hH : ∀ f hp0 args φ, C.heap f hp0 args φ → HCalls P G f hp0 args φ)
    {hp0 : Nat → Obj} (hkp : ∀ id, (hp0 id).used = true → id ∈ C.keep) {args : List V} {φ : V → HP → Prop} (hnt : args.length ≤ fn.ntmps)
    (hc : ∀ E : Env, E.P = P → E.nt = fn.ntmps → E.glob = G → E.hp0 = hp0 → CodeOk E T C c) (raw : Bool)
    (hk : aWp T G C c (finH raw T fn.results.toList C.keep φ) (initH hp0 args)) : HCalls P G f hp0 args φ := by
  refine ⟨⟨fn, c, hf, hb, hn⟩, fun w g0 us hbd hG hargs hobj hdist => ?_⟩
  let E : Env := { P := P, nt := fn.ntmps, n0 := w.heap.size, own0 := Own g0 hp0, w0 := w, i0 := g0.imm, glob := G, g0 := g0, hp0 := hp0 }
  have hlen := RepVs.len hargs
  refine calls_of_wp hf hb ?_
  have hrel : Rel E (initH hp0 args) { tmps := us.toArray ++ Array.replicate (fn.ntmps - us.toArray.size) Go.undef, defers := [] } w g0 := by
    refine ⟨fun t => ?_, hobj, hdist, hbd, hG, fun id b hi hb => .inr ⟨id, hi, hb⟩, fun b hb _ => rfl, Nat.le_refl _, Ext.refl _ _, fun b o hi hb => .inl hi, ?_, rfl, GExt.refl _ _ _, ⟨rfl, rfl⟩⟩
    · show RepV w g0 hp0 (nthV args t) _
      rw [nthV_eq]
      cases ht : args[t]? with
      | none => simp [RepV]
      | some v =>
        obtain ⟨u, hu, hr⟩ := RepVs.get hargs ht
        have htl := (List.getElem?_eq_some_iff.1 hu).1
        have : (us.toArray ++ Array.replicate (fn.ntmps - us.toArray.size) Go.undef).getD t Go.undef = u := by
          rw [Array.getD_eq_getD_getElem?, Array.getElem?_append_left (by simpa using htl)]
          simp [hu]
        rw [this]
        exact hr
    · show (us.toArray ++ Array.replicate (fn.ntmps - us.toArray.size) Go.undef).size = fn.ntmps
      simp; omega
  have hB : Base E T C := ⟨hT, hcmp, hC, hH, hkp⟩
  refine Code.wp_mono ?_ (aWp_sound hB c _ _ _ w _ (hc E rfl rfl rfl rfl) hrel hk)
  rintro e a' w' ⟨s', g', hr, hq⟩
  have key : outH raw T fn.results.toList C.keep s' φ → a'.defers = [] ∧ ∃ v, (results fn a'.tmps).run P w' = .ok v w' ∧ HOut w g0 hp0 φ (.returned v) w' := by
    intro ho
    refine ⟨hr.defers, ?_⟩
    have hres : ∀ us' : List Value, (fn.results.toList.mapM (resF a'.tmps)).run P w' = .ok us' w' → (results fn a'.tmps).run P w' = .ok (if h : us'.toArray.size = 1 then us'.toArray[0] else .tuple us'.toArray) w' := fun us' h1 => by
      rw [results_eq, Array.mapM_eq_mapM_toList]
      simp only [Sem.run_bind, Sem.run_map, h1, Result.andThen_ok, Sem.run_pure]
    cases raw with
    | false =>
      simp only [outH, outVs] at ho
      cases hv : pureVs s'.hp (fn.results.toList.map (rawV T s')) with
      | none => simp [hv] at ho
      | some vs =>
        simp only [hv, withV_eq] at ho
        obtain ⟨l, hl, hφ⟩ := ho
        obtain ⟨us', h1, h2⟩ := run_results (E := E) hT hr fn.results.toList vs hv
        generalize hids : (fn.results.toList.map (rawV T s')).flatMap (idsV s'.hp) = ids at hl
        have hus := idss_used hr (fun v u => idsV_used hr v u) h2
        rw [hids] at hus
        obtain ⟨hK, _⟩ := rel_kill hr ids hus
        have hp := pureVs_ok (ids := ids) hr h2 hv (fun id hi => by rw [← hids]; exact hi)
        refine ⟨_, hres us' h1, left_out (E := E) rfl rfl rfl rfl rfl rfl hkp hK hl ?_ hφ⟩
        exact single_rep (RepPs.to rfl _ _ _ hp)
    | true =>
      simp only [outH] at ho
      split at ho
      · rename_i hd
        simp only [withV_eq] at ho
        obtain ⟨l, hl, hok, hφ⟩ := ho
        obtain ⟨us', h1, h2⟩ := run_raw (E := E) hT hr fn.results.toList fun r hr => defB_mem hd _ (List.mem_map.2 ⟨r, hr, rfl⟩)
        refine ⟨_, hres us' h1, left_out (E := E) rfl rfl rfl rfl rfl rfl hkp hr hl ?_ hφ⟩
        exact RepV.weak (fun id hi => (hpOf_in hl.1 id hi).1.symm) _ _ hok (single_rep h2)
      · exact ho.elim
  cases e with
  | normal => exact key hq
  | ret => exact key hq
  | exit i => exact hq.elim
  | goto l => exact hq.elim
  | panic c => exact hq.elim
  | outgrown => exact hq.elim

end Go.Proofs.YtdfneaponidfgaaDoor.Eng
/- The engine, part W: a function's contract out of its code. -/
set_option linter.unusedVariables false
set_option linter.unusedSimpArgs false
namespace Go.Proofs.YtdfneaponidfgaaDoor.Eng
open Go

def bodyOf (fn : Func) : Code := match fn.body with | some c => c | none => .skip
def fnB (fn : Func) : Bool := match fn.body with
  | some c => codeB fn.ntmps c && !(fn.name == "runtime.NumGoroutine")
  | none => false

structure TabOk (P : Program) (T : Tab) : Prop where
  tab : tabB P T = true
  cmp : cmpB P T = true
  any : P.follows .mixedOrders = true

/-- The contracts of a program. -/
def ctr (P : Program) (G : Nat → V) (own : List Nat := []) (kd : List Nat := []) (kp : List Nat := []) (ro : List Nat := []) (lend : List Nat := []) : Ctr := ⟨ACalls P G, HCalls P G, fun f => kd.contains f, fun f => ro.contains f, fun d => own.contains d, kp, fun f => lend.contains f⟩

theorem spec_ln {P : Program} {G : Nat → V} {T : Tab} (hT : TabOk P T) {f : FuncId} {fn : Func} (hf : P.funcs[f]? = some fn) (hB : fnB fn = true) {args : List V} {φ : V → Prop} (own kd ro lend : List Nat) (hnt : Nat.ble args.length fn.ntmps = true)
    (hk : aWp T G (ctr P G own kd [] ro lend) (bodyOf fn) (finQ T fn.results.toList φ) (initSt args)) : ACalls P G f args φ := by
  unfold fnB at hB
  cases hb : fn.body with
  | none => simp [hb] at hB
  | some c =>
    simp only [hb, Bool.and_eq_true, Bool.not_eq_true'] at hB
    have hc : bodyOf fn = c := by simp [bodyOf, hb]
    rw [hc] at hk
    have hcmp := cmpB_ok hT.cmp
    refine acalls_intro (C := ctr P G own kd [] ro lend) hf hb hB.2 hT.tab hcmp (fun _ _ _ h => h) (fun _ _ _ _ h => h) (Nat.le_of_ble_eq_true hnt) (fun E hP hn hG hH => ?_) hk
    subst hP; subst hG
    exact codeB_ok ⟨hT.tab, hcmp, fun _ _ _ h => h, fun _ _ _ _ h => h, fun id hu => by rw [hH] at hu; simp [Obj.used] at hu⟩ hT.any c (by rw [hn]; exact hB.1)

theorem spec_own {P : Program} {G : Nat → V} {T : Tab} (hT : TabOk P T) {f : FuncId} {fn : Func} (hf : P.funcs[f]? = some fn) (hB : fnB fn = true) {args : List V} {φ : V → Prop} (own kd : List Nat) (hnt : Nat.ble args.length fn.ntmps = true)
    (hk : aWp T G (ctr P G own kd) (bodyOf fn) (finQ T fn.results.toList φ) (initSt args)) : ACalls P G f args φ := spec_ln hT hf hB own kd [] [] hnt hk

theorem spec_intro {P : Program} {G : Nat → V} {T : Tab} (hT : TabOk P T) {f : FuncId} {fn : Func} (hf : P.funcs[f]? = some fn) (hB : fnB fn = true) {args : List V} {φ : V → Prop} (hnt : Nat.ble args.length fn.ntmps = true)
    (hk : aWp T G (ctr P G) (bodyOf fn) (finQ T fn.results.toList φ) (initSt args)) : ACalls P G f args φ := spec_own hT hf hB [] [] hnt hk

/-- A contract of a function that is given objects. -/
theorem hspec_ln {P : Program} {G : Nat → V} {T : Tab} (hT : TabOk P T) {f : FuncId} {fn : Func} (hf : P.funcs[f]? = some fn) (hB : fnB fn = true) {hin : HP} {args : List V} {φ : V → HP → Prop} (raw : Bool) (own kd ro lend : List Nat) (hnt : Nat.ble args.length fn.ntmps = true)
    (hk : aWp T G (ctr P G own kd (hin.map (·.1)) ro lend) (bodyOf fn) (finH raw T fn.results.toList (hin.map (·.1)) φ) (initH (hpOf hin) args)) : HCalls P G f (hpOf hin) args φ := by
  unfold fnB at hB
  cases hb : fn.body with
  | none => simp [hb] at hB
  | some c =>
    simp only [hb, Bool.and_eq_true, Bool.not_eq_true'] at hB
    have hc : bodyOf fn = c := by simp [bodyOf, hb]
    rw [hc] at hk
    have hcmp := cmpB_ok hT.cmp
    have hkp : ∀ id, (hpOf hin id).used = true → id ∈ hin.map (·.1) := fun id hu => by
      apply Classical.byContradiction
      intro hn
      rw [(overlay_out (hp := fun _ => .none) hn).2] at hu; simp [Obj.used] at hu
    refine hcalls_intro (C := ctr P G own kd (hin.map (·.1)) ro lend) hf hb hB.2 hT.tab hcmp (fun _ _ _ h => h) (fun _ _ _ _ h => h) hkp (Nat.le_of_ble_eq_true hnt) (fun E hP hn hG hH => ?_) raw hk
    subst hP; subst hG
    exact codeB_ok ⟨hT.tab, hcmp, fun _ _ _ h => h, fun _ _ _ _ h => h, fun id hu => hkp id (by rw [← hH]; exact hu)⟩ hT.any c (by rw [hn]; exact hB.1)

theorem hspec_ro {P : Program} {G : Nat → V} {T : Tab} (hT : TabOk P T) {f : FuncId} {fn : Func} (hf : P.funcs[f]? = some fn) (hB : fnB fn = true) {hin : HP} {args : List V} {φ : V → HP → Prop} (raw : Bool) (own kd ro : List Nat) (hnt : Nat.ble args.length fn.ntmps = true)
    (hk : aWp T G (ctr P G own kd (hin.map (·.1)) ro) (bodyOf fn) (finH raw T fn.results.toList (hin.map (·.1)) φ) (initH (hpOf hin) args)) : HCalls P G f (hpOf hin) args φ := hspec_ln hT hf hB raw own kd ro [] hnt hk

theorem hspec {P : Program} {G : Nat → V} {T : Tab} (hT : TabOk P T) {f : FuncId} {fn : Func} (hf : P.funcs[f]? = some fn) (hB : fnB fn = true) {hin : HP} {args : List V} {φ : V → HP → Prop} (raw : Bool) (own kd : List Nat) (hnt : Nat.ble args.length fn.ntmps = true)
    (hk : aWp T G (ctr P G own kd (hin.map (·.1))) (bodyOf fn) (finH raw T fn.results.toList (hin.map (·.1)) φ) (initH (hpOf hin) args)) : HCalls P G f (hpOf hin) args φ := hspec_ro hT hf hB raw own kd [] hnt hk

theorem call_mono {P : Program} {G : Nat → V} {f : FuncId} {args : List V} {φ : V → Prop} (h : ACalls P G f args φ) {ψ : V → Prop} (k : ∀ r, φ r → ψ r) : ∃ φ, ACalls P G f args φ ∧ ∀ r, φ r → ψ r := ⟨φ, h, k⟩
theorem call_eq {P : Program} {G : Nat → V} {f : FuncId} {args : List V} {r : V} (h : ACalls P G f args (· = r)) {ψ : V → Prop} (k : ψ r) : ∃ φ, ACalls P G f args φ ∧ ∀ r, φ r → ψ r := ⟨_, h, fun _ e => e ▸ k⟩
theorem drawn_eq {P : Program} {G : Nat → V} {f : FuncId} {args : List V} {r : V} (h : ACalls P G f args (· = r)) {ψ : V → Prop} (k : ψ r) : ∃ r, ACalls P G f args (· = r) ∧ ψ r := ⟨r, h, k⟩

theorem call_eq' {P : Program} {G : Nat → V} {f : FuncId} {args args' : List V} {r : V} (h : ACalls P G f args (· = r)) (e : args' = args) {ψ : V → Prop} (k : ψ r) : ∃ φ, ACalls P G f args' φ ∧ ∀ r, φ r → ψ r := by subst e; exact call_eq h k
theorem drawn_eq' {P : Program} {G : Nat → V} {f : FuncId} {args args' : List V} {r : V} (h : ACalls P G f args (· = r)) (e : args' = args) {ψ : V → Prop} (k : ψ r) : ∃ r, ACalls P G f args' (· = r) ∧ ψ r := by subst e; exact ⟨r, h, k⟩
theorem call_bool {P : Program} {G : Nat → V} {f : FuncId} {args : List V} {b : Bool} (h : ACalls P G f args (· = .d (.bool b))) {ψ : V → Prop} (kt : b = true → ψ (.d (.bool true))) (kf : b = false → ψ (.d (.bool false))) :
    ∃ φ, ACalls P G f args φ ∧ ∀ r, φ r → ψ r := ⟨_, h, fun _ e => by cases b <;> simp_all⟩
theorem call_bool' {P : Program} {G : Nat → V} {f : FuncId} {args args' : List V} {b : Bool} (h : ACalls P G f args (· = .d (.bool b))) (e : args' = args) {ψ : V → Prop} (kt : b = true → ψ (.d (.bool true))) (kf : b = false → ψ (.d (.bool false))) :
    ∃ φ, ACalls P G f args' φ ∧ ∀ r, φ r → ψ r := by subst e; exact call_bool h kt kf
theorem drawn_bool {P : Program} {G : Nat → V} {f : FuncId} {args : List V} {b : Bool} (h : ACalls P G f args (· = .d (.bool b))) {ψ : V → Prop} (kt : b = true → ψ (.d (.bool true))) (kf : b = false → ψ (.d (.bool false))) :
    ∃ r, ACalls P G f args (· = r) ∧ ψ r := ⟨_, h, by cases b <;> simp_all⟩
theorem HCalls.mono {P : Program} {G : Nat → V} {f : FuncId} {hp0 : Nat → Obj} {args : List V} {φ ψ : V → HP → Prop} (h : HCalls P G f hp0 args φ) (k : ∀ r l, φ r l → ψ r l) : HCalls P G f hp0 args ψ :=
  ⟨h.1, fun w g us h1 h2 h3 h4 h5 => (h.2 w g us h1 h2 h3 h4 h5).mono fun e w' ho => ⟨by
    obtain ⟨u, r, l, g', q1, q2, q3⟩ := ho.out
    exact ⟨u, r, l, g', q1, k r l q2, q3⟩⟩⟩
/-- What a call says that is given one box, and changes it. -/
abbrev Box1 (id : Nat) (R : V) (c' : List V) : V → HP → Prop := fun r l => ∃ c, l = [(id, .box c)] ∧ r.plain = true ∧ plains c = true ∧ (r = R ∧ c = c')
theorem hcall_box {P : Program} {G : Nat → V} {f : FuncId} {id : Nat} {cells c' args : List V} {R : V} (h : HCalls P G f (hpOf [(id, .box cells)]) args (Box1 id R c')) {s : St} (hs : s.hp id = .box cells) (ho : okVs [id] cells = true) (ha : okVs [id] args = true) {K : HP → V → HP → Prop}
    (k : K [(id, .box cells)] R [(id, .box c')]) : ∃ hin φ, HCalls P G f (hpOf hin) args φ ∧ weakHp s (hin.map (·.1)) hin ∧ okVs (hin.map (·.1)) args = true ∧ ∀ r l, φ r l → K hin r l :=
  ⟨_, _, h, ⟨hs, ho, trivial⟩, ha, fun r l ⟨c, h1, _, _, h2, h3⟩ => by subst h1; subst h2; subst h3; exact k⟩
theorem drawn_box {P : Program} {G : Nat → V} {f : FuncId} {id : Nat} {cells c' args : List V} {R : V} (h : HCalls P G f (hpOf [(id, .box cells)]) args (Box1 id R c')) {K : V → List V → Prop}
    (k : K R c') : ∃ r cells', HCalls P G f (hpOf [(id, .box cells)]) args (fun r' l => r' = r ∧ l = [(id, .box cells')]) ∧ K r cells' :=
  ⟨_, _, h.mono fun r l ⟨c, h1, _, _, h2, h3⟩ => ⟨h2, by subst h3; exact h1⟩, k⟩
def vi (n : Int) : V := .d (.int .i64 n)
def vb (b : Bool) : V := .d (.bool b)
abbrev G0 : Nat → V := fun _ => .undef
theorem row_map {α : Type} {f : α → List D} {l : List α} {i : Nat} {x : α} (h : l[i]? = some x) : (l.map f)[i]? = some (f x) := by simp [h]
theorem wrap_id {n : Int} (h1 : -9223372036854775808 ≤ n) (h2 : n ≤ 9223372036854775807) : IntKind.i64.wrap n = n := by
  simp only [IntKind.wrap, IntKind.bits, IntKind.signed]
  simp
  split <;> omega
theorem wrap_range (n : Int) : -9223372036854775808 ≤ IntKind.i64.wrap n ∧ IntKind.i64.wrap n ≤ 9223372036854775807 := by
  simp only [IntKind.wrap, IntKind.bits, IntKind.signed]
  simp
  split <;> omega

/-- A loop that counts up. -/
theorem loop_up {T : Tab} {G : Nat → V} {C : Ctr} {b : Code} {Q : Ex → St → Prop} {s : St} (n : Nat) (P : Nat → Prop) (I : Nat → SL) (h0 : P 0) (hw : Weak C.keep s (I 0))
    (hstep : ∀ i, i ≤ n → P i → aWp T G C b (Ex.seq (fun s' => ∃ y : { i : Nat // i ≤ n ∧ P i }, n - y.1 < n - i ∧ Weak C.keep s' (I y.1)) Q) (I i).st) :
    ∃ (ι : Type) (I : ι → SL) (m : ι → Nat) (x0 : ι), Weak C.keep s (I x0) ∧ ∀ x, aWp T G C b (Ex.seq (fun s' => ∃ y, m y < m x ∧ Weak C.keep s' (I y)) Q) (I x).st :=
  ⟨{ i : Nat // i ≤ n ∧ P i }, fun x => I x.1, fun x => n - x.1, ⟨0, Nat.zero_le _, h0⟩, hw, fun x => hstep x.1 x.2.1 x.2.2⟩
theorem up_next {kp : List Nat} {n i : Nat} {P : Nat → Prop} {I : Nat → SL} {s' : St} (h : i < n) (hP : P (i + 1)) (hw : Weak kp s' (I (i + 1))) : ∃ y : { i : Nat // i ≤ n ∧ P i }, n - y.1 < n - i ∧ Weak kp s' (I y.1) :=
  ⟨⟨i + 1, h, hP⟩, by show n - (i + 1) < n - i; omega, hw⟩
theorem wrap_succ {i : Nat} (h : i ≤ 281474976710656) : vi (IntKind.i64.wrap ((i : Int) + 1)) = vi ((i + 1 : Nat) : Int) := congrArg vi (wrap_id (by omega) (by omega))

theorem weakSl_nil {s : St} {ids : List Nat} : weakSl s ids [] := trivial
theorem weakHp_nil {s : St} {ids : List Nat} : weakHp s ids [] := trivial
theorem weakSl_cons {s : St} {ids : List Nat} {k : Nat} {v : V} {r : List (Nat × V)} (h1 : s.sl k = v) (h2 : okV ids v = true) (h3 : weakSl s ids r) : weakSl s ids ((k, v) :: r) := ⟨h1, h2, h3⟩
theorem weakHp_cons {s : St} {ids : List Nat} {k : Nat} {v : Obj} {r : List (Nat × Obj)} (h1 : s.hp k = v) (h2 : okO ids v = true) (h3 : weakHp s ids r) : weakHp s ids ((k, v) :: r) := ⟨h1, h2, h3⟩

end Go.Proofs.YtdfneaponidfgaaDoor.Eng
/- The engine's table of types of this program. -/
namespace Go.Proofs.YtdfneaponidfgaaDoor
open Go Eng
def tab : Tab := [(1, { bytes := 8, zero := [.nilfn] }),
  (2, { bytes := 8, zero := [.int .i64 0], kind := some .i64, scalar := true }),
  (3, { bytes := 8, zero := [.int .i64 0], kind := some .i64, scalar := true }),
  (4, { bytes := 1, zero := [.bool false], bool := true, scalar := true }),
  (5, { bytes := 1, zero := [.int .u8 0], kind := some .u8, scalar := true }),
  (6, { bytes := 1, zero := [.int .u8 0], kind := some .u8, scalar := true }),
  (7, { agg := true, size := 4, bytes := 24, zero := [.int .i64 0, .int .i64 0, .bool false, .int .u8 0], flds := [(0, 1), (1, 1), (2, 1), (3, 1)], scalar := true }),
  (8, { agg := true, size := 4, bytes := 24, zero := [.int .i64 0, .int .i64 0, .bool false, .int .u8 0], flds := [(0, 1), (1, 1), (2, 1), (3, 1)], scalar := true }),
  (9, { bytes := 16, zero := [.str ⟨#[]⟩], str := true, scalar := true }),
  (10, { bytes := 16, zero := [.str ⟨#[]⟩], str := true, scalar := true }),
  (11, { bytes := 16, zero := [.str ⟨#[]⟩], str := true, scalar := true }),
  (12, { bytes := 8, zero := [.int .u64 0], kind := some .u64, scalar := true }),
  (13, { agg := true, size := 2, bytes := 24, zero := [.str ⟨#[]⟩, .int .u64 0], flds := [(0, 1), (1, 1)], scalar := true }),
  (14, { agg := true, size := 2, bytes := 24, zero := [.str ⟨#[]⟩, .int .u64 0], flds := [(0, 1), (1, 1)], scalar := true }),
  (15, { bytes := 8, zero := [.nilp] }),
  (16, { bytes := 8, zero := [.nilp] }),
  (17, { bytes := 8, zero := [.nilp] }),
  (18, { agg := true, size := 1, bytes := 8, zero := [.nilp], flds := [(0, 1)] }),
  (19, { agg := true, size := 1, bytes := 8, zero := [.nilp], flds := [(0, 1)] }),
  (21, { bytes := 4, zero := [.int .i32 0], kind := some .i32, scalar := true }),
  (22, { bytes := 24, zero := [.slc true 5 []], slc := true, elem := 49, esz := 5, ebytes := 40, ezero := [.int .i64 0, .int .i64 0, .int .i64 0, .int .i64 0, .int .i64 0] }),
  (23, { bytes := 8, zero := [.nilfn] }),
  (24, { agg := true, size := 3, bytes := 24, zero := [.int .i64 0, .int .i64 0, .int .i64 0], flds := [(0, 1), (1, 1), (2, 1)], scalar := true }),
  (25, { agg := true, size := 3, bytes := 24, zero := [.int .i64 0, .int .i64 0, .int .i64 0], flds := [(0, 1), (1, 1), (2, 1)], scalar := true, cmp := true }),
  (27, { bytes := 8, zero := [.nilfn] }),
  (28, { bytes := 24, zero := [.slc true 5 []], slc := true, elem := 47, esz := 5, ebytes := 40, ezero := [.int .i64 0, .int .i64 0, .int .i64 0, .int .i64 0, .int .i64 0] }),
  (29, { bytes := 8, zero := [.nilfn] }),
  (30, { bytes := 8, zero := [.nilfn] }),
  (31, { bytes := 8, zero := [.nilfn] }),
  (32, { bytes := 8, zero := [.nilfn] }),
  (33, { bytes := 24, zero := [.slc true 1 []], slc := true, elem := 5, esz := 1, ebytes := 1, ezero := [.int .u8 0] }),
  (35, { bytes := 8, zero := [.nilfn] }),
  (36, { bytes := 8, zero := [.nilfn] }),
  (37, { bytes := 8, zero := [.nilfn] }),
  (38, { bytes := 24, zero := [.slc true 5 []], slc := true, elem := 63, esz := 5, ebytes := 40, ezero := [.int .i64 0, .int .i64 0, .int .i64 0, .int .i64 0, .int .i64 0] }),
  (39, { bytes := 24, zero := [.slc true 1 []], slc := true, elem := 3, esz := 1, ebytes := 8, ezero := [.int .i64 0] }),
  (40, { agg := true, size := 3, bytes := 72, zero := [.slc true 5 [], .slc true 1 [], .slc true 1 []], flds := [(0, 1), (1, 1), (2, 1)] }),
  (41, { agg := true, size := 3, bytes := 72, zero := [.slc true 5 [], .slc true 1 [], .slc true 1 []], flds := [(0, 1), (1, 1), (2, 1)] }),
  (42, { bytes := 8, zero := [.nilfn] }),
  (43, { bytes := 8, zero := [.nilfn] }),
  (44, { bytes := 8, zero := [.nilfn] }),
  (45, { bytes := 8, zero := [.nilfn] }),
  (46, { agg := true, size := 5, bytes := 40, zero := [.int .i64 0, .int .i64 0, .int .i64 0, .int .i64 0, .int .i64 0], flds := [(0, 1), (1, 1), (2, 1), (3, 1), (4, 1)], scalar := true }),
  (47, { agg := true, size := 5, bytes := 40, zero := [.int .i64 0, .int .i64 0, .int .i64 0, .int .i64 0, .int .i64 0], flds := [(0, 1), (1, 1), (2, 1), (3, 1), (4, 1)], scalar := true, cmp := true }),
  (48, { bytes := 8, zero := [.nilfn] }),
  (49, { agg := true, size := 5, bytes := 40, zero := [.int .i64 0, .int .i64 0, .int .i64 0, .int .i64 0, .int .i64 0], flds := [(0, 1), (1, 1), (2, 1), (3, 1), (4, 1)], scalar := true, cmp := true }),
  (50, { bytes := 8, zero := [.nilfn] }),
  (51, { bytes := 8, zero := [.nilfn] }),
  (52, { bytes := 8, zero := [.nilfn] }),
  (53, { bytes := 8, zero := [.nilp] }),
  (54, { bytes := 8, zero := [.nilfn] }),
  (55, { bytes := 8, zero := [.nilfn] }),
  (56, { bytes := 8, zero := [.nilfn] }),
  (57, { bytes := 8, zero := [.nilfn] }),
  (58, { bytes := 4, zero := [.int .u32 0], kind := some .u32, scalar := true }),
  (59, { bytes := 8, zero := [.int .u64 0], kind := some .u64, scalar := true }),
  (60, { bytes := 8, zero := [.nilfn] }),
  (61, { bytes := 8, zero := [.nilfn] }),
  (62, { agg := true, size := 5, bytes := 40, zero := [.int .i64 0, .int .i64 0, .int .i64 0, .int .i64 0, .int .i64 0], flds := [(0, 1), (1, 1), (2, 1), (3, 1), (4, 1)], scalar := true }),
  (63, { agg := true, size := 5, bytes := 40, zero := [.int .i64 0, .int .i64 0, .int .i64 0, .int .i64 0, .int .i64 0], flds := [(0, 1), (1, 1), (2, 1), (3, 1), (4, 1)], scalar := true, cmp := true }),
  (64, { bytes := 8, zero := [.nilfn] }),
  (65, { bytes := 8, zero := [.nilfn] }),
  (66, { bytes := 8, zero := [.nilfn] }),
  (67, { bytes := 8, zero := [.nilfn] }),
  (69, { bytes := 8, zero := [.nilfn] }),
  (70, { bytes := 8, zero := [.nilfn] }),
  (71, { agg := true, size := 2, bytes := 32, zero := [.slc true 1 [], .int .i64 0], flds := [(0, 1), (1, 1)] }),
  (72, { agg := true, size := 2, bytes := 32, zero := [.slc true 1 [], .int .i64 0], flds := [(0, 1), (1, 1)] }),
  (73, { bytes := 8, zero := [.nilfn] }),
  (74, { bytes := 8, zero := [.nilfn] }),
  (75, { bytes := 8, zero := [.nilfn] }),
  (76, { bytes := 8, zero := [.nilp] }),
  (77, { agg := true, size := 2, bytes := 32, zero := [.nilp, .slc true 1 []], flds := [(0, 1), (1, 1)] }),
  (78, { agg := true, size := 2, bytes := 32, zero := [.nilp, .slc true 1 []], flds := [(0, 1), (1, 1)] }),
  (82, { bytes := 8, zero := [.nilfn] }),
  (83, { bytes := 8, zero := [.nilfn] }),
  (84, { bytes := 8, zero := [.nilfn] }),
  (85, { bytes := 8, zero := [.nilfn] }),
  (86, { bytes := 8, zero := [.nilfn] }),
  (87, { bytes := 8, zero := [.nilfn] }),
  (88, { bytes := 8, zero := [.nilfn] }),
  (89, { bytes := 8, zero := [.nilp] }),
  (90, { bytes := 8, zero := [.nilfn] }),
  (91, { bytes := 8, zero := [.nilfn] }),
  (92, { bytes := 8, zero := [.nilfn] }),
  (93, { bytes := 8, zero := [.nilfn] }),
  (95, { bytes := 8, zero := [.nilfn] }),
  (96, { bytes := 8, zero := [.nilfn] }),
  (97, { bytes := 8, zero := [.nilfn] }),
  (98, { bytes := 8, zero := [.nilfn] }),
  (99, { bytes := 8, zero := [.nilp] }),
  (100, { bytes := 8, zero := [.nilfn] }),
  (101, { bytes := 8, zero := [.nilp] }),
  (102, { bytes := 8, zero := [.nilp] }),
  (103, { bytes := 8, zero := [.nilfn] }),
  (104, { bytes := 8, zero := [.nilfn] }),
  (105, { bytes := 8, zero := [.nilfn] }),
  (107, { bytes := 8, zero := [.int .u64 0], kind := some .u64, scalar := true }),
  (108, { bytes := 8, zero := [.nilfn] }),
  (109, { bytes := 8, zero := [.nilfn] }),
  (111, { bytes := 8, zero := [.nilfn] }),
  (112, { bytes := 8, zero := [.nilfn] }),
  (113, { bytes := 8, zero := [.nilfn] }),
  (114, { bytes := 8, zero := [.nilfn] }),
  (115, { bytes := 8, zero := [.nilfn] }),
  (116, { bytes := 8, zero := [.nilfn] }),
  (119, { bytes := 8, zero := [.nilfn] }),
  (120, { bytes := 8, zero := [.nilfn] }),
  (121, { bytes := 8, zero := [.nilfn] }),
  (124, { agg := true, size := 4, bytes := 40, zero := [.nilp, .nilp, .nilp, .str ⟨#[]⟩], flds := [(0, 1), (1, 1), (2, 1), (3, 1)] }),
  (125, { agg := true, size := 4, bytes := 40, zero := [.nilp, .nilp, .nilp, .str ⟨#[]⟩], flds := [(0, 1), (1, 1), (2, 1), (3, 1)] }),
  (129, { bytes := 8, zero := [.nilfn] }),
  (130, { bytes := 1, zero := [.int .u8 0], kind := some .u8, scalar := true }),
  (131, { bytes := 1, zero := [.int .u8 0], kind := some .u8, scalar := true }),
  (132, { bytes := 8, zero := [.nilfn] }),
  (133, { bytes := 4, zero := [.int .i32 0], kind := some .i32, scalar := true }),
  (134, { bytes := 4, zero := [.int .i32 0], kind := some .i32, scalar := true }),
  (135, { agg := true, size := 11, bytes := 48, zero := [.int .u64 0, .int .u64 0, .int .u32 0, .int .u8 0, .int .u8 0, .int .u8 0, .int .u8 0, .nilfn, .nilp, .int .i32 0, .int .i32 0], flds := [(0, 1), (1, 1), (2, 1), (3, 1), (4, 1), (5, 1), (6, 1), (7, 1), (8, 1), (9, 1), (10, 1)] }),
  (136, { agg := true, size := 11, bytes := 48, zero := [.int .u64 0, .int .u64 0, .int .u32 0, .int .u8 0, .int .u8 0, .int .u8 0, .int .u8 0, .nilfn, .nilp, .int .i32 0, .int .i32 0], flds := [(0, 1), (1, 1), (2, 1), (3, 1), (4, 1), (5, 1), (6, 1), (7, 1), (8, 1), (9, 1), (10, 1)] })]

end Go.Proofs.YtdfneaponidfgaaDoor
/- The table of types of this program is right. -/
namespace Go.Proofs.YtdfneaponidfgaaDoor
open Go Eng
theorem tabOk : TabOk Tryd.prog tab := ⟨by kernel_rfl, by kernel_rfl, by kernel_rfl⟩
end Go.Proofs.YtdfneaponidfgaaDoor
/- Games, figures and asks as plain data, and how the program holds them. -/
set_option linter.unusedVariables false
namespace Go.Proofs.YtdfneaponidfgaaDoor
open Go Eng

structure Ent where
  (client x y life gold : Int)
structure Game where
  ents : List Ent
  floor : List Int
  last : List Int
structure Req where
  (client num op x y : Int)
def encI (n : Int) : List D := [.int .i64 n]
def encEnt (e : Ent) : List D := [.int .i64 e.client, .int .i64 e.x, .int .i64 e.y, .int .i64 e.life, .int .i64 e.gold]
def encReq (r : Req) : List D := [.int .i64 r.client, .int .i64 r.num, .int .i64 r.op, .int .i64 r.x, .int .i64 r.y]
def vEnt (e : Ent) : V := .agg [vi e.client, vi e.x, vi e.y, vi e.life, vi e.gold]
def vReq (r : Req) : V := .agg [vi r.client, vi r.num, vi r.op, vi r.x, vi r.y]
def dInts (a : Bool) (l : List Int) : D := .slc a 1 (l.map encI)
def dEnts (a : Bool) (l : List Ent) : D := .slc a 5 (l.map encEnt)
def vGame (a b c : Bool) (g : Game) : V := .agg [.d (dEnts a g.ents), .d (dInts b g.floor), .d (dInts c g.last)]

def inB (n lo hi : Int) : Bool := decide (lo ≤ n ∧ n ≤ hi)
theorem inB_t {n lo hi : Int} : inB n lo hi = true ↔ lo ≤ n ∧ n ≤ hi := by simp [inB]
theorem inB_f {n lo hi : Int} : inB n lo hi = false ↔ ¬ (lo ≤ n ∧ n ≤ hi) := by rw [← Bool.not_eq_true, inB_t]
def entOk (e : Ent) : Bool := inB e.client 1 4 && inB e.x 0 3 && inB e.y 0 3 && inB e.life 0 3 && inB e.gold 0 20

structure OkG (g : Game) : Prop where
  ent : ∀ (i : Nat) e, g.ents[i]? = some e → entOk e = true
  ord : ∀ (i : Nat) p e, g.ents[i]? = some p → g.ents[i + 1]? = some e → p.client < e.client
  floor : ∀ (i : Nat) n, g.floor[i]? = some n → inB n 0 20 = true
  last : ∀ (i : Nat) n, g.last[i]? = some n → inB n 0 30 = true
  nfloor : g.floor.length = 16
  nlast : g.last.length = 4
  sum : (g.ents.map Ent.gold).sum + g.floor.sum = 20
open Classical in
noncomputable def okG (g : Game) : Bool := decide (OkG g)
theorem okG_t {g : Game} (h : OkG g) : okG g = true := by simp [okG, h]
theorem okG_f {g : Game} (h : ¬ OkG g) : okG g = false := by simp [okG, h]
theorem of_okG {g : Game} (h : okG g = true) : OkG g := by simpa [okG] using h

theorem sum_succ {l : List Int} {i : Nat} {n : Int} (h : l[i]? = some n) : (l.take (i + 1)).sum = (l.take i).sum + n := by
  rw [List.take_add_one, h]; simp
theorem sum_range {l : List Int} {k : Int} (hk : 0 ≤ k) (h : ∀ (i : Nat) n, l[i]? = some n → 0 ≤ n ∧ n ≤ k) : 0 ≤ l.sum ∧ l.sum ≤ k * l.length := by
  induction l with
  | nil => simp
  | cons a l ih =>
    have h1 := h 0 a rfl
    have h2 := ih fun i n hi => h (i + 1) n (by simpa using hi)
    simp only [List.sum_cons, List.length_cons, Int.natCast_add, Int.mul_add]
    omega
theorem entsAt {α : Type} {l : List α} {i : Nat} (h : i < l.length) : ∃ e, l[i]? = some e := ⟨l[i], by simp [h]⟩
theorem lt_map {α β : Type} {f : α → β} {l : List α} {i : Nat} (h : (i : Int) < (l.map f).length) : i < l.length := by simpa using h
theorem ge_map {α β : Type} {f : α → β} {l : List α} {i : Nat} (h : ¬ (i : Int) < (l.map f).length) (hi : i ≤ l.length) : i = l.length := by
  have : ¬ i < l.length := fun h' => h (by simpa using h')
  omega
theorem le_map {α β : Type} {f : α → β} {l : List α} {n : Nat} (h : (l.map f).length ≤ n) : l.length ≤ n := by simpa using h
end Go.Proofs.YtdfneaponidfgaaDoor
/- What the reference's checks of a game compute. -/
set_option linter.unusedVariables false
set_option maxRecDepth 10000
namespace Go.Proofs.YtdfneaponidfgaaDoor
open Go Eng

theorem l1In_ok (n lo hi : Int) : ACalls Tryd.prog G0 15 [vi n, vi lo, vi hi] (· = vb (inB n lo hi)) := by
  refine spec_intro tabOk Tryd.func15 (by kernel_rfl) rfl ?_
  conv => whnf
  refine ⟨fun h1 => ?_, fun h1 => ?_⟩ <;> conv => whnf
  · refine ⟨fun h2 => ?_, fun h2 => ?_⟩ <;> conv => whnf
    · simp [vb, inB, *]
    · simp [vb, inB, *]
  · simp [vb, inB, *]

end Go.Proofs.YtdfneaponidfgaaDoor
/- What the reader of a code computes. -/
set_option linter.unusedVariables false
set_option maxRecDepth 10000
namespace Go.Proofs.YtdfneaponidfgaaDoor
open Go Eng

def encB (n : Int) : List D := [.int .u8 n]
abbrev rdC (full : Bool) (bs : List Int) (p : Int) : List V := [.d (.slc full 1 (bs.map encB)), vi p]
def Bytes (bs : List Int) : Prop := ∀ (i : Nat) b, bs[i]? = some b → 0 ≤ b ∧ b ≤ 255
def bAt (bs : List Int) (i : Int) : Int := (bs[i.toNat]?).getD 0
def mixF (bs : List Int) (k : Int) : Int :=
  let x := bAt bs (k.tmod bs.length) * 131 + bAt bs ((k * 7 + 3).tmod bs.length) * 1117 + k * 29 + k.tdiv bs.length * 53
  (BitVec.ofInt 64 x ^^^ BitVec.ofInt 64 (x.tdiv 64)).toNat
def pickF (bs : List Int) (p n : Int) : Int :=
  if n < 1 ∨ bs.length = 0 then 0
  else if p < bs.length then (bAt bs p).tmod n
  else (mixF bs p).tmod n

theorem open_ok (full : Bool) (bs : List Int) : HCalls Tryd.prog G0 26 (hpOf []) [.d (.slc full 1 (bs.map encB))]
    (fun r l => ∃ f' bs', r = .ref 1000 0 0 0 ∧ l = [(1000, .box (rdC f' bs' 0))] ∧ ∀ b, b ∈ bs' → b ∈ bs) := by
  refine HCalls.swap (hin := []) (args := [.d (.slc full 1 (bs.map encB))]) (φ := fun r l => ∃ f' bs', r = .ref 10 0 0 0 ∧ l = [(10, .box (rdC f' bs' 0))] ∧ ∀ b, b ∈ bs' → b ∈ bs) ?_ 10 1000 ?_
  · refine hspec tabOk Tryd.func26 (by kernel_rfl) true [] [] rfl ?_
    conv => whnf
    intro hlen
    refine ⟨fun h => ?_, fun h => ?_⟩ <;> conv => whnf
    · refine ⟨by omega, by omega, ?_⟩
      conv => whnf
      refine ⟨[(10, .box (rdC false (bs.take 2000) 0))], ⟨weakHp_cons ?_ rfl weakHp_nil, rfl, rfl⟩, rfl, false, bs.take 2000, rfl, rfl, fun b hb => List.mem_of_mem_take hb⟩
      show _ = Obj.box [.d (.slc false 1 ((bs.take 2000).map encB)), vi 0]
      rw [List.map_take]; rfl
    · exact ⟨[(10, .box (rdC full bs 0))], ⟨weakHp_cons rfl rfl weakHp_nil, rfl, rfl⟩, rfl, full, bs, rfl, rfl, fun b hb => hb⟩
  · rintro r l ⟨f', bs', rfl, rfl, h⟩
    exact ⟨f', bs', rfl, rfl, h⟩

theorem bAt_row {bs : List Int} {k : Int} (h0 : 0 ≤ k) (h1 : k < bs.length) : (bs.map encB)[k.toNat]? = some (encB (bAt bs k)) := by
  have : k.toNat < bs.length := by omega
  refine row_map ?_
  unfold bAt
  simp [this]
theorem bAt_range {bs : List Int} (hb : Bytes bs) (k : Int) : 0 ≤ bAt bs k ∧ bAt bs k ≤ 255 := by
  unfold bAt
  cases h : bs[k.toNat]? with
  | none => simp
  | some b => exact hb _ _ h

theorem xor_range {a b : Int} (ha : 0 ≤ a) (ha' : a < 4611686018427387904) (hb : 0 ≤ b) (hb' : b < 4611686018427387904) : (0 : Int) ≤ ((BitVec.ofInt 64 a ^^^ BitVec.ofInt 64 b).toNat : Int) ∧ ((BitVec.ofInt 64 a ^^^ BitVec.ofInt 64 b).toNat : Int) < 4611686018427387904 := by
  refine ⟨by omega, ?_⟩
  have : (BitVec.ofInt 64 a ^^^ BitVec.ofInt 64 b).toNat < 2 ^ 62 := by
    rw [BitVec.toNat_xor]
    refine Nat.xor_lt_two_pow ?_ ?_
    · rw [BitVec.toNat_ofInt]; omega
    · rw [BitVec.toNat_ofInt]; omega
  omega
theorem mix_wraps {a b k d : Int} (a0 : 0 ≤ a) (a1 : a ≤ 255) (b0 : 0 ≤ b) (b1 : b ≤ 255) (k0 : 0 ≤ k) (k1 : k ≤ 1099511627776) (d0 : 0 ≤ d) (d1 : d ≤ k) :
    IntKind.i64.wrap ((BitVec.ofInt IntKind.i64.bits (IntKind.i64.wrap (IntKind.i64.wrap (IntKind.i64.wrap (IntKind.i64.wrap (IntKind.i64.wrap a * 131) + IntKind.i64.wrap (IntKind.i64.wrap b * 1117)) + IntKind.i64.wrap (k * 29)) + IntKind.i64.wrap (IntKind.i64.wrap d * 53))) ^^^
      BitVec.ofInt IntKind.i64.bits (IntKind.i64.wrap ((IntKind.i64.wrap (IntKind.i64.wrap (IntKind.i64.wrap (IntKind.i64.wrap (IntKind.i64.wrap a * 131) + IntKind.i64.wrap (IntKind.i64.wrap b * 1117)) + IntKind.i64.wrap (k * 29)) + IntKind.i64.wrap (IntKind.i64.wrap d * 53))).tdiv 64))).toNat : Nat) =
    ((BitVec.ofInt 64 (a * 131 + b * 1117 + k * 29 + d * 53) ^^^ BitVec.ofInt 64 ((a * 131 + b * 1117 + k * 29 + d * 53).tdiv 64)).toNat : Nat) := by
  have e : ∀ z, 0 ≤ z → z < 4611686018427387904 → IntKind.i64.wrap z = z := fun z h1 h2 => wrap_id (by omega) (by omega)
  have hx : 0 ≤ a * 131 + b * 1117 + k * 29 + d * 53 := by omega
  have hx2 : a * 131 + b * 1117 + k * 29 + d * 53 < 4611686018427387904 := by omega
  have hd : 0 ≤ (a * 131 + b * 1117 + k * 29 + d * 53).tdiv 64 ∧ (a * 131 + b * 1117 + k * 29 + d * 53).tdiv 64 ≤ a * 131 + b * 1117 + k * 29 + d * 53 := ⟨Int.tdiv_nonneg hx (by omega), Int.tdiv_le_self _ hx⟩
  rw [e a a0 (by omega), e b b0 (by omega), e d d0 (by omega), e (a * 131) (by omega) (by omega), e (b * 1117) (by omega) (by omega), e (k * 29) (by omega) (by omega), e (d * 53) (by omega) (by omega), e (a * 131 + b * 1117) (by omega) (by omega),
    e (a * 131 + b * 1117 + k * 29) (by omega) (by omega), e (a * 131 + b * 1117 + k * 29 + d * 53) hx hx2, e _ hd.1 (by omega)]
  have := xor_range hx hx2 hd.1 (by omega)
  exact e _ this.1 this.2
theorem pick_range {bs : List Int} (hb : Bytes bs) {p n : Int} (h0 : 0 ≤ p) (h1 : p ≤ 1099511627776) : 0 ≤ pickF bs p n ∧ (1 ≤ n → pickF bs p n < n) := by
  unfold pickF
  split
  · omega
  · rename_i hn
    split
    · have := bAt_range hb p
      exact ⟨Int.tmod_nonneg _ this.1, fun h => Int.tmod_lt_of_pos _ (by omega)⟩
    · have : 0 ≤ mixF bs p := Int.natCast_nonneg _
      exact ⟨Int.tmod_nonneg _ this, fun h => Int.tmod_lt_of_pos _ (by omega)⟩
def oneF (bs : List Int) (p : Int) (list : List Int) : Int := (list[(pickF bs p list.length).toNat]?).getD 0
theorem one_mem {bs : List Int} (hb : Bytes bs) {p : Int} (h0 : 0 ≤ p) (h1 : p ≤ 1099511627776) {list : List Int} (hl : 0 < list.length) : list[(pickF bs p list.length).toNat]? = some (oneF bs p list) := by
  have := pick_range (n := list.length) hb h0 h1
  have h2 := this.2 (by omega)
  have : (pickF bs p list.length).toNat < list.length := by omega
  unfold oneF
  simp [this]

theorem pick_ok (full : Bool) (bs : List Int) (hb : Bytes bs) (p n : Int) (h0 : 0 ≤ p) (h1 : p ≤ 1099511627776) (id : Nat) : HCalls Tryd.prog G0 28 (hpOf [(id, .box (rdC full bs p))]) [.ref id 0 0 0, vi n]
    (Box1 id (vi (pickF bs p n)) (rdC full bs (p + 1))) := by
  refine HCalls.box (φ := fun r c => r = vi (pickF bs p n) ∧ c = rdC full bs (p + 1)) ?_ rfl rfl id
  refine hspec tabOk Tryd.func28 (by kernel_rfl) false [] [] rfl ?_
  conv => whnf
  have hp1 : vi (IntKind.i64.wrap (p + 1)) = vi (p + 1) := congrArg vi (wrap_id (by omega) (by omega))
  have fin : ∀ (s : St) (v : Int), v = pickF bs p n → s.hp 1000 = .box [.d (.slc full 1 (bs.map encB)), vi (IntKind.i64.wrap (p + 1))] →
      ∃ l, HRest s [1000] l ∧ ∃ c, l = [(1000, Obj.box c)] ∧ (vi v).plain = true ∧ plains c = true ∧ (vi v = vi (pickF bs p n) ∧ c = rdC full bs (p + 1)) := fun s v hv hs => by
    refine ⟨_, ⟨weakHp_cons hs rfl weakHp_nil, rfl, rfl⟩, _, rfl, rfl, rfl, congrArg vi hv, ?_⟩
    rw [hp1]
  refine ⟨fun hn => ?_, fun hn => ?_⟩ <;> conv => whnf
  · exact fin _ _ (by simp [pickF, hn]) rfl
  intro hlen
  have hlen := le_map hlen
  refine ⟨fun hz => ?_, fun hz => ?_⟩ <;> conv => whnf
  · exact fin _ _ (by simp at hz; simp [pickF, hz]) rfl
  intro _
  have hkp : IntKind.i64.wrap (IntKind.i64.wrap (p + 1) - 1) = p := by rw [wrap_id (n := p + 1) (by omega) (by omega), wrap_id (by omega) (by omega)]; omega
  refine ⟨fun hk => ?_, fun hk => ?_⟩ <;> conv => whnf
  · refine ⟨by rw [hkp]; omega, encB (bAt bs p), by rw [hkp]; exact bAt_row h0 (by rw [hkp] at hk; simpa using hk), ?_⟩
    conv => whnf
    refine ⟨by omega, ?_⟩
    conv => whnf
    have hr := bAt_range hb p
    refine fin _ _ ?_ rfl
    have hk' : p < bs.length := by rw [hkp] at hk; simpa using hk
    rw [wrap_id (by omega) (by omega)]
    have hz' : bs.length ≠ 0 := by simpa using hz
    simp only [pickF, hn, hz', hk', or_self, if_false, if_true]
  have hk' : ¬ p < bs.length := by rw [hkp] at hk; simpa using hk
  have hz' : 0 < (bs.length : Int) := by have : bs.length ≠ 0 := by simpa using hz
                                         omega
  have hL : ((bs.map encB).length : Int) = bs.length := by simp
  have q1 := Int.tmod_nonneg (bs.length : Int) h0
  have q2 := Int.tmod_lt_of_pos p hz'
  have q3 := Int.tmod_nonneg (bs.length : Int) (a := p * 7 + 3) (by omega)
  have q4 := Int.tmod_lt_of_pos (p * 7 + 3) hz'
  have w7 : IntKind.i64.wrap (IntKind.i64.wrap (IntKind.i64.wrap (IntKind.i64.wrap (p + 1) - 1) * 7) + 3) = p * 7 + 3 := by
    rw [hkp, wrap_id (n := p * 7) (by omega) (by omega), wrap_id (by omega) (by omega)]
  refine ⟨hz, ?_⟩
  conv => whnf
  refine ⟨by rw [hkp, hL]; exact q1, encB (bAt bs (p.tmod bs.length)), by rw [hkp, hL]; exact bAt_row q1 q2, ?_⟩
  conv => whnf
  refine ⟨hz, ?_⟩
  conv => whnf
  refine ⟨by rw [w7, hL]; exact q3, encB (bAt bs ((p * 7 + 3).tmod bs.length)), by rw [w7, hL]; exact bAt_row q3 q4, ?_⟩
  conv => whnf
  refine ⟨hz, ?_⟩
  conv => whnf
  refine ⟨by omega, ?_⟩
  conv => whnf
  refine ⟨by omega, ?_⟩
  conv => whnf
  refine fin _ _ ?_ rfl
  have r1 := bAt_range hb (p.tmod bs.length)
  have r2 := bAt_range hb ((p * 7 + 3).tmod bs.length)
  have r3 : 0 ≤ p.tdiv bs.length ∧ p.tdiv bs.length ≤ p := ⟨Int.tdiv_nonneg h0 (by omega), Int.tdiv_le_self _ h0⟩
  rw [hkp, hL]
  rw [mix_wraps r1.1 r1.2 r2.1 r2.2 h0 h1 r3.1 r3.2]
  have hz2 : bs.length ≠ 0 := by omega
  simp only [pickF, hn, hz2, hk', or_self, if_false]
  rfl

theorem one_ok (full fl : Bool) (bs : List Int) (hb : Bytes bs) (p : Int) (h0 : 0 ≤ p) (h1 : p ≤ 1099511627776) (list : List Int) (hl : 0 < list.length) (id : Nat) :
    HCalls Tryd.prog G0 42 (hpOf [(id, .box (rdC full bs p))]) [.ref id 0 0 0, .d (dInts fl list)]
    (Box1 id (vi (oneF bs p list)) (rdC full bs (p + 1))) := by
  refine HCalls.box (φ := fun r c => r = vi (oneF bs p list) ∧ c = rdC full bs (p + 1)) ?_ rfl rfl id
  refine hspec tabOk Tryd.func42 (by kernel_rfl) false [] [28] rfl ?_
  conv => whnf
  intro _
  conv => whnf
  refine hcall_box (pick_ok full bs hb p _ h0 h1 1000) rfl rfl rfl ⟨⟨trivial, trivial⟩, ?_⟩
  conv => whnf
  have hr := pick_range (n := list.length) hb h0 h1
  have hm := one_mem hb h0 h1 hl
  have hL : ((list.map encI).length : Int) = list.length := by simp
  refine ⟨by rw [hL]; exact hr.1, encI (oneF bs p list), by rw [hL]; exact row_map hm, ?_⟩
  conv => whnf
  exact ⟨_, ⟨weakHp_cons rfl rfl weakHp_nil, rfl, rfl⟩, _, rfl, rfl, rfl, rfl, rfl⟩
end Go.Proofs.YtdfneaponidfgaaDoor
/- What the tops of the laws share: a slice of bytes, as the engine sees it. -/
set_option linter.unusedVariables false
namespace Go.Proofs.YtdfneaponidfgaaDoor
open Go Eng Go.ChangeShapes Go.WideShapes Go.ChangeAt Go.RowKit

theorem own : ownKnob Tryd.prog.godebug = none := by kernel_rfl
theorem laidOut : laidOutB Tryd.prog = true := by kernel_rfl
theorem cells5 : Tryd.prog.cellsOf 5 = 1 := by kernel_rfl

/-- All that is there when the call begins may be read, and is not written. -/
def immW (W : World) : Imm := fun b _ => b < W.heap.size

theorem cell_spot {W : World} {a : Addr} {v : Value} (h : W.cell? a = some v) : a = ⟨a.block, a.off, none⟩ ∧ a.block < W.heap.size := by
  unfold World.cell? at h
  split at h
  · rename_i c e r hb
    split at h
    · simp at h
    · rename_i hs
      have hlt := (Array.getElem?_eq_some_iff.1 hb).1
      refine ⟨?_, hlt⟩
      obtain ⟨b, o, s⟩ := a
      cases s with
      | none => rfl
      | some s => simp at hs
  · simp at h

/-- A slice of bytes, as the engine sees it. -/
theorem bytes_rep {H : Type} {enc : TypeId × Value → H} {W : World} {a0 : Option Addr} {len cap : Nat} {d : DataW H} {p : List MemPlace} (h : DataW.Trod enc Tryd.prog W 0 (fun _ => true) true 33 (.slice a0 len cap) d p) (hsz : ∀ elems spare, d = .slice elems spare → elems.length ≤ 2 ^ 48) :
    ∃ bs : List Int, Bytes bs ∧ RepP W (immW W) (.d (.slc false 1 (bs.map encB))) (.slice a0 len cap) := by
  obtain ⟨fuel, hf⟩ := h
  rcases open_ints Tryd.underlying33 Tryd.underlying5 cells5 hf with ⟨hcs, hx⟩ | ⟨a, len', cap', zs, hcs, _, hl, hm, hz, hx, hcell, hwz⟩
  · simp [Value.cells] at hcs
    obtain ⟨rfl, rfl, rfl⟩ := hcs
    refine ⟨[], by intro i b h; simp at h, ?_⟩
    unfold RepP
    simp only [RepV]
    exact .slc false 1 [] none 0 (fun _ _ => default) (by simp) (by simp) (by simp) (by simp) (by simp) (by simp) (by simp)
  · simp [Value.cells] at hcs
    obtain ⟨rfl, rfl, rfl⟩ := hcs
    simp only [if_true] at hz
    simp only [Prod.mk.injEq] at hx
    have hreach := hsz _ _ hx.1
    simp only [lits, List.length_map, List.length_take] at hreach
    have hlen : ((zs.take len).map encB).length = len := by simp; omega
    have hget : ∀ (i : Nat) (r : List D), ((zs.take len).map encB)[i]? = some r → ∃ n, r = encB n ∧ i < len ∧ W.cell? (a.add i) = some (.int .u8 n) := fun i r hi => by
      rw [List.getElem?_map] at hi
      cases hn : (zs.take len)[i]? with
      | none => simp [hn] at hi
      | some n =>
        simp [hn] at hi
        have hlt := (List.getElem?_eq_some_iff.1 hn).1
        simp at hlt
        refine ⟨n, hi.symm, by omega, ?_⟩
        rw [hcell i (by omega)]
        rw [List.getElem?_take] at hn
        split at hn
        · simp [List.getD, hn]
        · simp at hn
    refine ⟨zs.take len, fun i b hi => ?_, ?_⟩
    · have hw := hwz b (List.mem_of_mem_take (List.mem_of_getElem? hi))
      have h1 : IntKind.u8.min = 0 := rfl
      have h2 : IntKind.u8.max = 255 := rfl
      simp only [Lit.wf, Bool.and_eq_true, decide_eq_true_eq] at hw
      omega
    · unfold RepP
      simp only [RepV]
      have := RepD.slc (w := W) (imm := immW W) false 1 ((zs.take len).map encB) (some a) cap (fun i j => .int .u8 (zs.getD i 0)) (by rw [hlen]; exact hl) (by rw [hlen]; omega) (by simp)
        (fun i r hi => by obtain ⟨n, rfl, _⟩ := hget i r hi; rfl)
        (fun hne => by
          cases hz0 : (zs.take len).map encB with
          | nil => exact absurd hz0 hne
          | cons r rs =>
            obtain ⟨n, _, _, hc⟩ := hget 0 r (by rw [hz0]; rfl)
            have := (cell_spot hc).1
            have hs : a.spot = none := by have := congrArg Addr.spot this; simpa [Addr.add] using this
            exact ⟨a.block, a.off, by obtain ⟨b, o, s⟩ := a; simp at hs; subst hs; rfl⟩)
        (fun b o ha i r hi j x hj => by
          obtain ⟨n, rfl, hil, hc⟩ := hget i r hi
          injection ha with ha
          subst ha
          have hj0 : j = 0 := by
            cases j with
            | zero => rfl
            | succ j => simp [encB] at hj
          subst hj0
          refine ⟨by have := (cell_spot hc).2; unfold Addr.add at this; split at this <;> exact this, ?_⟩
          have e : (⟨b, o + i * 1 + 0, none⟩ : Addr) = (Addr.add ⟨b, o, none⟩ i) := by simp [Addr.add]
          rw [e, hcell i (by omega)])
        (fun i r hi j x hj => by
          obtain ⟨n, rfl, hil, hc⟩ := hget i r hi
          have hj0 : j = 0 := by
            cases j with
            | zero => rfl
            | succ j => simp [encB] at hj
          subst hj0
          simp [encB] at hj
          subst hj
          rw [hcell i (by omega)] at hc
          injection hc with hc
          show RepD W (immW W) (.int .u8 n) (.int .u8 (zs.getD i 0))
          rw [hc]
          exact .int _ _)
      rw [hlen] at this
      exact this

theorem kept {w w' : World} (hio : SameIO w w') (hb : ∀ b, b < w.heap.size → w'.heap[b]? = w.heap[b]?) (may : MemPlace → Prop) : w.keptBut w' may := by
  refine ⟨hio.1, hio.2, fun i hi => ?_⟩
  rw [hb i hi]
  split <;> simp_all
theorem sameAt {W W' : World} (hb : ∀ b, b < W.heap.size → W'.heap[b]? = W.heap[b]?) {p : MemPlace} (hp : p.block < W.heap.size) : W.sameAt W' p := by
  cases p with
  | cell b o => exact World.cell?_of_block (w := W) (hb b hp)
  | map b => exact hb b hp

end Go.Proofs.YtdfneaponidfgaaDoor
/- What comes in, of any type of numbers, texts, lists and records, as the engine sees it. -/
set_option linter.unusedVariables false
set_option linter.unusedSimpArgs false
namespace Go.Proofs.YtdfneaponidfgaaDoor
open Go Eng Go.ChangeShapes Go.WideShapes Go.ChangeAt Go.RowKit

/-- What a cell holds. -/
inductive CSh where
  | bool
  | int (k : IntKind)
  | str
  | slc (es : List CSh)
  deriving Inhabited
inductive Fits : CSh → D → Prop
  | bool (b : Bool) : Fits .bool (.bool b)
  | int (k : IntKind) (n : Int) (h : k.min ≤ n ∧ n ≤ k.max) : Fits (.int k) (.int k n)
  | str (s : ByteArray) : Fits .str (.str s)
  | slc (es : List CSh) (rows : List (List D)) (hl : ∀ (i : Nat) r, rows[i]? = some r → r.length = es.length)
      (hf : ∀ (i : Nat) r (j : Nat) e x, rows[i]? = some r → es[j]? = some e → r[j]? = some x → Fits e x) : Fits (.slc es) (.slc false es.length rows)

def shFlds (P : Program) (sh : TypeId → Option (List CSh)) : Nat → List Field → Option (List CSh)
  | _, [] => some []
  | off, f :: fs => match Nat.beq f.offset off, sh f.type with
    | true, some a => match Nat.beq (P.cellsOf f.type) a.length, shFlds P sh (off + a.length) fs with
      | true, some b => some (a ++ b)
      | _, _ => none
    | _, _ => none
def shape (P : Program) : Nat → TypeId → Option (List CSh)
  | 0, _ => none
  | n + 1, t => match P.underlying t with
    | some .bool => some [.bool]
    | some (.int k) => some [.int k]
    | some .string => some [.str]
    | some (.slice e) => match shape P n e with
      | some es => match Nat.beq (P.cellsOf e) es.length, es, Nat.ble 1 (P.bytesOf e) with
        | true, c :: r, true => some [.slc (c :: r)]
        | _, _, _ => none
      | none => none
    | some (.struct fs) => match shFlds P (shape P n) 0 fs.toList with
      | some a => match Nat.beq (P.cellsOf t) a.length with
        | true => some a
        | false => none
      | none => none
    | _ => none

structure LiftR (W : World) (shs : List CSh) (cs : List Value) (ds : List D) : Prop where
  cl : cs.length = shs.length
  dl : ds.length = shs.length
  ok : ∀ (j : Nat) s d v, shs[j]? = some s → ds[j]? = some d → cs[j]? = some v → Fits s d ∧ RepD W (immW W) d v
theorem LiftR.app {W : World} {a b : List CSh} {c c' : List Value} {d d' : List D} (h : LiftR W a c d) (k : LiftR W b c' d') : LiftR W (a ++ b) (c ++ c') (d ++ d') := by
  have h1 := h.cl; have h2 := h.dl; have k1 := k.cl; have k2 := k.dl
  refine ⟨by simp; omega, by simp; omega, fun j s x v hs hd hv => ?_⟩
  rcases Nat.lt_or_ge j a.length with hj | hj
  · rw [List.getElem?_append_left (by omega)] at hs hd hv
    exact h.ok j s x v hs hd hv
  · rw [List.getElem?_append_right (by omega)] at hs hd hv
    rw [h2] at hd; rw [h1] at hv
    exact k.ok _ s x v hs hd hv
theorem LiftR.one {W : World} {s : CSh} {v : Value} {d : D} (h1 : Fits s d) (h2 : RepD W (immW W) d v) : LiftR W [s] [v] [d] := by
  refine ⟨rfl, rfl, fun j s' d' v' hs hd hv => ?_⟩
  cases j with
  | zero => simp at hs hd hv; subst hs; subst hd; subst hv; exact ⟨h1, h2⟩
  | succ j => simp at hs

section
variable {H : Type} {enc : TypeId × Value → H} {P : Program} {W : World} {sp : Nat → Bool}
theorem weightsAll_mem {e : TypeId} : ∀ {ds : List (DataW H)} {d : DataW H}, d ∈ ds → ∀ n ∈ d.weights P e, n ∈ DataW.weightsAll P e ds
  | d0 :: ds, d, hd, n, hn => by
    simp only [DataW.weightsAll, List.mem_append]
    rcases List.mem_cons.1 hd with rfl | hd
    · exact .inl hn
    · exact .inr (weightsAll_mem hd n hn)
theorem cells_get {base : Nat} {a : Addr} {n : Nat} {cs : List Value} (h : W.cells? base a n = some cs) : cs.length = n ∧ ∀ (j : Nat), j < n → W.cell? (a.add j) = cs[j]? := by
  unfold World.cells? at h
  split at h
  · exact ⟨by simpa using mapM_some_length h, fun j hj => mapM_some_get h j j (by simp [hj])⟩
  · simp at h

theorem flds_lift {sh : TypeId → Option (List CSh)} {tr : TypeId → List Value → Prop} (ih : ∀ t cs a, sh t = some a → tr t cs → ∃ ds, LiftR W a cs ds) (cs : List Value) :
    ∀ (fs : List Field) (off : Nat) (a : List CSh), shFlds P sh off fs = some a → cs.length = off + a.length → (∀ f, f ∈ fs → tr f.type ((cs.drop f.offset).take (P.cellsOf f.type))) → ∃ ds, LiftR W a (cs.drop off) ds
  | [], off, a, h, hl, _ => by
    simp only [shFlds, Option.some.injEq] at h
    subst h
    exact ⟨[], by simp at hl; simp; omega, rfl, by simp⟩
  | f :: fs, off, a, h, hl, ht => by
    unfold shFlds at h
    split at h
    · rename_i a1 hoff hsh
      have hoff := Nat.eq_of_beq_eq_true hoff
      split at h
      · rename_i b hc hb
        have hc := Nat.eq_of_beq_eq_true hc
        injection h with h
        subst h
        have h1 := ht f List.mem_cons_self
        rw [hoff, hc] at h1
        obtain ⟨d1, l1⟩ := ih _ _ _ hsh h1
        simp only [List.length_append] at hl
        obtain ⟨d2, l2⟩ := flds_lift ih cs fs (off + a1.length) b hb (by omega) fun g hg => ht g (List.mem_cons_of_mem _ hg)
        refine ⟨d1 ++ d2, ?_⟩
        have := l1.app l2
        rw [← List.drop_drop, List.take_append_drop] at this
        exact this
      · simp at h
    · simp at h

theorem lift : ∀ (n fuel : Nat) (t : TypeId) (cs : List Value) (x : DataW H × List MemPlace) (shs : List CSh), shape P n t = some shs → DataW.trod enc P W 0 sp true fuel t cs = some x → (∀ m ∈ x.1.weights P t, m ≤ reachBytes) → ∃ ds, LiftR W shs cs ds
  | 0, fuel, t, cs, x, shs, h, _, _ => by simp [shape] at h
  | n + 1, fuel, t, cs, x, shs, h, hx, hw => by
    unfold shape at h
    split at h
    · rename_i hu
      injection h with h; subst h
      obtain ⟨b, rfl, rfl⟩ := DataW.trod_bool hu hx
      exact ⟨[.bool b], .one (.bool b) (.bool b)⟩
    · rename_i k hu
      injection h with h; subst h
      obtain ⟨m, rfl, rfl, hwf⟩ := DataW.trod_int hu hx
      refine ⟨[.int k m], .one (.int k m ?_) (.int k m)⟩
      simpa only [Lit.wf, Bool.and_eq_true, decide_eq_true_eq] using hwf
    · rename_i hu
      injection h with h; subst h
      obtain ⟨s, rfl, rfl, _⟩ := DataW.trod_string hu hx
      exact ⟨[.str s], .one (.str s) (.str s)⟩
    · rename_i e hu
      split at h
      · rename_i es hes
        split at h
        · rename_i c r hby hce
          have hce := Nat.eq_of_beq_eq_true hce
          have hby := Nat.le_of_ble_eq_true hby
          injection h with h; subst h
          rcases DataW.trod_slice hu hx with ⟨rfl, rfl⟩ | ⟨a, len, cap, elems, rest, fuel', rfl, rfl, rfl, _, hlc, _, hel, hget, _, _⟩
          · refine ⟨[.slc false (c :: r).length []], .one (.slc _ [] (by simp) (by simp)) ?_⟩
            exact .slc false _ [] none 0 (fun _ _ => default) (by simp) (by simp) (by simp) (by simp) (by simp) (by simp) (by simp)
          · have hwt : (elems.length + rest.length) * P.bytesOf e ≤ reachBytes := by
              have := hw ((elems.length + rest.length) * P.bytesOf e) (by simp [DataW.weights, hu])
              exact this
            have hsz : len ≤ 2 ^ 48 := by
              have h1 : (elems.length + rest.length) * 1 ≤ (elems.length + rest.length) * P.bytesOf e := Nat.mul_le_mul_left _ hby
              have := reachBytes_lt
              omega
            have key : ∀ i : Nat, ∃ r' : List D, i < len → r'.length = (c :: r).length ∧ ∀ (j : Nat) x, r'[j]? = some x → (∀ e', (c :: r)[j]? = some e' → Fits e' x) ∧ ∃ v, W.cell? ((a.add (i * P.cellsOf e)).add j) = some v ∧ RepD W (immW W) x v := by
              intro i
              by_cases hi : i < len
              · have hg := hget i hi
                rw [List.getElem?_eq_getElem (by omega)] at hg
                simp only [Option.bind_eq_some_iff] at hg
                obtain ⟨cs', h1, h2⟩ := hg
                obtain ⟨hcl, hcg⟩ := cells_get h1
                obtain ⟨ds, hds⟩ := lift n _ e cs' _ _ hes h2 fun m hm => hw m (by
                  simp only [DataW.weights, hu, List.mem_cons, List.mem_append]
                  exact .inr (.inl (weightsAll_mem (List.mem_map.2 ⟨elems[i], List.getElem_mem _, rfl⟩) m hm)))
                refine ⟨ds, fun _ => ⟨hds.dl, fun j x hj => ?_⟩⟩
                have hjl := (List.getElem?_eq_some_iff.1 hj).1
                have hd := hds.dl
                have hjc : j < cs'.length := by have := hds.cl; omega
                have hv : cs'[j]? = some cs'[j] := List.getElem?_eq_getElem hjc
                refine ⟨fun e' he' => (hds.ok j e' x _ he' hj hv).1, cs'[j], ?_, (hds.ok j _ x _ (List.getElem?_eq_getElem (by omega)) hj hv).2⟩
                rw [hcg j (by omega), hv]
              · exact ⟨[], fun h => absurd h hi⟩
            let f : Nat → List D := fun i => Classical.choose (key i)
            have hf : ∀ i, i < len → (f i).length = (c :: r).length ∧ ∀ (j : Nat) x, (f i)[j]? = some x → (∀ e', (c :: r)[j]? = some e' → Fits e' x) ∧ ∃ v, W.cell? ((a.add (i * P.cellsOf e)).add j) = some v ∧ RepD W (immW W) x v := fun i hi => Classical.choose_spec (key i) hi
            have hrow : ∀ (i : Nat) r', ((List.range len).map f)[i]? = some r' → i < len ∧ r' = f i := fun i r' hi => by
              rw [List.getElem?_map] at hi
              cases hr : (List.range len)[i]? with
              | none => rw [hr] at hi; simp at hi
              | some k =>
                rw [hr] at hi
                obtain ⟨h1, h2⟩ := List.getElem?_eq_some_iff.1 hr
                simp at h1 h2
                subst h2
                simp at hi
                exact ⟨h1, hi.symm⟩
            have hll : ((List.range len).map f).length = len := by simp
            refine ⟨[.slc false (c :: r).length ((List.range len).map f)], .one (.slc _ _ (fun i r' hi => ?_) (fun i r' j e' x hi he' hx' => ?_)) ?_⟩
            · obtain ⟨h1, rfl⟩ := hrow i r' hi
              exact (hf i h1).1
            · obtain ⟨h1, rfl⟩ := hrow i r' hi
              exact ((hf i h1).2 j x hx').1 e' he'
            · have := RepD.slc (w := W) (imm := immW W) false (c :: r).length ((List.range len).map f) (some a) cap (fun i j => (W.cell? ((a.add (i * P.cellsOf e)).add j)).getD Go.undef) (by rw [hll]; exact hlc) (by rw [hll]; exact hsz) (by simp)
                (fun i r' hi => by obtain ⟨h1, rfl⟩ := hrow i r' hi; exact (hf i h1).1)
                (fun hne => by
                  have h0 : 0 < len := by
                    rcases Nat.eq_zero_or_pos len with h | h
                    · subst h; simp at hne
                    · exact h
                  obtain ⟨h1, h2⟩ := hf 0 h0
                  obtain ⟨v, hv, _⟩ := (h2 0 _ (List.getElem?_eq_getElem (by rw [h1]; simp))).2
                  have := (cell_spot hv).1
                  have hs : a.spot = none := by have := congrArg Addr.spot this; simpa [Addr.add] using this
                  exact ⟨a.block, a.off, by obtain ⟨b, o, s⟩ := a; simp at hs; subst hs; rfl⟩)
                (fun b o ha i r' hi j x hj => by
                  obtain ⟨h1, rfl⟩ := hrow i r' hi
                  injection ha with ha
                  subst ha
                  obtain ⟨v, hv, _⟩ := ((hf i h1).2 j x hj).2
                  simp only [Addr.add_lit] at hv
                  rw [hce] at hv
                  have hv2 : W.cell? ⟨b, o + i * (c :: r).length + j, none⟩ = some v := hv
                  refine ⟨(cell_spot hv2).2, ?_⟩
                  simp only [Addr.add_lit, hce, hv2, Option.getD_some])
                (fun i r' hi j x hj => by
                  obtain ⟨h1, rfl⟩ := hrow i r' hi
                  obtain ⟨v, hv, hr⟩ := ((hf i h1).2 j x hj).2
                  simpa only [hv, Option.getD_some] using hr)
              rw [hll] at this
              exact this
        · simp at h
      · simp at h
    · rename_i fs hu
      split at h
      · rename_i a hfl
        split at h
        · rename_i hct
          have hct := Nat.eq_of_beq_eq_true hct
          injection h with h; subst h
          obtain ⟨xs, fuel', rfl, rfl, hcl, hxl, hget⟩ := DataW.trod_struct hu hx
          obtain ⟨ds, hds⟩ := flds_lift (W := W) (P := P) (sh := shape P n) (tr := fun t cs => ∃ y, DataW.trod enc P W 0 sp true fuel' t cs = some y ∧ ∀ m ∈ y.1.weights P t, m ≤ reachBytes)
            (fun t cs a h1 ⟨y, h2, h3⟩ => lift n fuel' t cs y a h1 h2 h3) cs fs.toList 0 a hfl (by omega) fun f hf => by
              obtain ⟨i, hi⟩ := List.mem_iff_getElem?.1 hf
              have hi' : fs[i]? = some f := by rw [← Array.getElem?_toList]; exact hi
              have hil : i < xs.length := by rw [hxl]; exact (Array.getElem?_eq_some_iff.1 hi').1
              have hg := hget i f hi'
              rw [List.getElem?_eq_getElem hil] at hg
              refine ⟨xs[i], hg, fun m hm => hw m ?_⟩
              simp only [DataW.weights, hu]
              exact DataW.weights_mem_each (j := i) (by rw [List.getElem?_map, hi]; rfl) (by rw [List.getElem?_map, List.getElem?_eq_getElem hil]; rfl) m hm
          exact ⟨ds, by simpa using hds⟩
        · simp at h
      · simp at h
    · simp at h
end

abbrev shI : CSh := .int .i64
theorem fits_int {k : IntKind} {x : D} (h : Fits (.int k) x) : ∃ n, x = .int k n ∧ k.min ≤ n ∧ n ≤ k.max := by
  cases h with
  | int _ n hn => exact ⟨n, rfl, hn⟩
theorem fits_rows {α : Type} {f : α → List D} {es : List CSh} {d : D} (h : Fits (.slc es) d) (hr : ∀ r : List D, r.length = es.length → (∀ (j : Nat) e x, es[j]? = some e → r[j]? = some x → Fits e x) → ∃ a, r = f a) : ∃ l : List α, d = .slc false es.length (l.map f) := by
  cases h with
  | slc _ rows hl hf =>
    have : ∀ rs : List (List D), (∀ r, r ∈ rs → r ∈ rows) → ∃ l : List α, rs = l.map f := by
      intro rs
      induction rs with
      | nil => intro _; exact ⟨[], rfl⟩
      | cons r rs ih =>
        intro hrs
        obtain ⟨l, hl'⟩ := ih fun q hq => hrs q (List.mem_cons_of_mem _ hq)
        obtain ⟨i, hi⟩ := List.mem_iff_getElem?.1 (hrs r List.mem_cons_self)
        obtain ⟨a, ha⟩ := hr r (hl i r hi) fun j e x he hx => hf i r j e x hi he hx
        exact ⟨a :: l, by rw [List.map_cons, ← ha, ← hl']⟩
    obtain ⟨l, hl'⟩ := this rows fun r h => h
    exact ⟨l, by rw [hl']⟩
theorem fits_ints {d : D} (h : Fits (.slc [shI]) d) : ∃ l : List Int, d = dInts false l :=
  fits_rows h fun r hl hf => by
    match r, hl with
    | [x], _ =>
      obtain ⟨n, rfl, _⟩ := fits_int (hf 0 _ x rfl rfl)
      exact ⟨n, rfl⟩
theorem fits_ents {d : D} (h : Fits (.slc [shI, shI, shI, shI, shI]) d) : ∃ l : List Ent, d = dEnts false l :=
  fits_rows h fun r hl hf => by
    match r, hl with
    | [x0, x1, x2, x3, x4], _ =>
      obtain ⟨n0, rfl, _⟩ := fits_int (hf 0 _ x0 rfl rfl)
      obtain ⟨n1, rfl, _⟩ := fits_int (hf 1 _ x1 rfl rfl)
      obtain ⟨n2, rfl, _⟩ := fits_int (hf 2 _ x2 rfl rfl)
      obtain ⟨n3, rfl, _⟩ := fits_int (hf 3 _ x3 rfl rfl)
      obtain ⟨n4, rfl, _⟩ := fits_int (hf 4 _ x4 rfl rfl)
      exact ⟨⟨n0, n1, n2, n3, n4⟩, rfl⟩
theorem lift_reps {W : World} : ∀ {shs : List CSh} {cs : List Value} {ds : List D}, LiftR W shs cs ds → RepVs W (gh0 (immW W)) (fun _ => .none) (ds.map .d) cs := by
  intro shs cs ds h
  refine RepVs.of_get (by rw [List.length_map, h.cl, h.dl]) fun i c u hc hu => ?_
  rw [List.getElem?_map] at hc
  cases hd : ds[i]? with
  | none => simp [hd] at hc
  | some d =>
    simp only [hd, Option.map_some, Option.some.injEq] at hc
    subst hc
    have hil := (List.getElem?_eq_some_iff.1 hd).1
    have h1 := h.dl
    simp only [RepV, gh0]
    exact (h.ok i _ d u (List.getElem?_eq_getElem (by omega)) hd hu).2
end Go.Proofs.YtdfneaponidfgaaDoor
/- A builder that is written to: the library's copy check, and WriteString. (Turned from the kit's own contracts of the same functions, at this translation's bodies.) -/
set_option linter.unusedVariables false
namespace Go.Proofs.YtdfneaponidfgaaDoor
open Go Go.RowKit

theorem infoB : (Tryd.prog.info? 78).map (·.size) = some 2 := by kernel_rfl
theorem liesB : liesAt Tryd.prog Tryd.prog.depth 78 (2 / Tryd.prog.cellsOf 78) 0 78 1 = true := by kernel_rfl

set_option maxHeartbeats 1000000 in
set_option maxRecDepth 100000 in
theorem check_used (b : Nat) (w : World) (h0 : w.cell? ⟨b, 0, none⟩ = some (.pointer (some ⟨b, 0, none⟩))) :
    Calls Tryd.prog 57 #[.pointer (some ⟨b, 0, none⟩)] w fun e w' => e = .returned (.tuple #[]) ∧ w' = w := by
  obtain ⟨j, hj, _⟩ := Option.map_eq_some_iff.1 infoB
  go_enter Tryd.func57, Tryd.ntmps57
  go_wp2
  rw [Lib.run_neq_ptr_same w _ Tryd.underlying76 hj]
  go_wp2
  go_end0
  exact ⟨rfl, rfl⟩

set_option maxHeartbeats 1000000 in
set_option maxRecDepth 100000 in
theorem check_fresh (b : Nat) (w : World) (h0 : w.cell? ⟨b, 0, none⟩ = some (.pointer none)) (hsh : w.shape? b = some (78, 2)) (hfz : w.frozen? ⟨b, 0, none⟩ = false) :
    Calls Tryd.prog 57 #[.pointer (some ⟨b, 0, none⟩)] w fun e w' => e = .returned (.tuple #[]) ∧ w' = w.setCell ⟨b, 0, none⟩ (.pointer (some ⟨b, 0, none⟩)) := by
  obtain ⟨j, hj, hjs⟩ := Option.map_eq_some_iff.1 infoB
  go_enter Tryd.func57, Tryd.ntmps57
  go_wp2
  rw [Lib.run_to_unsafe w ⟨b, 0, none⟩ Tryd.underlying76 Tryd.underlying94 hj (by rw [hjs]; decide) hsh (Nat.zero_lt_succ 1)]
  simp only [Result.andThen]
  rw [Oper.upon_value]
  go_wp2
  rw [run_callFunc_extern Tryd.func65 (by kernel_rfl) (by kernel_rfl) (by kernel_rfl) (e := Extern.AbiNoEscape.same) (by kernel_rfl)]
  rw [Lib.run_noEscape]
  simp only [Result.andThen]
  rw [Oper.upon_value]
  go_wp2
  rw [Lib.run_from_unsafe w ⟨b, 0, none⟩ Tryd.underlying94 Tryd.underlying76 hj hsh liesB]
  simp only [Result.andThen]
  rw [Oper.upon_value]
  go_wp2
  go_end0
  exact ⟨rfl, rfl⟩

theorem check_any (B b : Nat) (bs : List Value) (w : World) (h : Lib.IsBuilder 78 5 B b bs w) :
    Calls Tryd.prog 57 #[.pointer (some ⟨b, 0, none⟩)] w fun e w' => e = .returned (.tuple #[]) ∧ (Lib.BuilderAt 78 5 B b (.pointer (some ⟨b, 0, none⟩)) bs w' ∧ Below B w w') := by
  rcases h with h | h
  · refine (check_fresh b w h.cell0 h.shape h.frozen0).mono ?_
    rintro e w' ⟨rfl, rfl⟩
    exact ⟨rfl, h.used _, (Below.refl B w).setCell (p := ⟨b, 0, none⟩) h.1 _⟩
  · refine (check_used b w h.cell0).mono ?_
    rintro e w' ⟨rfl, rfl⟩
    exact ⟨rfl, h, Below.refl B _⟩

set_option maxHeartbeats 2000000 in
set_option maxRecDepth 100000 in
theorem write_str (B b : Nat) (bs : List Value) (s : ByteArray) (w : World) (h : Lib.IsBuilder 78 5 B b bs w) (hlen : bs.length + s.size ≤ 140737488355328) (hBw : B ≤ w.heap.size) :
    Calls Tryd.prog 46 #[.pointer (some ⟨b, 0, none⟩), .string s] w fun e w' => e = .returned (.tuple #[.int .i64 s.size, .nilIface]) ∧ (Lib.BuilderAt 78 5 B b (.pointer (some ⟨b, 0, none⟩)) (bs ++ Lib.strCells s) w' ∧ Below B w w') := by
  obtain ⟨i0, hi, hz0, hz1, hz2⟩ := info_parts (P := Tryd.prog) (e := 5) (size := 1) (bytes := 1) (z := .int .u8 0) (by kernel_rfl)
  go_enter Tryd.func46, Tryd.ntmps46
  go_wp2_with (go_at_call 57; refine (check_any B b bs _ h).mono ?_)
  rintro e w1 ⟨rfl, h1, hb1⟩
  obtain ⟨hB, v, hbk, hown, hne⟩ := h1
  have c0 : w1.cell? ⟨b, 0, none⟩ = some (.pointer (some ⟨b, 0, none⟩)) := by rw [Lib.cell_of_heap hbk]; rfl
  have c1 : w1.cell? ⟨b, 1, none⟩ = some v := by rw [Lib.cell_of_heap hbk]; rfl
  go_wp2_with (at_builtin; refine Lib.wpList_append_own_string _ rfl _ _ 33 9 rfl B 5 i0 Tryd.underlying33 Tryd.underlying9 hi hz0 hz1 hz2 _ _ _ rfl hown s rfl ?c3 ?c4 ?c5 ?_)
  case c3 => unfold maxLen; omega
  case c4 => omega
  case c5 => have := hb1.size; omega
  intro v' w2 hown' hgrow _
  have hlt : b < w1.heap.size := by
    rcases Nat.lt_or_ge b w1.heap.size with h' | h'
    · exact h'
    · simp [Array.getElem?_eq_none h'] at hbk
  have hb2 : w2.heap[b]? = some (.cells #[.pointer (some ⟨b, 0, none⟩), v] 78 (0, 0)) := by
    rw [hgrow.block b hlt (fun e => hne e.symm)]
    exact hbk
  have d0 : w2.cell? ⟨b, 0, none⟩ = some (.pointer (some ⟨b, 0, none⟩)) := by rw [Lib.cell_of_heap hb2]; rfl
  have d1 : w2.cell? ⟨b, 1, none⟩ = some v := by rw [Lib.cell_of_heap hb2]; rfl
  have f1 : w2.frozen? ⟨b, 1, none⟩ = false := Lib.frozen_of_heap hb2 1
  obtain ⟨ao, n', cap, rfl⟩ : ∃ ao n' cap, v' = .slice ao n' cap := by
    rcases hown'.2 with ⟨hv, _⟩ | ⟨g, cap, cur, hv, _⟩
    · exact ⟨_, _, _, hv⟩
    · exact ⟨_, _, _, hv⟩
  go_wp2
  go_ret2
  refine ⟨rfl, ?_, ?_⟩
  · exact Lib.BuilderAt.put (T := 78) (e := 5) hB hb2 (bs' := bs ++ Lib.strCells s) (by simpa [Lib.strCells_length] using hown') (by decide)
  · exact (hb1.grown hgrow (by have := hb1.size; omega) (fun k hk => (hown.lt k hk).1)).setCell (p := ⟨b, 1, none⟩) hB _
end Go.Proofs.YtdfneaponidfgaaDoor
/- What the library's contracts say at this translation: a builder's text, and small numbers' texts. (Laid by the kit's tools.) -/
namespace Go.Proofs
open Go.Shelf
def Tryd.lays169_ren : Go.Shelf.Ren := ⟨fun | 169 => 48 | n => n, fun | 70 => 76 | 9 => 9 | 0 => 0 | 72 => 78 | 37 => 33 | 127 => 89 | 3 => 3 | 5 => 5 | n => n, fun | n => n⟩
theorem Tryd.lays169 : Go.Proofs.Lays.n169 Tryd.prog Tryd.lays169_ren := {
  mixed := by kernel_rfl
  f169 := Tryd.func48.trans (congrArg some (by kernel_rfl))
  t0 := Tryd.underlying0
  a0 := Tryd.isAgg0
  z0 := Tryd.sizeOf0
  v0 := Tryd.zeroValue0
  t3 := Tryd.underlying3
  a3 := Tryd.isAgg3
  z3 := Tryd.sizeOf3
  v3 := Tryd.zeroValue3
  t9 := Tryd.underlying9
  a9 := Tryd.isAgg9
  z9 := Tryd.sizeOf9
  v9 := Tryd.zeroValue9
  t37 := Tryd.underlying33
  a37 := Tryd.isAgg33
  z37 := Tryd.sizeOf33
  v37 := Tryd.zeroValue33
  t70 := Tryd.underlying76
  a70 := Tryd.isAgg76
  z70 := Tryd.sizeOf76
  v70 := Tryd.zeroValue76
  t72 := Tryd.underlying78
  a72 := Tryd.isAgg78
  z72 := Tryd.sizeOf78
  v72 := Tryd.zeroValue78
  t127 := Tryd.underlying89
  a127 := Tryd.isAgg89
  z127 := Tryd.sizeOf89
  v127 := Tryd.zeroValue89 }
theorem Tryd.Builder_Extra_169 : Builder.Extra Tryd.prog Tryd.lays169_ren := {
  sizeBuilder := by kernel_rfl
  liesBuilder := by kernel_rfl
  t5 := Tryd.underlying5
  a5 := Tryd.isAgg5
  z5 := Tryd.sizeOf5
  v5 := Tryd.zeroValue5
  infoByte := by kernel_rfl
  cellsByte := by kernel_rfl
  sizeByte := by kernel_rfl
  neB5 := by decide }
open Go.RowKit in
/-- (*strings.Builder).String: "String returns the accumulated string.": OF A BUILDER THAT HOLDS AT LEAST ONE BYTE. ✋ THE MODEL FREEZES THOSE BYTES IN THE BUFFER (unsafe.String): a later write INTO them ends the model's run without an answer; a later append BEHIND them goes on. The statement's order of evaluation is drawn: one draw. (LAID: no walk: one application.) -/
theorem Tryd.Builder_String (B b : Nat) (l : List UInt8) (w : World) (h : Lib.IsBuilder 78 5 B b (Lib.byteCells l) w) (h0 : l ≠ []) :
    Calls Tryd.prog 48 #[.pointer (some ⟨b, 0, none⟩)] w fun e w' => e = .returned (.string ⟨l.toArray⟩) ∧ Below B w w' := Any.Builder_String Tryd.lays169 Tryd.Builder_Extra_169 B b l w h h0
open Go.RowKit in
/-- (*strings.Builder).String OF A BUILDER THAT HOLDS NO BYTE: the empty string. (Its buffer is nil, or a row of which it has taken nothing yet; where that row has NO capacity the model lays one new block for unsafe.SliceData's 'some address'.) One draw. (LAID: no walk: one application.) -/
theorem Tryd.Builder_String_empty (B b : Nat) (w : World) (h : Lib.IsBuilder 78 5 B b [] w) (hBw : B ≤ w.heap.size) :
    Calls Tryd.prog 48 #[.pointer (some ⟨b, 0, none⟩)] w fun e w' => e = .returned (.string ⟨#[]⟩) ∧ Below B w w' := Any.Builder_String_empty Tryd.lays169 Tryd.Builder_Extra_169 B b w h hBw
open Go.RowKit in
/-- (*strings.Builder).String: "String returns the accumulated string.": WHATEVER THE BUILDER HOLDS. (LAID: no walk: one application.) -/
theorem Tryd.Builder_String_any (B b : Nat) (l : List UInt8) (w : World) (h : Lib.IsBuilder 78 5 B b (Lib.byteCells l) w) (hBw : B ≤ w.heap.size) :
    Calls Tryd.prog 48 #[.pointer (some ⟨b, 0, none⟩)] w fun e w' => e = .returned (.string ⟨l.toArray⟩) ∧ Below B w w' := Any.Builder_String_any Tryd.lays169 Tryd.Builder_Extra_169 B b l w h hBw
def Tryd.lays171_ren : Go.Shelf.Ren := ⟨fun | 171 => 47 | 243 => 58 | 246 => 66 | 283 => 75 | 284 => 76 | 285 => 77 | 286 => 78 | 129 => 88 | 317 => 87 | 318 => 89 | 319 => 90 | 320 => 91 | 337 => 93 | 338 => 94 | n => n, fun | 3 => 3 | 9 => 9 | 2 => 2 | 4 => 4 | 171 => 106 | 0 => 0 | 53 => 107 | 37 => 33 | 5 => 5 | 173 => 110 | 212 => 117 | 51 => 58 | 20 => 20 | 213 => 118 | 46 => 59 | 232 => 122 | 233 => 123 | n => n, fun | 17 => 0 | 18 => 1 | 19 => 2 | n => n⟩
theorem Tryd.lays171 : Go.Proofs.Lays.n171 Tryd.prog Tryd.lays171_ren := {
  mixed := by kernel_rfl
  f129 := Tryd.func88.trans (congrArg some (by kernel_rfl))
  f171 := Tryd.func47.trans (congrArg some (by kernel_rfl))
  f243 := Tryd.func58.trans (congrArg some (by kernel_rfl))
  f246 := Tryd.func66.trans (congrArg some (by kernel_rfl))
  f283 := Tryd.func75.trans (congrArg some (by kernel_rfl))
  f284 := Tryd.func76.trans (congrArg some (by kernel_rfl))
  f285 := Tryd.func77.trans (congrArg some (by kernel_rfl))
  f286 := Tryd.func78.trans (congrArg some (by kernel_rfl))
  f317 := Tryd.func87.trans (congrArg some (by kernel_rfl))
  f318 := Tryd.func89.trans (congrArg some (by kernel_rfl))
  f319 := Tryd.func90.trans (congrArg some (by kernel_rfl))
  f320 := Tryd.func91.trans (congrArg some (by kernel_rfl))
  f337 := Tryd.func93.trans (congrArg some (by kernel_rfl))
  f338 := Tryd.func94.trans (congrArg some (by kernel_rfl))
  t0 := Tryd.underlying0
  a0 := Tryd.isAgg0
  z0 := Tryd.sizeOf0
  v0 := Tryd.zeroValue0
  t2 := Tryd.underlying2
  a2 := Tryd.isAgg2
  z2 := Tryd.sizeOf2
  v2 := Tryd.zeroValue2
  t3 := Tryd.underlying3
  a3 := Tryd.isAgg3
  z3 := Tryd.sizeOf3
  v3 := Tryd.zeroValue3
  t4 := Tryd.underlying4
  a4 := Tryd.isAgg4
  z4 := Tryd.sizeOf4
  v4 := Tryd.zeroValue4
  t5 := Tryd.underlying5
  a5 := Tryd.isAgg5
  z5 := Tryd.sizeOf5
  v5 := Tryd.zeroValue5
  t9 := Tryd.underlying9
  a9 := Tryd.isAgg9
  z9 := Tryd.sizeOf9
  v9 := Tryd.zeroValue9
  t20 := Tryd.underlying20
  a20 := Tryd.isAgg20
  z20 := Tryd.sizeOf20
  v20 := Tryd.zeroValue20
  t37 := Tryd.underlying33
  a37 := Tryd.isAgg33
  z37 := Tryd.sizeOf33
  v37 := Tryd.zeroValue33
  t46 := Tryd.underlying59
  a46 := Tryd.isAgg59
  z46 := Tryd.sizeOf59
  v46 := Tryd.zeroValue59
  t51 := Tryd.underlying58
  a51 := Tryd.isAgg58
  z51 := Tryd.sizeOf58
  v51 := Tryd.zeroValue58
  t53 := Tryd.underlying107
  a53 := Tryd.isAgg107
  z53 := Tryd.sizeOf107
  v53 := Tryd.zeroValue107
  t171 := Tryd.underlying106
  a171 := Tryd.isAgg106
  z171 := Tryd.sizeOf106
  v171 := Tryd.zeroValue106
  t173 := Tryd.underlying110
  a173 := Tryd.isAgg110
  z173 := Tryd.sizeOf110
  v173 := Tryd.zeroValue110
  t212 := Tryd.underlying117
  a212 := Tryd.isAgg117
  z212 := Tryd.sizeOf117
  v212 := Tryd.zeroValue117
  t213 := Tryd.underlying118
  a213 := Tryd.isAgg118
  z213 := Tryd.sizeOf118
  t232 := Tryd.underlying122
  a232 := Tryd.isAgg122
  z232 := Tryd.sizeOf122
  v232 := Tryd.zeroValue122
  t233 := Tryd.underlying123
  a233 := Tryd.isAgg123
  z233 := Tryd.sizeOf123
  v233 := Tryd.zeroValue123
  g17 := by kernel_rfl
  g18 := by kernel_rfl
  g19 := by kernel_rfl }
open Go.RowKit Go.Sort Go.Lib in
/-- THE ROAD WITHOUT THE TABLE: 0 <= i < 100: NO PREMISE ON THE WORLD, AND THE WORLD IS AS IT WAS: a row that keeps its argument in that range need list no table ('laid = []'). (LAID: no walk: one application.) -/
theorem Tryd.strconv_Itoa_small (i : Nat) (hi : i < 100) (w : World) :
    Calls Tryd.prog 47 #[.int .i64 i] w fun e w' => e = .returned (.string ⟨(Lib.decDigits i).toArray⟩) ∧ w' = w := Any.strconv_Itoa_small Tryd.lays171 i hi w
end Go.Proofs
/- What commas writes: each number, with a comma behind it. -/
set_option linter.unusedVariables false
namespace Go.Proofs.YtdfneaponidfgaaDoor
open Go Go.RowKit

/-- A small number's text. -/
def decL (n : Int) : List UInt8 := Lib.decDigits n.toNat
def commasL (l : List Int) : List UInt8 := l.flatMap fun n => decL n ++ [44]
theorem dec_len {n : Int} (h : n < 100) : (decL n).length ≤ 2 := by
  unfold decL
  rw [Lib.decDigits_length]
  by_cases h1 : n.toNat < 10
  · rw [Lib.nDigits_small h1]; omega
  · rw [Lib.nDigits_big h1, Lib.nDigits_small (by omega)]; omega
theorem commas_len {l : List Int} (h : ∀ n ∈ l, n < 100) : (commasL l).length ≤ 3 * l.length := by
  induction l with
  | nil => simp [commasL]
  | cons n l ih =>
    have h1 := dec_len (h n List.mem_cons_self)
    have h2 := ih fun m hm => h m (List.mem_cons_of_mem _ hm)
    simp only [commasL, List.flatMap_cons, List.length_append, List.length_cons, List.length_nil] at h2 ⊢
    omega
theorem commas_succ {l : List Int} {k : Nat} {n : Int} (h : l[k]? = some n) : commasL (l.take (k + 1)) = commasL (l.take k) ++ (decL n ++ [44]) := by
  obtain ⟨hk, rfl⟩ := List.getElem?_eq_some_iff.1 h
  unfold commasL
  rw [List.take_add_one, List.getElem?_eq_getElem hk, List.flatMap_append]
  simp

set_option maxHeartbeats 2000000 in
set_option maxRecDepth 100000 in
theorem commas_walk (l : List Int) (hl : ∀ n ∈ l, 0 ≤ n ∧ n < 100) (hlen : l.length ≤ 1000000) (b o cap : Nat) (w : World) (hc : ∀ k n, l[k]? = some n → w.cell? ⟨b, o + k, none⟩ = some (.int .i64 n)) :
    Calls Tryd.prog 31 #[.slice (some ⟨b, o, none⟩) l.length cap] w fun e w' => e = .returned (.string ⟨(commasL l).toArray⟩) ∧ Below w.heap.size w w' := by
  go_enter Tryd.func31, Tryd.ntmps31
  go_wp2
  go_loopw [8] (fun i wr => ∃ k : Nat, k ≤ l.length ∧ i = .int .i64 k ∧ Lib.IsBuilder 78 5 w.heap.size w.heap.size (Lib.byteCells (commasL (l.take k))) wr ∧ Below w.heap.size w wr) (fun i _ => l.length - (intOf i).toNat)
  case atStart =>
    exact ⟨0, Nat.zero_le _, rfl, by simpa [commasL, Lib.byteCells] using Lib.fresh_isBuilder 78 5 w, (Below.refl _ w).alloc (Nat.le_refl _) _⟩
  case round =>
    obtain ⟨k, hk, rfl, hI, hbw⟩ := hrel
    by_cases hkl : k < l.length
    · obtain ⟨n, hn⟩ : ∃ n, l[k]? = some n := ⟨_, List.getElem?_eq_getElem hkl⟩
      have hcell := hc k n hn
      have hcell2 : wr.cell? ⟨b, o + k, none⟩ = some (.int .i64 n) := (hbw.cell (p := ⟨b, o + k, none⟩) (World.block_lt_of_cell? _ _ hcell)).trans hcell
      have hnl := hl n (List.mem_of_getElem? hn)
      have cI : ∀ w0 : World, Calls Tryd.prog 47 #[.int .i64 n] w0 fun e w1 => e = .returned (.string ⟨(decL n).toArray⟩) ∧ w1 = w0 := fun w0 => by
        have := Tryd.strconv_Itoa_small n.toNat (by omega) w0
        rwa [show ((n.toNat : Nat) : Int) = n by omega] at this
      have hcl : (commasL (l.take k)).length ≤ 3000000 := by
        have := commas_len (l := l.take k) fun m hm => (hl m (List.mem_of_mem_take hm)).2
        rw [List.length_take] at this
        omega
      have key : ∀ S : ByteArray, S.data.toList = decL n ++ [44] → Calls Tryd.prog 46 #[.pointer (some ⟨w.heap.size, 0, none⟩), .string S] wr fun e w2 => e = .returned (.tuple #[.int .i64 S.size, .nilIface]) ∧
          Lib.IsBuilder 78 5 w.heap.size w.heap.size (Lib.byteCells (commasL (l.take (k + 1)))) w2 ∧ Below w.heap.size wr w2 := fun S hS => by
        have hs : Lib.strCells S = Lib.byteCells (decL n ++ [44]) := by rw [Lib.strCells_eq, hS]
        have hd := dec_len hnl.2
        refine (write_str w.heap.size w.heap.size _ S _ hI ?_ hbw.size).mono ?_
        · rw [Lib.byteCells_length, ← Lib.strCells_length, hs, Lib.byteCells_length]
          simp only [List.length_append, List.length_cons, List.length_nil]
          omega
        rintro e w2 ⟨rfl, h1, b1⟩
        refine ⟨rfl, ?_, b1⟩
        rw [hs, ← Lib.byteCells_append, ← commas_succ hn] at h1
        exact .inr h1
      go_wp2_with (go_at_call 47; refine (cI _).mono ?_; rintro e w1 ⟨rfl, rfl⟩)
      · exfalso
        have hd := dec_len hnl.2
        omega
      · refine (key _ ?_).mono ?_
        · simp
        rintro e w2 ⟨rfl, h2, b1⟩
        go_wp2
        go_roundw
        case rel => exact ⟨k + 1, by omega, by go_num, h2, hbw.trans b1⟩
        case measure => simp [intOf]; omega
    · have hkk : k = l.length := by omega
      subst hkk
      have hlen2 : l.length ≤ 9223372036854775807 := by omega
      rw [List.take_length] at hI
      go_wp2_with (go_at_call 48; refine (Tryd.Builder_String_any w.heap.size w.heap.size (commasL l) _ hI hbw.size).mono ?_)
      rintro e w1 ⟨rfl, b1⟩
      go_wp2
      go_ret
      exact ⟨rfl, hbw.trans b1⟩
end Go.Proofs.YtdfneaponidfgaaDoor
/- Texts: commas and the cut of a last comma as contracts; a small number's text by the reference. -/
set_option linter.unusedVariables false
set_option linter.unusedSimpArgs false
set_option maxRecDepth 10000
namespace Go.Proofs.YtdfneaponidfgaaDoor
open Go Eng

def bs (l : List UInt8) : ByteArray := ⟨l.toArray⟩
theorem bs_app (a b : List UInt8) : bs a ++ bs b = bs (a ++ b) := by
  apply ByteArray.ext
  simp [bs, ByteArray.data_append]
theorem bs_size (a : List UInt8) : (bs a).size = a.length := by simp [bs, ByteArray.size]
def vs (l : List UInt8) : V := .d (.str (bs l))
theorem repVs_one {w : World} {imm : Imm} {v : V} {u : Value} (h : RepPs w imm [v] [u]) : RepP w imm v u := by
  simpa [RepPs, RepVs, RepP] using h
theorem repD_slc_inv {w : World} {imm : Imm} {f : Bool} {e : Nat} {rows : List (List D)} {u : Value} (h : RepD w imm (.slc f e rows) u) : ∃ (A : Option Addr) (c : Nat) (vals : Nat → Nat → Value), u = .slice A rows.length c ∧ (rows ≠ [] → ∃ b o, A = some ⟨b, o, none⟩) ∧
    (∀ b o, A = some ⟨b, o, none⟩ → ∀ (i : Nat) (r : List D), rows[i]? = some r → ∀ (j : Nat) (x : D), r[j]? = some x → imm b (o + i * e + j) ∧ w.cell? ⟨b, o + i * e + j, none⟩ = some (vals i j)) ∧
    (∀ (i : Nat) (r : List D), rows[i]? = some r → ∀ (j : Nat) (x : D), r[j]? = some x → RepD w imm x (vals i j)) := by
  cases h with
  | slc _ _ _ A c vals hc hn hf hrow hA hcell hrep => exact ⟨A, c, vals, rfl, hA, hcell, hrep⟩

theorem commas_ok (f : Bool) (l : List Int) (hne : l ≠ []) (hl : ∀ n ∈ l, 0 ≤ n ∧ n < 100) (hlen : l.length ≤ 1000000) :
    ACalls Tryd.prog G0 31 [.d (dInts f l)] (· = vs (commasL l)) := by
  refine ⟨⟨_, _, Tryd.func31, rfl, rfl⟩, ?_⟩
  intro w imm us hb hG hr
  match us, hr with
  | [u], hr =>
    have hr : RepD w imm (dInts f l) u := by
      have := (repVs_one hr)
      simp only [RepP, RepV] at this; exact this
    obtain ⟨A, c, vals, rfl, hA, hcell, hrep⟩ := repD_slc_inv hr
    obtain ⟨b, o, rfl⟩ := hA (by simpa using hne)
    have hc : ∀ k n, l[k]? = some n → w.cell? ⟨b, o + k, none⟩ = some (.int .i64 n) := fun k n hk => by
      have h1 : (l.map encI)[k]? = some [.int .i64 n] := by simp [hk, encI]
      have h2 := hcell b o rfl k _ h1 0 _ rfl
      have h3 := hrep k _ h1 0 _ rfl
      have h4 : vals k 0 = .int .i64 n := by generalize vals k 0 = y at h3; cases h3; rfl
      rw [h4] at h2
      simpa using h2.2
    have hl2 : (l.map encI).length = l.length := by simp
    rw [hl2]
    refine (commas_walk l hl hlen b o c w hc).mono ?_
    rintro e w' ⟨rfl, bw⟩
    exact ⟨_, vs (commasL l), imm, rfl, rfl, by simp only [RepP, vs, RepV]; exact .str _, bw.size, fun b hb => bw.block b hb, fun _ _ h => h, fun b o h => Nat.lt_of_lt_of_le (hb b o h) bw.size, fun _ _ h _ => h, bw.os, bw.output⟩

theorem beq_self : (bs [44] == bs [44]) = true := by rfl
theorem hasSfx_ok (X : List UInt8) (hX : X.length ≤ 1000000) : ACalls Tryd.prog G0 59 [vs (X ++ [44]), vs [44]] (· = vb true) := by
  have s1 : (bs (X ++ [44])).size = X.length + 1 := by simp [bs_size]
  have s2 : (bs [44]).size = 1 := rfl
  have w1 : IntKind.i64.wrap (((bs (X ++ [44])).size : Int) - ((bs [44]).size : Int)) = (X.length : Int) := by
    rw [s1, s2, wrap_id (by omega) (by omega)]; omega
  have e1 : (bs (X ++ [44])).extract X.length (bs (X ++ [44])).size = bs [44] := by
    apply ByteArray.ext
    simp only [bs, ByteArray.data_extract]
    simp [ByteArray.size]
  refine spec_intro tabOk Tryd.func59 (by kernel_rfl) rfl ?_
  conv => whnf
  refine ⟨fun h1 => ?_, fun h1 => absurd (by rw [s1, s2]; omega) h1⟩
  conv => whnf
  refine ⟨by rw [w1]; omega, by rw [w1, s1]; omega, ?_⟩
  conv => whnf
  rw [w1, Int.toNat_natCast, e1]
  refine ⟨fun _ => ?_, fun h => absurd (beq_self.symm.trans h) (by decide)⟩
  conv => whnf
  rfl

theorem sfxIn_ok (X : List UInt8) (hX : X.length ≤ 1000000) : ACalls Tryd.prog G0 49 [vs (X ++ [44]), vs [44]] (· = vs X) := by
  have s1 : (bs (X ++ [44])).size = X.length + 1 := by simp [bs_size]
  have s2 : (bs [44]).size = 1 := rfl
  have w1 : IntKind.i64.wrap (((bs (X ++ [44])).size : Int) - ((bs [44]).size : Int)) = (X.length : Int) := by
    rw [s1, s2, wrap_id (by omega) (by omega)]; omega
  have e1 : (bs (X ++ [44])).extract 0 X.length = bs X := by
    apply ByteArray.ext
    simp only [bs, ByteArray.data_extract]
    simp [ByteArray.size]
  refine spec_intro tabOk Tryd.func49 (by kernel_rfl) rfl ?_
  conv => whnf
  refine call_eq (hasSfx_ok X hX) ?_
  conv => whnf
  refine ⟨by rw [w1]; omega, by rw [w1, s1]; omega, ?_⟩
  conv => whnf
  show V.d (.str ((bs (X ++ [44])).extract 0 (IntKind.i64.wrap (((bs (X ++ [44])).size : Int) - ((bs [44]).size : Int))).toNat)) = vs X
  rw [w1, Int.toNat_natCast, e1]
  rfl

theorem sfx_ok (X : List UInt8) (hX : X.length ≤ 1000000) : ACalls Tryd.prog G0 32 [vs (X ++ [44]), vs [44]] (· = vs X) := by
  refine spec_intro tabOk Tryd.func32 (by kernel_rfl) rfl ?_
  conv => whnf
  refine call_eq (sfxIn_ok X hX) ?_
  conv => whnf
  rfl

def ent5 (e : Ent) : List Int := [e.client, e.x, e.y, e.life, e.gold]
/-- A list's text with commas between the numbers alone. -/
def sepL : List Int → List UInt8
  | [] => []
  | n :: l => decL n ++ l.flatMap fun m => 44 :: decL m
theorem commas_sep (l : List Int) (h : l ≠ []) : commasL l = sepL l ++ [44] := by
  cases l with
  | nil => exact absurd rfl h
  | cons n l =>
    have : ∀ (l : List Int), [44] ++ commasL l = (l.flatMap fun m => 44 :: decL m) ++ [44] := fun l => by
      induction l with
      | nil => rfl
      | cons m l ih => simp only [commasL, List.flatMap_cons, List.cons_append, List.nil_append, List.append_assoc] at ih ⊢; rw [ih]
    simp only [commasL, List.flatMap_cons, sepL, List.append_assoc] at this ⊢
    rw [this]

/-- What a number below a hundred looks like. -/
theorem dec_small {n : Int} (h0 : 0 ≤ n) (h : n < 10) : decL n = [UInt8.ofNat (48 + n.toNat)] := Lib.decDigits_one (by omega)
theorem dec_big {n : Int} (h0 : 10 ≤ n) (h : n < 100) : decL n = [UInt8.ofNat (48 + n.toNat / 10), UInt8.ofNat (48 + n.toNat % 10)] := Lib.decDigits_two (by omega) (by omega)

theorem dig_wrap {n : Int} (h0 : 0 ≤ n) (h : n < 10) : UInt8.ofNat (IntKind.u8.wrap (IntKind.i64.wrap (48 + n))).toNat = UInt8.ofNat (48 + n.toNat) := by
  rw [wrap_id (by omega) (by omega), show IntKind.u8.wrap (48 + n) = 48 + n by simp only [IntKind.wrap, IntKind.bits, IntKind.signed]; simp; omega]
  congr 1
  omega
theorem l1Dec_small (n : Int) (h0 : 0 ≤ n) (h : n < 10) : ACalls Tryd.prog G0 35 [vi n] (· = vs (decL n)) := by
  refine spec_intro tabOk Tryd.func35 (by kernel_rfl) rfl ?_
  conv => whnf
  refine ⟨fun h1 => absurd h1 (by omega), fun _ => ?_⟩
  conv => whnf
  refine ⟨fun h1 => absurd h1 (by omega), fun _ => ?_⟩
  conv => whnf
  refine ⟨fun _ => ?_, fun h1 => absurd h h1⟩
  conv => whnf
  show V.d (.str (bs [UInt8.ofNat (IntKind.u8.wrap (IntKind.i64.wrap (48 + n))).toNat])) = vs (decL n)
  rw [dec_small h0 h, dig_wrap (by omega) (by omega)]
  rfl
theorem l1Dec_ok (n : Int) (h0 : 0 ≤ n) (h : n < 100) : ACalls Tryd.prog G0 35 [vi n] (· = vs (decL n)) := by
  rcases Int.lt_or_le n 10 with hn | hn
  · exact l1Dec_small n h0 hn
  refine spec_intro tabOk Tryd.func35 (by kernel_rfl) rfl ?_
  conv => whnf
  refine ⟨fun h1 => absurd h1 (by omega), fun _ => ?_⟩
  conv => whnf
  refine ⟨fun h1 => absurd h1 (by omega), fun _ => ?_⟩
  conv => whnf
  refine ⟨fun h1 => absurd h1 (by omega), fun _ => ?_⟩
  conv => whnf
  have eq1 : IntKind.i64.wrap (n.tdiv 10) = n / 10 := by
    rw [Int.tdiv_eq_ediv_of_nonneg h0, wrap_id (by omega) (by omega)]
  refine ⟨by decide, ?_⟩
  conv => whnf
  refine drawn_eq' (l1Dec_small (n / 10) (by omega) (by omega)) (by rw [← eq1]; rfl) ?_
  conv => whnf
  refine ⟨by decide, ?_⟩
  conv => whnf
  refine ⟨by rw [bs_size]; show _ + 1 ≤ _; have := dec_len (n := n / 10) (by omega); omega, ?_⟩
  conv => whnf
  show V.d (.str (bs (decL (n / 10)) ++ bs [UInt8.ofNat (IntKind.u8.wrap (IntKind.i64.wrap (48 + n.tmod 10))).toNat])) = vs (decL n)
  rw [Int.tmod_eq_emod_of_nonneg h0, dig_wrap (by omega) (by omega), bs_app, dec_big hn h, dec_small (by omega) (by omega)]
  rw [show (n / 10).toNat = n.toNat / 10 by omega, show (n % 10).toNat = n.toNat % 10 by omega]
  rfl
end Go.Proofs.YtdfneaponidfgaaDoor
/- A game's moves as plain functions. The letters a, b, c say which of a game's slices are full. -/
set_option linter.unusedVariables false
set_option linter.unusedSimpArgs false
namespace Go.Proofs.YtdfneaponidfgaaDoor
open Go Eng

structure GV where
  (a b c : Bool)
  g : Game
def GV.v (x : GV) : V := vGame x.a x.b x.c x.g
def Ent0 : Ent := ⟨0, 0, 0, 0, 0⟩
def entAt (l : List Ent) (k : Int) : Ent := (l[k.toNat]?).getD Ent0
def intAt (l : List Int) (k : Int) : Int := (l[k.toNat]?).getD 0
def atF (l : List Ent) (c : Int) : Int := match l.findIdx? (fun e => decide (e.client = c)) with | some i => (i : Nat) | none => -1
def under (l : List Ent) (c : Int) : Nat := (l.takeWhile (fun e => decide (e.client < c))).length
def joinF (l : List Ent) (c : Int) : List Ent := l.take (under l c) ++ [⟨c, c - 1, c - 1, 3, 0⟩] ++ l.drop (under l c)
def nearF (a b : Ent) : Bool := inB (a.x - b.x) (-1) 1 && inB (a.y - b.y) (-1) 1
def at4 (e : Ent) : Int := e.y * 4 + e.x
def addAt (l : List Int) (k : Int) (n : Int) : List Int := l.set k.toNat (intAt l k + n)
def dropV (x : GV) (k : Int) : GV :=
  let e := entAt x.g.ents k
  ⟨false, false, x.c, ⟨x.g.ents.take k.toNat ++ x.g.ents.drop (k.toNat + 1), addAt x.g.floor (at4 e) e.gold, x.g.last⟩⟩
def setEnt (l : List Ent) (k : Int) (e : Ent) : List Ent := l.set k.toNat e
def hurt (l : List Ent) (n : Int) : List Ent := setEnt l n { entAt l n with life := (entAt l n).life - 1 }
def hitV (x : GV) (k n : Int) : GV × Int :=
  if n < 0 ∨ n = k ∨ nearF (entAt x.g.ents k) (entAt x.g.ents n) = false then (x, 8)
  else
    let y : GV := ⟨false, x.b, x.c, ⟨hurt x.g.ents n, x.g.floor, x.g.last⟩⟩
    (if (entAt x.g.ents n).life - 1 ≤ 0 then dropV y n else y, 0)
def actV (x : GV) (k : Int) (r : Req) : GV × Int :=
  let e := entAt x.g.ents k
  if r.op = 2 then
    if inB (e.x + r.x) 0 3 = false ∨ inB (e.y + r.y) 0 3 = false then (x, 6)
    else (⟨false, x.b, x.c, ⟨setEnt x.g.ents k { e with x := e.x + r.x, y := e.y + r.y }, x.g.floor, x.g.last⟩⟩, 0)
  else if r.op = 3 then
    if intAt x.g.floor (at4 e) = 0 then (x, 7)
    else (⟨false, false, x.c, ⟨setEnt x.g.ents k { e with gold := e.gold + 1 }, addAt x.g.floor (at4 e) (-1), x.g.last⟩⟩, 0)
  else if r.op = 4 then hitV x k (atF x.g.ents r.x)
  else
    let n := atF x.g.ents r.x
    if n < 0 ∨ n = k ∨ nearF e (entAt x.g.ents n) = false then (x, 8)
    else if e.gold < r.y then (x, 7)
    else (⟨false, x.b, x.c, ⟨setEnt (setEnt x.g.ents n { entAt x.g.ents n with gold := (entAt x.g.ents n).gold + r.y }) k { e with gold := e.gold - r.y }, x.g.floor, x.g.last⟩⟩, 0)
def Req0 : Req := ⟨0, 0, 0, 0, 0⟩
def reqNone (r : Req) : Bool := decide (r.client = 0 ∧ r.num = 0 ∧ r.op = 0 ∧ r.x = 0 ∧ r.y = 0)
def doV (x : GV) (r : Req) : GV × Int :=
  if reqNone r = true then (x, 2)
  else if r.num ≤ intAt x.g.last (r.client - 1) then (x, 3)
  else
    let y : GV := ⟨x.a, x.b, false, ⟨x.g.ents, x.g.floor, x.g.last.set (r.client - 1).toNat r.num⟩⟩
    let k := atF x.g.ents r.client
    if r.op = 1 then
      if 0 ≤ k then (y, 4) else (⟨false, y.b, y.c, ⟨joinF y.g.ents r.client, y.g.floor, y.g.last⟩⟩, 0)
    else if k < 0 then (y, 5)
    else actV y k r

theorem vGame_ext {a b c : Bool} {E F L : List (List D)} {g : Game} (h1 : E = g.ents.map encEnt) (h2 : F = g.floor.map encI) (h3 : L = g.last.map encI) : V.agg [.d (.slc a 5 E), .d (.slc b 1 F), .d (.slc c 1 L)] = vGame a b c g := by
  subst h1; subst h2; subst h3; rfl
theorem entAt_row {l : List Ent} {k : Int} (h0 : 0 ≤ k) (h1 : k < l.length) : (l.map encEnt)[k.toNat]? = some (encEnt (entAt l k)) := by
  have : k.toNat < l.length := by omega
  exact row_map (by unfold entAt; simp [this])
theorem intAt_row {l : List Int} {k : Int} (h0 : 0 ≤ k) (h1 : k < l.length) : (l.map encI)[k.toNat]? = some (encI (intAt l k)) := by
  have : k.toNat < l.length := by omega
  exact row_map (by unfold intAt; simp [this])
theorem entAt_get {l : List Ent} {k : Int} (h1 : k.toNat < l.length) : l[k.toNat]? = some (entAt l k) := by unfold entAt; simp [h1]
theorem intAt_get {l : List Int} {k : Int} (h1 : k.toNat < l.length) : l[k.toNat]? = some (intAt l k) := by unfold intAt; simp [h1]

theorem atF_some {l : List Ent} {c : Int} {i : Nat} {e : Ent} (he : l[i]? = some e) (hc : e.client = c) (hb : ∀ (j : Nat) x, j < i → l[j]? = some x → x.client ≠ c) : atF l c = i := by
  have : l.findIdx? (fun e => decide (e.client = c)) = some i := by
    rw [List.findIdx?_eq_some_iff_getElem]
    obtain ⟨hlt, hge⟩ := List.getElem?_eq_some_iff.1 he
    refine ⟨hlt, by rw [hge]; simpa using hc, fun j hj => ?_⟩
    have := hb j l[j] hj (by simp)
    simpa using this
  unfold atF
  rw [this]
theorem atF_none {l : List Ent} {c : Int} (hb : ∀ (j : Nat) x, l[j]? = some x → x.client ≠ c) : atF l c = -1 := by
  have : l.findIdx? (fun e => decide (e.client = c)) = none := by
    rw [List.findIdx?_eq_none_iff]
    intro x hx
    obtain ⟨j, hj⟩ := List.mem_iff_getElem?.1 hx
    simpa using hb j x hj
  unfold atF
  rw [this]
theorem atF_spec (l : List Ent) (c : Int) : (atF l c = -1 ∧ ∀ (j : Nat) x, l[j]? = some x → x.client ≠ c) ∨ ∃ i : Nat, atF l c = i ∧ i < l.length ∧ (entAt l i).client = c := by
  unfold atF
  cases h : l.findIdx? (fun e => decide (e.client = c)) with
  | none =>
    rw [List.findIdx?_eq_none_iff] at h
    refine .inl ⟨rfl, fun j x hj => ?_⟩
    simpa using h x (List.mem_of_getElem? hj)
  | some i =>
    rw [List.findIdx?_eq_some_iff_getElem] at h
    obtain ⟨h1, h2, _⟩ := h
    exact .inr ⟨i, rfl, h1, by simpa [entAt, h1] using h2⟩

theorem under_spec {l : List Ent} {c : Int} {k : Nat} (hk : k ≤ l.length) (hb : ∀ (j : Nat) x, j < k → l[j]? = some x → x.client < c) (he : ∀ x, l[k]? = some x → ¬ x.client < c) : under l c = k := by
  unfold under
  induction l generalizing k with
  | nil => simp at hk ⊢; omega
  | cons a l ih =>
    cases k with
    | zero =>
      have := he a rfl
      simp [List.takeWhile_cons, this]
    | succ k =>
      have h0 := hb 0 a (by omega) rfl
      simp only [List.takeWhile_cons, h0, decide_true, if_true, List.length_cons]
      rw [ih (by simpa using hk) (fun j x hj hx => hb (j + 1) x (by omega) (by simpa using hx)) (fun x hx => he x (by simpa using hx))]
end Go.Proofs.YtdfneaponidfgaaDoor
/- What the reference's moves of a game compute. -/
set_option linter.unusedVariables false
set_option maxRecDepth 10000
namespace Go.Proofs.YtdfneaponidfgaaDoor
open Go Eng

/-- A game whose numbers are small. -/
structure Fit (g : Game) : Prop where
  n : g.ents.length ≤ 16
  nf : g.floor.length = 16
  nl : g.last.length = 4
  ent : ∀ (i : Nat) e, g.ents[i]? = some e → 0 ≤ e.x ∧ e.x ≤ 3 ∧ 0 ≤ e.y ∧ e.y ≤ 3 ∧ 0 ≤ e.gold ∧ e.gold ≤ 1000
  fl : ∀ (i : Nat) n, g.floor[i]? = some n → 0 ≤ n ∧ n ≤ 1000
theorem Fit.at {g : Game} (h : Fit g) {k : Int} (h0 : 0 ≤ k) (h1 : k < g.ents.length) : 0 ≤ (entAt g.ents k).x ∧ (entAt g.ents k).x ≤ 3 ∧ 0 ≤ (entAt g.ents k).y ∧ (entAt g.ents k).y ≤ 3 ∧ 0 ≤ (entAt g.ents k).gold ∧ (entAt g.ents k).gold ≤ 1000 :=
  h.ent _ _ (entAt_get (by omega))
theorem Fit.floor {g : Game} (h : Fit g) {k : Int} (h0 : 0 ≤ k) (h1 : k < 16) : 0 ≤ intAt g.floor k ∧ intAt g.floor k ≤ 1000 :=
  h.fl _ _ (intAt_get (by have := h.nf; omega))
theorem room {n e : Nat} (h : n ≤ 1000000) (he : Nat.ble e 1000 = true) : n * e ≤ 2 ^ 47 := by
  have := Nat.le_of_ble_eq_true he
  have := Nat.mul_le_mul h this
  omega
theorem room' {n : Nat} (h : n ≤ 1000000) : n ≤ 2 ^ 47 := by omega
theorem set_row {α : Type} {f : α → List D} {l : List α} {i : Nat} {x : α} {r : List D} (hr : r = f x) : (l.map f).set i r = (l.set i x).map f := by subst hr; rw [List.map_set]

theorem set_get {α : Type} {f : α → List D} {l : List α} {i : Nat} {x : α} {r : List D} (hr : r = f x) (h : i < l.length) : ((l.map f).set i r)[i]? = some (f x) := by subst hr; simp [h]
def SmE (e : Ent) : Prop := 0 ≤ e.x ∧ e.x ≤ 3 ∧ 0 ≤ e.y ∧ e.y ≤ 3 ∧ 0 ≤ e.gold ∧ e.gold ≤ 1000
theorem Fit.setEnt {g : Game} (h : Fit g) (k : Int) {e : Ent} (he : SmE e) : Fit ⟨setEnt g.ents k e, g.floor, g.last⟩ := by
  refine ⟨by simp [Proofs.YtdfneaponidfgaaDoor.setEnt]; exact h.n, h.nf, h.nl, fun i x hx => ?_, h.fl⟩
  simp only [Proofs.YtdfneaponidfgaaDoor.setEnt, List.getElem?_set] at hx
  split at hx
  · split at hx
    · injection hx with hx; subst hx; exact he
    · simp at hx
  · exact h.ent i x hx

theorem at_ok (a b c : Bool) (g : Game) (cl : Int) : ACalls Tryd.prog G0 51 [vGame a b c g, vi cl] (· = vi (atF g.ents cl)) := by
  refine spec_intro tabOk Tryd.func51 (by kernel_rfl) rfl ?_
  conv => whnf
  let P : Nat → Prop := fun i => ∀ (j : Nat) x, j < i → g.ents[j]? = some x → x.client ≠ cl
  let I : Nat → SL := fun i => ⟨[(1, vi cl), (2, .ref 2 0 0 0), (4, vi 0), (5, vi i)], [(2, .box [.d (dEnts a g.ents), .d (dInts b g.floor), .d (dInts c g.last)])]⟩
  refine loop_up g.ents.length P I (by intro j x h; omega) ?_ ?_
  · refine ⟨?_, ?_, rfl⟩ <;> repeat' (first | exact weakSl_nil | exact weakHp_nil | refine weakSl_cons ?_ rfl ?_ | refine weakHp_cons ?_ rfl ?_)
    all_goals rfl
  intro i hi hP
  conv => whnf
  intro hlen
  have hlen := le_map hlen
  refine ⟨fun hlt => ?_, fun hge => ?_⟩ <;> conv => whnf
  · have hlt := lt_map hlt
    refine (entsAt hlt).elim fun e he => ?_
    refine ⟨by omega, encEnt e, row_map he, ?_⟩
    conv => whnf
    refine ⟨fun h => ?_, fun h => ?_⟩ <;> conv => whnf
    · exact congrArg vi (atF_some he h hP).symm
    · exact up_next hlt (fun j x hj hx => by
        by_cases hji : j = i
        · subst hji; rw [he] at hx; injection hx with hx; subst hx; exact h
        · exact hP j x (by omega) hx) ⟨weakSl_cons rfl rfl (weakSl_cons rfl rfl (weakSl_cons rfl rfl (weakSl_cons (wrap_succ (by omega)) rfl weakSl_nil))), weakHp_cons rfl rfl weakHp_nil, rfl⟩
  have hin := ge_map hge hi
  subst hin
  exact congrArg vi (atF_none fun j x hj => hP j x (List.getElem?_eq_some_iff.1 hj).1 hj).symm

theorem none_ok (r : Req) : ACalls Tryd.prog G0 17 [vReq r] (· = vb (reqNone r)) := by
  refine spec_intro tabOk Tryd.func17 (by kernel_rfl) rfl ?_
  conv => whnf
  refine ⟨fun h => ?_, fun h => ?_⟩ <;> conv => whnf
  · simp at h
    simp [vb, reqNone, h]
  · simp at h
    simp [vb, reqNone]
    omega

theorem near_ok (p q : Ent) (hx : 0 ≤ p.x ∧ p.x ≤ 3 ∧ 0 ≤ p.y ∧ p.y ≤ 3) (hy : 0 ≤ q.x ∧ q.x ≤ 3 ∧ 0 ≤ q.y ∧ q.y ≤ 3) : ACalls Tryd.prog G0 63 [vEnt p, vEnt q] (· = vb (nearF p q)) := by
  refine spec_intro tabOk Tryd.func63 (by kernel_rfl) rfl ?_
  conv => whnf
  have w1 : IntKind.i64.wrap (p.x - q.x) = p.x - q.x := wrap_id (by omega) (by omega)
  have w2 : IntKind.i64.wrap (p.y - q.y) = p.y - q.y := wrap_id (by omega) (by omega)
  refine call_bool (l1In_ok _ _ _) (fun h => ?_) (fun h => ?_) <;> conv => whnf
  · refine call_bool (l1In_ok _ _ _) (fun h2 => ?_) (fun h2 => ?_) <;> conv => whnf
    · rw [w1] at h; rw [w2] at h2; simp [vb, nearF, h, h2]
    · rw [w1] at h; rw [w2] at h2; simp [vb, nearF, h, h2]
  · rw [w1] at h; simp [vb, nearF, h]

theorem drop_ok (x : GV) (k : Int) (hf : Fit x.g) (h0 : 0 ≤ k) (h1 : k < x.g.ents.length) : ACalls Tryd.prog G0 74 [x.v, vi k] (· = (dropV x k).v) := by
  refine spec_own tabOk Tryd.func74 (by kernel_rfl) [22] [] rfl ?_
  conv => whnf
  have he := hf.at h0 h1
  have hn := hf.n
  have hnf := hf.nf
  refine ⟨h0, _, entAt_row h0 h1, ?_⟩
  conv => whnf
  refine ⟨room (by simp; omega) rfl, room' (by simp; omega), ?_⟩
  conv => whnf
  have w0 : IntKind.i64.wrap (IntKind.i64.wrap ((entAt x.g.ents k).y * 4) + (entAt x.g.ents k).x) = at4 (entAt x.g.ents k) := by
    rw [wrap_id (n := (entAt x.g.ents k).y * 4) (by omega) (by omega), wrap_id (by omega) (by omega)]; rfl
  have ha : 0 ≤ at4 (entAt x.g.ents k) ∧ at4 (entAt x.g.ents k) < 16 := by unfold at4; omega
  have hfl := hf.floor ha.1 ha.2
  refine ⟨by rw [w0]; omega, by rw [w0]; simp; omega, ?_⟩
  conv => whnf
  refine ⟨encI (intAt x.g.floor (at4 (entAt x.g.ents k))), by rw [w0]; exact intAt_row ha.1 (by omega), ?_⟩
  conv => whnf
  refine ⟨by rw [w0]; omega, by rw [w0]; simp; omega, ?_⟩
  conv => whnf
  refine ⟨encI (intAt x.g.floor (at4 (entAt x.g.ents k))), by rw [w0]; exact intAt_row ha.1 (by omega), ?_⟩
  conv => whnf
  refine ⟨h0, by simp; omega, ?_⟩
  conv => whnf
  refine ⟨room (by simp; omega) rfl, room' (by simp; omega), ?_⟩
  conv => whnf
  have wk : IntKind.i64.wrap (k + 1) = k + 1 := wrap_id (by omega) (by omega)
  refine ⟨by rw [wk]; omega, by rw [wk]; simp; omega, ?_⟩
  conv => whnf
  refine ⟨by simp, room (by simp; omega) rfl, room' (by simp; omega), ?_⟩
  conv => whnf
  refine vGame_ext ?_ ?_ ?_
  · have : (k + 1).toNat = k.toNat + 1 := by omega
    rw [wk, this]
    simp [dropV]
  · rw [w0, wrap_id (by omega) (by omega)]
    exact set_row rfl
  · rfl

theorem hit_ok (x : GV) (k n : Int) (hf : Fit x.g) (h0 : 0 ≤ k) (h1 : k < x.g.ents.length) (h2 : n < x.g.ents.length) (hlf : 0 ≤ n → 0 ≤ (entAt x.g.ents n).life ∧ (entAt x.g.ents n).life ≤ 3) : ACalls Tryd.prog G0 62 [x.v, vi k, vi n] (· = .tup [(hitV x k n).1.v, vi (hitV x k n).2]) := by
  refine spec_own tabOk Tryd.func62 (by kernel_rfl) [33] [] rfl ?_
  conv => whnf
  have he := hf.at h0 h1
  have hn := hf.n
  have far : ∀ {r : V}, (n < 0 ∨ n = k ∨ nearF (entAt x.g.ents k) (entAt x.g.ents n) = false) → r = .tup [x.v, vi 8] → r = .tup [(hitV x k n).1.v, vi (hitV x k n).2] := fun hc hr => by
    rw [hr]; simp only [hitV, if_pos hc]
  refine ⟨fun hl => ?_, fun hl => ?_⟩ <;> conv => whnf
  · exact far (.inl hl) rfl
  refine ⟨fun hk => ?_, fun hk => ?_⟩ <;> conv => whnf
  · exact far (.inr (.inl hk)) rfl
  have hn0 : 0 ≤ n := by omega
  have hen := hf.at hn0 h2
  have hlf := hlf hn0
  refine ⟨h0, _, entAt_row h0 h1, ?_⟩
  conv => whnf
  refine ⟨hn0, _, entAt_row hn0 h2, ?_⟩
  conv => whnf
  refine drawn_bool (near_ok _ _ ⟨he.1, he.2.1, he.2.2.1, he.2.2.2.1⟩ ⟨hen.1, hen.2.1, hen.2.2.1, hen.2.2.2.1⟩) (fun h => ?_) (fun h => ?_) <;> conv => whnf
  · have nf : ¬ (n < 0 ∨ n = k ∨ nearF (entAt x.g.ents k) (entAt x.g.ents n) = false) := by
      rw [h]; simp; exact ⟨hn0, hk⟩
    refine ⟨room (by simp; omega) rfl, room' (by simp; omega), ?_⟩
    conv => whnf
    refine ⟨hn0, by simp; omega, ?_⟩
    conv => whnf
    refine ⟨encEnt (entAt x.g.ents n), entAt_row hn0 h2, ?_⟩
    conv => whnf
    refine ⟨hn0, by simp; omega, ?_⟩
    conv => whnf
    refine ⟨encEnt (entAt x.g.ents n), entAt_row hn0 h2, ?_⟩
    conv => whnf
    refine ⟨hn0, by simp; omega, ?_⟩
    conv => whnf
    have wl : IntKind.i64.wrap ((entAt x.g.ents n).life - 1) = (entAt x.g.ents n).life - 1 := wrap_id (by omega) (by omega)
    have hnn : n.toNat < x.g.ents.length := by omega
    refine ⟨encEnt { entAt x.g.ents n with life := (entAt x.g.ents n).life - 1 }, by rw [wl]; exact set_get rfl hnn, ?_⟩
    conv => whnf
    refine ⟨fun hz => ?_, fun hz => ?_⟩ <;> conv => whnf
    · refine call_eq' (drop_ok ⟨false, x.b, x.c, ⟨hurt x.g.ents n, x.g.floor, x.g.last⟩⟩ n (hf.setEnt n hen) hn0 (by simp [hurt, setEnt]; omega)) (by rw [wl]; exact congrArg (· :: _) (vGame_ext (set_row rfl) rfl rfl)) ?_
      conv => whnf
      simp only [hitV, if_neg nf, if_pos hz]
      rfl
    · simp only [hitV, if_neg nf, if_neg hz]
      rw [wl]
      exact congrArg (fun v => V.tup [v, vi 0]) (vGame_ext (set_row rfl) rfl rfl)
  · exact far (.inr (.inr h)) rfl

theorem join_ok (x : GV) (c : Int) (hn : x.g.ents.length ≤ 16) (h0 : 0 ≤ c) (h1 : c ≤ 1000) : ACalls Tryd.prog G0 52 [x.v, vi c] (· = (⟨false, x.b, x.c, ⟨joinF x.g.ents c, x.g.floor, x.g.last⟩⟩ : GV).v) := by
  refine spec_intro tabOk Tryd.func52 (by kernel_rfl) rfl ?_
  conv => whnf
  let P : Nat → Prop := fun i => ∀ (j : Nat) e, j < i → x.g.ents[j]? = some e → e.client < c
  let I : Nat → SL := fun i => ⟨[(1, vi c), (2, .ref 2 0 0 0), (4, .ref 4 0 0 0), (5, vi i)], [(2, .box [.d (dEnts x.a x.g.ents), .d (dInts x.b x.g.floor), .d (dInts x.c x.g.last)]), (4, .box [.d (.slc true 5 []), .d (.slc true 1 []), .d (.slc true 1 [])])]⟩
  refine loop_up x.g.ents.length P I (by intro j e h; omega) ?_ ?_
  · refine ⟨?_, ?_, rfl⟩ <;> repeat' (first | exact weakSl_nil | exact weakHp_nil | refine weakSl_cons ?_ rfl ?_ | refine weakHp_cons ?_ rfl ?_)
    all_goals rfl
  intro i hi hP
  conv => whnf
  intro hlen
  have wc : IntKind.i64.wrap (c - 1) = c - 1 := wrap_id (by omega) (by omega)
  have fin : (∀ e, x.g.ents[i]? = some e → ¬ e.client < c) → under x.g.ents c = i := fun he => under_spec hi hP he
  have out : ∀ E : List (List D), under x.g.ents c = i → E = (x.g.ents.map encEnt).take i ++ [[.int .i64 c, .int .i64 (IntKind.i64.wrap (c - 1)), .int .i64 (IntKind.i64.wrap (c - 1)), .int .i64 3, .int .i64 0]] ++ (x.g.ents.map encEnt).drop i →
      V.agg [.d (.slc false 5 E), .d (.slc x.b 1 (x.g.floor.map encI)), .d (.slc x.c 1 (x.g.last.map encI))] = (⟨false, x.b, x.c, ⟨joinF x.g.ents c, x.g.floor, x.g.last⟩⟩ : GV).v := fun E hu hE => by
    refine vGame_ext ?_ rfl rfl
    rw [hE, wc]
    simp only [joinF, hu, List.map_append, List.map_take, List.map_drop]
    rfl
  refine ⟨fun hlt => ?_, fun hge => ?_⟩ <;> conv => whnf
  · have hlt := lt_map hlt
    refine (entsAt hlt).elim fun e he => ?_
    refine ⟨by omega, encEnt e, row_map he, ?_⟩
    conv => whnf
    refine ⟨fun h => ?_, fun h => ?_⟩ <;> conv => whnf
    · exact up_next hlt (fun j y hj hy => by
        by_cases hji : j = i
        · subst hji; rw [he] at hy; injection hy with hy; subst hy; exact h
        · exact hP j y (by omega) hy) ⟨weakSl_cons rfl rfl (weakSl_cons rfl rfl (weakSl_cons rfl rfl (weakSl_cons (wrap_succ (by omega)) rfl weakSl_nil))), weakHp_cons rfl rfl (weakHp_cons rfl rfl weakHp_nil), rfl⟩
    · have hu := fin fun y hy => by rw [he] at hy; injection hy with hy; subst hy; exact h
      refine ⟨by omega, by simp; omega, ?_⟩
      conv => whnf
      refine ⟨room (by simp; omega) rfl, room' (by simp; omega), ?_⟩
      conv => whnf
      refine ⟨by simp, room (by simp; omega) rfl, room' (by simp; omega), ?_⟩
      conv => whnf
      refine ⟨by omega, by simp; omega, ?_⟩
      conv => whnf
      refine ⟨by simp, room (by simp; omega) rfl, room' (by simp; omega), ?_⟩
      conv => whnf
      exact out _ hu rfl
  · have hin := ge_map hge hi
    have hu := fin fun y hy => absurd (List.getElem?_eq_some_iff.1 hy).1 (by omega)
    refine ⟨by omega, by simp; omega, ?_⟩
    conv => whnf
    refine ⟨room (by simp; omega) rfl, room' (by simp; omega), ?_⟩
    conv => whnf
    refine ⟨by simp, room (by simp; omega) rfl, room' (by simp; omega), ?_⟩
    conv => whnf
    refine ⟨by omega, by simp; omega, ?_⟩
    conv => whnf
    refine ⟨by simp, room (by simp; omega) rfl, room' (by simp; omega), ?_⟩
    conv => whnf
    exact out _ hu rfl
end Go.Proofs.YtdfneaponidfgaaDoor
/- What the reference's act of a figure computes. -/
set_option linter.unusedVariables false
set_option linter.unusedSimpArgs false
set_option maxRecDepth 10000
namespace Go.Proofs.YtdfneaponidfgaaDoor
open Go Eng

structure ReqFit (r : Req) : Prop where
  x : -1000 ≤ r.x ∧ r.x ≤ 1000
  y : -1000 ≤ r.y ∧ r.y ≤ 1000
def LifeOk (g : Game) : Prop := ∀ (i : Nat) e, g.ents[i]? = some e → 0 ≤ e.life ∧ e.life ≤ 3
theorem LifeOk.at {g : Game} (h : LifeOk g) {k : Int} (h0 : 0 ≤ k) (h1 : k < g.ents.length) : 0 ≤ (entAt g.ents k).life ∧ (entAt g.ents k).life ≤ 3 := h _ _ (entAt_get (by omega))

theorem set_at {l : List Ent} {n k : Int} {e : Ent} {r : List D} (hr : r = encEnt e) (hk : k.toNat < l.length) : ((l.map encEnt).set n.toNat r)[k.toNat]? = some (encEnt (entAt (setEnt l n e) k)) := by
  subst hr
  rw [← List.map_set]
  exact row_map (entAt_get (by simp [setEnt]; exact hk))
theorem set_set {l : List Ent} {i j : Nat} {e f : Ent} {r q : List D} (hr : r = encEnt e) (hq : q = encEnt f) : ((l.map encEnt).set i r).set j q = ((l.set i e).set j f).map encEnt := by
  subst hr; subst hq; simp only [List.map_set]
theorem act_ok (x : GV) (k : Int) (r : Req) (hf : Fit x.g) (hl : LifeOk x.g) (hr : ReqFit r) (h0 : 0 ≤ k) (h1 : k < x.g.ents.length) : ACalls Tryd.prog G0 53 [x.v, vi k, vReq r] (· = .tup [(actV x k r).1.v, vi (actV x k r).2]) := by
  refine spec_own tabOk Tryd.func53 (by kernel_rfl) [55, 120, 150] [] rfl ?_
  conv => whnf
  have he := hf.at h0 h1
  have hn := hf.n
  have hnf := hf.nf
  have hrx := hr.x
  have hry := hr.y
  have hkk : k.toNat < x.g.ents.length := by omega
  refine ⟨h0, _, entAt_row h0 h1, ?_⟩
  conv => whnf
  refine ⟨fun h2 => ?_, fun h2 => ?_⟩ <;> conv => whnf
  · have wx : IntKind.i64.wrap ((entAt x.g.ents k).x + r.x) = (entAt x.g.ents k).x + r.x := wrap_id (by omega) (by omega)
    have wy : IntKind.i64.wrap ((entAt x.g.ents k).y + r.y) = (entAt x.g.ents k).y + r.y := wrap_id (by omega) (by omega)
    have edge : ∀ {v : V}, (inB ((entAt x.g.ents k).x + r.x) 0 3 = false ∨ inB ((entAt x.g.ents k).y + r.y) 0 3 = false) → v = .tup [x.v, vi 6] → v = .tup [(actV x k r).1.v, vi (actV x k r).2] := fun hc hv => by
      rw [hv]; simp only [actV, if_pos h2, if_pos hc]
    refine call_bool (l1In_ok _ _ _) (fun h => ?_) (fun h => ?_) <;> conv => whnf
    · rw [wx] at h
      refine call_bool (l1In_ok _ _ _) (fun h3 => ?_) (fun h3 => ?_) <;> conv => whnf
      · rw [wy] at h3
        refine ⟨room (by simp; omega) rfl, room' (by simp; omega), ?_⟩
        conv => whnf
        refine ⟨h0, by simp; omega, ?_⟩
        conv => whnf
        refine ⟨encEnt (entAt x.g.ents k), entAt_row h0 h1, ?_⟩
        conv => whnf
        simp only [actV, if_pos h2, h, h3, Bool.true_eq_false, or_self, if_false]
        rw [wx, wy]
        exact congrArg (fun v => V.tup [v, vi 0]) (vGame_ext (set_row rfl) rfl rfl)
      · rw [wy] at h3; exact edge (.inr h3) rfl
    · rw [wx] at h; exact edge (.inl h) rfl
  refine ⟨fun h3 => ?_, fun h3 => ?_⟩ <;> conv => whnf
  · have w0 : IntKind.i64.wrap (IntKind.i64.wrap ((entAt x.g.ents k).y * 4) + (entAt x.g.ents k).x) = at4 (entAt x.g.ents k) := by
      rw [wrap_id (n := (entAt x.g.ents k).y * 4) (by omega) (by omega), wrap_id (by omega) (by omega)]; rfl
    have ha : 0 ≤ at4 (entAt x.g.ents k) ∧ at4 (entAt x.g.ents k) < 16 := by unfold at4; omega
    have hfl := hf.floor ha.1 ha.2
    refine ⟨by rw [w0]; omega, encI (intAt x.g.floor (at4 (entAt x.g.ents k))), by rw [w0]; exact intAt_row ha.1 (by omega), ?_⟩
    conv => whnf
    refine ⟨fun hz => ?_, fun hz => ?_⟩ <;> conv => whnf
    · simp only [actV, if_neg h2, if_pos h3, if_pos hz]; rfl
    refine ⟨room (by simp; omega) rfl, room' (by simp; omega), ?_⟩
    conv => whnf
    refine ⟨by rw [w0]; omega, by rw [w0]; simp; omega, ?_⟩
    conv => whnf
    refine ⟨encI (intAt x.g.floor (at4 (entAt x.g.ents k))), by rw [w0]; exact intAt_row ha.1 (by omega), ?_⟩
    conv => whnf
    refine ⟨by rw [w0]; omega, by rw [w0]; simp; omega, ?_⟩
    conv => whnf
    refine ⟨encI (intAt x.g.floor (at4 (entAt x.g.ents k))), by rw [w0]; exact intAt_row ha.1 (by omega), ?_⟩
    conv => whnf
    refine ⟨room (by simp; omega) rfl, room' (by simp; omega), ?_⟩
    conv => whnf
    refine ⟨h0, by simp; omega, ?_⟩
    conv => whnf
    refine ⟨encEnt (entAt x.g.ents k), entAt_row h0 h1, ?_⟩
    conv => whnf
    simp only [actV, if_neg h2, if_pos h3, if_neg hz]
    rw [w0, wrap_id (n := (entAt x.g.ents k).gold + 1) (by omega) (by omega), wrap_id (n := intAt x.g.floor (at4 (entAt x.g.ents k)) - 1) (by omega) (by omega)]
    exact congrArg (fun v => V.tup [v, vi 0]) (vGame_ext (set_row rfl) (set_row rfl) rfl)
  refine ⟨fun h4 => ?_, fun h4 => ?_⟩ <;> conv => whnf
  · refine drawn_eq (at_ok _ _ _ _ _) ?_
    conv => whnf
    have hat := atF_spec x.g.ents r.x
    refine drawn_eq (hit_ok x k (atF x.g.ents r.x) hf h0 h1 ?_ ?_) ?_
    · rcases hat with ⟨h, _⟩ | ⟨i, h, hi, _⟩ <;> omega
    · intro hn0
      rcases hat with ⟨h, _⟩ | ⟨i, h, hi, _⟩
      · omega
      · exact hl.at hn0 (by omega)
    conv => whnf
    simp only [actV, if_neg h2, if_neg h3, if_pos h4]
    rfl
  refine call_eq (at_ok _ _ _ _ _) ?_
  conv => whnf
  have hat : 0 ≤ atF x.g.ents r.x → atF x.g.ents r.x < x.g.ents.length := fun h => by
    rcases atF_spec x.g.ents r.x with ⟨h, _⟩ | ⟨i, h, hi, _⟩ <;> omega
  have hact : actV x k r = (if atF x.g.ents r.x < 0 ∨ atF x.g.ents r.x = k ∨ nearF (entAt x.g.ents k) (entAt x.g.ents (atF x.g.ents r.x)) = false then (x, 8)
    else if (entAt x.g.ents k).gold < r.y then (x, 7)
    else (⟨false, x.b, x.c, ⟨setEnt (setEnt x.g.ents (atF x.g.ents r.x) { entAt x.g.ents (atF x.g.ents r.x) with gold := (entAt x.g.ents (atF x.g.ents r.x)).gold + r.y }) k { entAt x.g.ents k with gold := (entAt x.g.ents k).gold - r.y }, x.g.floor, x.g.last⟩⟩, 0)) := by
    simp only [actV, if_neg h2, if_neg h3, if_neg h4]
  have far : ∀ {v : V}, (atF x.g.ents r.x < 0 ∨ atF x.g.ents r.x = k ∨ nearF (entAt x.g.ents k) (entAt x.g.ents (atF x.g.ents r.x)) = false) → v = .tup [x.v, vi 8] → v = .tup [(actV x k r).1.v, vi (actV x k r).2] := fun hc hv => by
    rw [hv, hact]; simp only [if_pos hc]
  refine ⟨fun hl0 => ?_, fun hl0 => ?_⟩ <;> conv => whnf
  · exact far (.inl hl0) rfl
  refine ⟨fun hk => ?_, fun hk => ?_⟩ <;> conv => whnf
  · exact far (.inr (.inl hk)) rfl
  have hn0 : 0 ≤ atF x.g.ents r.x := by omega
  have h1n := hat hn0
  have hen := hf.at hn0 h1n
  have hnn : (atF x.g.ents r.x).toNat < x.g.ents.length := by omega
  refine ⟨hn0, _, entAt_row hn0 h1n, ?_⟩
  conv => whnf
  refine drawn_bool (near_ok (entAt x.g.ents k) _ ⟨he.1, he.2.1, he.2.2.1, he.2.2.2.1⟩ ⟨hen.1, hen.2.1, hen.2.2.1, hen.2.2.2.1⟩) (fun h => ?_) (fun h => ?_) <;> conv => whnf
  · have nf : ¬ (atF x.g.ents r.x < 0 ∨ atF x.g.ents r.x = k ∨ nearF (entAt x.g.ents k) (entAt x.g.ents (atF x.g.ents r.x)) = false) := by
      rw [h]; simp; exact ⟨hn0, hk⟩
    rw [if_neg nf] at hact
    refine ⟨fun hp => ?_, fun hp => ?_⟩ <;> conv => whnf
    · rw [hact, if_pos hp]; rfl
    rw [if_neg hp] at hact
    refine ⟨room (by simp; omega) rfl, room' (by simp; omega), ?_⟩
    conv => whnf
    refine ⟨hn0, by simp; omega, ?_⟩
    conv => whnf
    refine ⟨encEnt (entAt x.g.ents (atF x.g.ents r.x)), entAt_row hn0 h1n, ?_⟩
    conv => whnf
    refine ⟨hn0, by simp; omega, ?_⟩
    conv => whnf
    refine ⟨encEnt (entAt x.g.ents (atF x.g.ents r.x)), entAt_row hn0 h1n, ?_⟩
    conv => whnf
    have wg : IntKind.i64.wrap ((entAt x.g.ents (atF x.g.ents r.x)).gold + r.y) = (entAt x.g.ents (atF x.g.ents r.x)).gold + r.y := wrap_id (by omega) (by omega)
    have wh : IntKind.i64.wrap ((entAt x.g.ents k).gold - r.y) = (entAt x.g.ents k).gold - r.y := wrap_id (by omega) (by omega)
    refine ⟨room (by simp; omega) rfl, room' (by simp; omega), ?_⟩
    conv => whnf
    refine ⟨h0, by simp; omega, ?_⟩
    conv => whnf
    refine ⟨encEnt (entAt (setEnt x.g.ents (atF x.g.ents r.x) { entAt x.g.ents (atF x.g.ents r.x) with gold := (entAt x.g.ents (atF x.g.ents r.x)).gold + r.y }) k), by rw [wg]; exact set_at rfl hkk, ?_⟩
    conv => whnf
    rw [hact, wg, wh]
    exact congrArg (fun v => V.tup [v, vi 0]) (vGame_ext (set_set rfl rfl) rfl rfl)
  · exact far (.inr (.inr h)) rfl

/-- An ask that may be done to a game. -/
structure ReqIn (r : Req) : Prop extends ReqFit r where
  cl : reqNone r = true ∨ 1 ≤ r.client ∧ r.client ≤ 4

theorem do_ok (x : GV) (r : Req) (hf : Fit x.g) (hl : LifeOk x.g) (hr : ReqIn r) : ACalls Tryd.prog G0 37 [x.v, vReq r] (· = .tup [(doV x r).1.v, vi (doV x r).2]) := by
  refine spec_own tabOk Tryd.func37 (by kernel_rfl) [24] [] rfl ?_
  conv => whnf
  have hn := hf.n
  have hnl := hf.nl
  refine call_bool (none_ok r) (fun hno => ?_) (fun hno => ?_) <;> conv => whnf
  · simp only [doV, if_pos hno]; rfl
  have hno' : ¬ reqNone r = true := by rw [hno]; simp
  have hc : 1 ≤ r.client ∧ r.client ≤ 4 := hr.cl.resolve_left hno'
  have wc : IntKind.i64.wrap (r.client - 1) = r.client - 1 := wrap_id (by omega) (by omega)
  refine ⟨by rw [wc]; omega, encI (intAt x.g.last (r.client - 1)), by rw [wc]; exact intAt_row (by omega) (by omega), ?_⟩
  conv => whnf
  refine ⟨fun ho => ?_, fun ho => ?_⟩ <;> conv => whnf
  · simp only [doV, if_neg hno', if_pos ho]; rfl
  let y : GV := ⟨x.a, x.b, false, ⟨x.g.ents, x.g.floor, x.g.last.set (r.client - 1).toNat r.num⟩⟩
  have hd1 : r.op = 1 → 0 ≤ atF x.g.ents r.client → doV x r = (y, 4) := fun h1 h2 => by
    simp only [doV, if_neg hno', if_neg ho, if_pos h1, if_pos h2, y]
  have hd2 : r.op = 1 → ¬ 0 ≤ atF x.g.ents r.client → doV x r = (⟨false, y.b, y.c, ⟨joinF y.g.ents r.client, y.g.floor, y.g.last⟩⟩, 0) := fun h1 h2 => by
    simp only [doV, if_neg hno', if_neg ho, if_pos h1, if_neg h2, y]
  have hd3 : ¬ r.op = 1 → atF x.g.ents r.client < 0 → doV x r = (y, 5) := fun h1 h2 => by
    simp only [doV, if_neg hno', if_neg ho, if_neg h1, if_pos h2, y]
  have hd4 : ¬ r.op = 1 → ¬ atF x.g.ents r.client < 0 → doV x r = actV y (atF x.g.ents r.client) r := fun h1 h2 => by
    simp only [doV, if_neg hno', if_neg ho, if_neg h1, if_neg h2, y]
  refine ⟨room (by simp; omega) rfl, room' (by simp; omega), ?_⟩
  conv => whnf
  refine ⟨by rw [wc]; omega, by rw [wc]; simp; omega, ?_⟩
  conv => whnf
  refine ⟨encI (intAt x.g.last (r.client - 1)), by rw [wc]; exact intAt_row (by omega) (by omega), ?_⟩
  conv => whnf
  have hy : ∀ {v : V}, v = .agg [.d (dEnts x.a x.g.ents), .d (dInts x.b x.g.floor), .d (.slc false 1 ((x.g.last.map encI).set (IntKind.i64.wrap (r.client - 1)).toNat (encI r.num)))] → v = y.v := fun hv => by
    rw [hv, wc]; exact vGame_ext rfl rfl (set_row rfl)
  refine call_eq' (at_ok x.a x.b false y.g r.client) (by exact congrArg (· :: _) (hy rfl)) ?_
  conv => whnf
  refine ⟨fun h1 => ?_, fun h1 => ?_⟩ <;> conv => whnf
  · refine ⟨fun h2 => ?_, fun h2 => ?_⟩ <;> conv => whnf
    · rw [hd1 h1 h2]
      exact congrArg (fun v => V.tup [v, vi 4]) (hy rfl)
    refine call_eq' (join_ok y r.client hn (by omega) (by omega)) (congrArg (· :: _) (hy rfl)) ?_
    conv => whnf
    rw [hd2 h1 h2]
    rfl
  refine ⟨fun h2 => ?_, fun h2 => ?_⟩ <;> conv => whnf
  · rw [hd3 h1 h2]
    exact congrArg (fun v => V.tup [v, vi 5]) (hy rfl)
  have hat : atF x.g.ents r.client < x.g.ents.length := by
    rcases atF_spec x.g.ents r.client with ⟨h, _⟩ | ⟨i, h, hi, _⟩ <;> omega
  have hfy : Fit y.g := ⟨hf.n, hf.nf, by simp [y, hnl], hf.ent, hf.fl⟩
  refine call_eq' (act_ok y (atF x.g.ents r.client) r hfy hl hr.toReqFit (by have : ¬ atF x.g.ents r.client < 0 := h2
                                                                             omega) hat) (congrArg (· :: _) (hy rfl)) ?_
  conv => whnf
  rw [hd4 h1 h2]
  rfl
end Go.Proofs.YtdfneaponidfgaaDoor
/- What the reference's new game is, and its copy. -/
set_option linter.unusedVariables false
set_option maxRecDepth 10000
namespace Go.Proofs.YtdfneaponidfgaaDoor
open Go Eng

def newFl : Nat → List Int
  | 0 => List.replicate 16 0
  | i + 1 => addAt (newFl i) (((i : Int) * 5).tmod 16) 1
theorem newFl_len : ∀ i, (newFl i).length = 16
  | 0 => by simp [newFl]
  | i + 1 => by simp [newFl, addAt, newFl_len i]
theorem newFl_range : ∀ i (j : Nat) n, (newFl i)[j]? = some n → 0 ≤ n ∧ n ≤ i
  | 0, j, n, h => by
    simp only [newFl, List.getElem?_replicate] at h
    split at h
    · injection h with h; omega
    · simp at h
  | i + 1, j, n, h => by
    simp only [newFl, addAt, List.getElem?_set] at h
    split at h
    · split at h
      · rename_i hj
        injection h with h
        have h2 := newFl_range i _ _ (intAt_get hj)
        omega
      · simp at h
    · have := newFl_range i j n h
      omega
def newG : Game := ⟨[], newFl 20, List.replicate 4 0⟩
def newV : GV := ⟨true, true, true, newG⟩

theorem new_ok : ACalls Tryd.prog G0 36 [] (· = newV.v) := by
  refine spec_intro tabOk Tryd.func36 (by kernel_rfl) rfl ?_
  conv => whnf
  refine ⟨rfl, by omega, by decide, by omega, ?_⟩
  conv => whnf
  refine ⟨rfl, by omega, by decide, by omega, ?_⟩
  conv => whnf
  let P : Nat → Prop := fun i => True
  let I : Nat → SL := fun i => ⟨[(0, .ref 0 0 0 0), (1, .ref 1 0 0 0), (2, vi i)], [(0, .box [.d (.slc true 5 []), .d (.slc true 1 []), .d (.slc true 1 [])]), (1, .box [.d (.slc true 5 []), .own 4, .own 5]), (4, .arr true 1 ((newFl i).map encI)), (5, .arr true 1 ((List.replicate 4 0).map encI))]⟩
  refine loop_up 20 P I trivial ?_ ?_
  · refine ⟨?_, ?_, rfl⟩ <;> repeat' (first | exact weakSl_nil | exact weakHp_nil | refine weakSl_cons ?_ rfl ?_ | refine weakHp_cons ?_ rfl ?_)
    all_goals rfl
  intro i hi _
  conv => whnf
  refine ⟨fun hlt => ?_, fun hge => ?_⟩ <;> conv => whnf
  · have hl := newFl_len i
    have hL : (((newFl i).map encI).length : Int) = 16 := by simp [hl]
    intro _
    conv => whnf
    refine ⟨by rw [hL]; omega, ?_⟩
    conv => whnf
    have wi : IntKind.i64.wrap ((i : Int) * 5) = (i : Int) * 5 := wrap_id (by omega) (by omega)
    have q1 := Int.tmod_nonneg (16 : Int) (a := (i : Int) * 5) (by omega)
    have q2 := Int.tmod_lt_of_pos ((i : Int) * 5) (b := 16) (by omega)
    have hr := newFl_range i _ _ (intAt_get (l := newFl i) (k := ((i : Int) * 5).tmod 16) (by omega))
    refine ⟨by rw [wi, hL]; exact q1, by rw [wi, hL]; simp; omega, ?_⟩
    conv => whnf
    refine ⟨encI (intAt (newFl i) (((i : Int) * 5).tmod 16)), by rw [wi, hL]; exact intAt_row q1 (by omega), ?_⟩
    conv => whnf
    refine ⟨by rw [wi, hL]; exact q1, by rw [wi, hL]; simp; omega, ?_⟩
    conv => whnf
    refine ⟨encI (intAt (newFl i) (((i : Int) * 5).tmod 16)), by rw [wi, hL]; exact intAt_row q1 (by omega), ?_⟩
    conv => whnf
    refine up_next (by omega) trivial ⟨weakSl_cons rfl rfl (weakSl_cons rfl rfl (weakSl_cons (wrap_succ (by omega)) rfl weakSl_nil)), weakHp_cons rfl rfl (weakHp_cons rfl rfl (weakHp_cons ?_ rfl (weakHp_cons rfl rfl weakHp_nil))), rfl⟩
    refine congrArg (Obj.arr true 1) ?_
    rw [wi, hL, wrap_id (by omega) (by omega)]
    exact set_row rfl
  have hin : i = 20 := by omega
  subst hin
  rfl

end Go.Proofs.YtdfneaponidfgaaDoor
/- A game that is ok stays ok, whatever is asked. -/
set_option linter.unusedVariables false
set_option linter.unusedSimpArgs false
namespace Go.Proofs.YtdfneaponidfgaaDoor
open Go Eng

structure Good (g : Game) : Prop where
  ent : ∀ e ∈ g.ents, 1 ≤ e.client ∧ e.client ≤ 4 ∧ 0 ≤ e.x ∧ e.x ≤ 3 ∧ 0 ≤ e.y ∧ e.y ≤ 3 ∧ 0 ≤ e.life ∧ e.life ≤ 3 ∧ 0 ≤ e.gold
  ord : (g.ents.map Ent.client).Pairwise (· < ·)
  floor : ∀ n ∈ g.floor, 0 ≤ n
  last : ∀ n ∈ g.last, 0 ≤ n ∧ n ≤ 30
  nfloor : g.floor.length = 16
  nlast : g.last.length = 4
  sum : (g.ents.map Ent.gold).sum + g.floor.sum = 20

theorem sum_nonneg {l : List Int} (h : ∀ n ∈ l, 0 ≤ n) : 0 ≤ l.sum := by
  induction l with
  | nil => simp
  | cons a l ih =>
    have := h a List.mem_cons_self
    have := ih fun n hn => h n (List.mem_cons_of_mem _ hn)
    simp; omega
theorem mem_le_sum {l : List Int} (h : ∀ n ∈ l, 0 ≤ n) {n : Int} (hn : n ∈ l) : n ≤ l.sum := by
  induction l with
  | nil => simp at hn
  | cons a l ih =>
    have h0 := h a List.mem_cons_self
    have h1 := sum_nonneg fun n hn => h n (List.mem_cons_of_mem _ hn)
    simp only [List.sum_cons]
    rcases List.mem_cons.1 hn with rfl | hn
    · omega
    · have := ih (fun n hn => h n (List.mem_cons_of_mem _ hn)) hn
      omega
theorem adj_pair {l : List Int} : (∀ (i : Nat) p e, l[i]? = some p → l[i + 1]? = some e → p < e) ↔ l.Pairwise (· < ·) := by
  constructor
  · intro h
    induction l with
    | nil => simp
    | cons a l ih =>
      have ih := ih fun i p e hp he => h (i + 1) p e (by simpa using hp) (by simpa using he)
      refine List.pairwise_cons.2 ⟨fun b hb => ?_, ih⟩
      cases l with
      | nil => simp at hb
      | cons c l =>
        have hac := h 0 a c rfl rfl
        rcases List.mem_cons.1 hb with rfl | hb
        · exact hac
        · have := (List.pairwise_cons.1 ih).1 b hb
          omega
  · intro h i p e hp he
    obtain ⟨h1, rfl⟩ := List.getElem?_eq_some_iff.1 hp
    obtain ⟨h2, rfl⟩ := List.getElem?_eq_some_iff.1 he
    exact List.pairwise_iff_getElem.1 h i (i + 1) h1 h2 (by omega)

theorem good_ok {g : Game} (h : Good g) : OkG g := by
  have hg : ∀ n ∈ g.ents.map Ent.gold, 0 ≤ n := fun n hn => by
    obtain ⟨e, he, rfl⟩ := List.mem_map.1 hn
    exact (h.ent e he).2.2.2.2.2.2.2.2
  have s1 := sum_nonneg hg
  have s2 := sum_nonneg h.floor
  have hs := h.sum
  refine ⟨fun i e he => ?_, fun i p e hp he => ?_, fun i n hn => ?_, fun i n hn => inB_t.2 (h.last n (List.mem_of_getElem? hn)), h.nfloor, h.nlast, h.sum⟩
  · have hm := List.mem_of_getElem? he
    have := h.ent e hm
    have hle := mem_le_sum hg (List.mem_map.2 ⟨e, hm, rfl⟩)
    simp only [entOk, Bool.and_eq_true, inB_t]
    omega
  · exact adj_pair.2 h.ord i p.client e.client (by simp [hp]) (by simp [he])
  · have hm := List.mem_of_getElem? hn
    have := mem_le_sum h.floor hm
    have := h.floor n hm
    exact inB_t.2 (by omega)
theorem ok_good {g : Game} (h : OkG g) : Good g := by
  refine ⟨fun e he => ?_, adj_pair.1 fun i p e hp he => ?_, fun n hn => ?_, fun n hn => ?_, h.nfloor, h.nlast, h.sum⟩
  · obtain ⟨i, hi⟩ := List.mem_iff_getElem?.1 he
    have := h.ent i e hi
    simp only [entOk, Bool.and_eq_true, inB_t] at this
    omega
  · rw [List.getElem?_map] at hp he
    cases h1 : g.ents[i]? with
    | none => simp [h1] at hp
    | some a => cases h2 : g.ents[i + 1]? with
      | none => simp [h2] at he
      | some b =>
        simp [h1] at hp; simp [h2] at he
        subst hp; subst he
        exact h.ord i a b h1 h2
  · obtain ⟨i, hi⟩ := List.mem_iff_getElem?.1 hn
    exact (inB_t.1 (h.floor i n hi)).1
  · obtain ⟨i, hi⟩ := List.mem_iff_getElem?.1 hn
    exact inB_t.1 (h.last i n hi)

theorem incr_len {l : List Int} {lo hi : Int} (h : l.Pairwise (· < ·)) (hr : ∀ n ∈ l, lo ≤ n ∧ n ≤ hi) (hlh : lo ≤ hi + 1) : (l.length : Int) ≤ hi - lo + 1 := by
  induction l generalizing lo with
  | nil => simp; omega
  | cons a l ih =>
    have ha := hr a List.mem_cons_self
    obtain ⟨h1, h2⟩ := List.pairwise_cons.1 h
    have := ih (lo := a + 1) h2 (fun n hn => ⟨by have := h1 n hn; omega, (hr n (List.mem_cons_of_mem _ hn)).2⟩) (by omega)
    simp only [List.length_cons]; omega

theorem good_len {g : Game} (h : Good g) : g.ents.length ≤ 4 := by
  have := incr_len (lo := 1) (hi := 4) h.ord (fun n hn => by
    obtain ⟨e, he, rfl⟩ := List.mem_map.1 hn
    have := h.ent e he; omega) (by omega)
  simp at this; omega
theorem good_gold {g : Game} (h : Good g) : ∀ e ∈ g.ents, e.gold ≤ 20 := fun e he => by
  obtain ⟨i, hi⟩ := List.mem_iff_getElem?.1 he
  have := (good_ok h).ent i e hi
  simp only [entOk, Bool.and_eq_true, inB_t] at this
  omega
theorem good_floor {g : Game} (h : Good g) : ∀ n ∈ g.floor, n ≤ 20 := fun n hn => by
  obtain ⟨i, hi⟩ := List.mem_iff_getElem?.1 hn
  exact (inB_t.1 ((good_ok h).floor i n hi)).2
theorem good_fit {g : Game} (h : Good g) : Fit g := by
  refine ⟨by have := good_len h; omega, h.nfloor, h.nlast, fun i e he => ?_, fun i n hn => ?_⟩
  · have hm := List.mem_of_getElem? he
    have := h.ent e hm
    have := good_gold h e hm
    omega
  · have hm := List.mem_of_getElem? hn
    have := h.floor n hm
    have := good_floor h n hm
    omega
theorem good_life {g : Game} (h : Good g) : LifeOk g := fun i e he => by
  have := h.ent e (List.mem_of_getElem? he)
  omega

theorem sum_set {l : List Int} {i : Nat} {a v : Int} (h : l[i]? = some a) : (l.set i v).sum = l.sum - a + v := by
  induction l generalizing i with
  | nil => simp at h
  | cons b l ih =>
    cases i with
    | zero => simp at h; subst h; simp; omega
    | succ i =>
      simp at h
      have := ih (i := i) (by simpa using h)
      simp [this]; omega
theorem sum_setEnt {l : List Ent} {k : Int} {e : Ent} (h : k.toNat < l.length) : ((setEnt l k e).map Ent.gold).sum = (l.map Ent.gold).sum - (entAt l k).gold + e.gold := by
  unfold setEnt
  rw [List.map_set, sum_set (a := (entAt l k).gold) (by simp [entAt, h])]
theorem clients_setEnt {l : List Ent} {k : Int} {e : Ent} (h : k.toNat < l.length) (hc : e.client = (entAt l k).client) : (setEnt l k e).map Ent.client = l.map Ent.client := by
  unfold setEnt
  rw [List.map_set, hc]
  apply List.ext_getElem?
  intro i
  rw [List.getElem?_set]
  split
  · rename_i hi
    subst hi
    simp [entAt, h]
  · rfl
theorem mem_set {α : Type} {l : List α} {i : Nat} {a b : α} (h : b ∈ l.set i a) : b = a ∨ b ∈ l := by
  rcases List.mem_or_eq_of_mem_set h with h | h
  · exact .inr h
  · exact .inl h
theorem entAt_mem {l : List Ent} {k : Int} (h : k.toNat < l.length) : entAt l k ∈ l := List.mem_of_getElem? (entAt_get h)
theorem intAt_mem {l : List Int} {k : Int} (h : k.toNat < l.length) : intAt l k ∈ l := List.mem_of_getElem? (intAt_get h)
theorem sum_addAt {l : List Int} {k n : Int} (h : k.toNat < l.length) : (addAt l k n).sum = l.sum + n := by
  unfold addAt
  rw [sum_set (intAt_get h)]; omega
theorem at4_lt {e : Ent} (h : 0 ≤ e.x ∧ e.x ≤ 3 ∧ 0 ≤ e.y ∧ e.y ≤ 3) : 0 ≤ at4 e ∧ (at4 e).toNat < 16 := by unfold at4; omega

def entOf (e : Ent) : Prop := 1 ≤ e.client ∧ e.client ≤ 4 ∧ 0 ≤ e.x ∧ e.x ≤ 3 ∧ 0 ≤ e.y ∧ e.y ≤ 3 ∧ 0 ≤ e.life ∧ e.life ≤ 3 ∧ 0 ≤ e.gold

/-- One figure is changed, and gold moves between it and the floor. -/
theorem good_set {g : Game} (h : Good g) {k : Int} {e : Ent} {fl : List Int} (hk : k.toNat < g.ents.length) (hc : e.client = (entAt g.ents k).client) (he : entOf e) (hf : ∀ n ∈ fl, 0 ≤ n) (hl : fl.length = 16) (hs : fl.sum + e.gold = g.floor.sum + (entAt g.ents k).gold) :
    Good ⟨setEnt g.ents k e, fl, g.last⟩ := by
  have := h.sum
  refine ⟨fun x hx => ?_, by rw [clients_setEnt hk hc]; exact h.ord, hf, h.last, hl, h.nlast, by show ((setEnt g.ents k e).map Ent.gold).sum + fl.sum = 20; rw [sum_setEnt hk]; omega⟩
  rcases mem_set hx with rfl | hx
  · exact he
  · exact h.ent x hx

theorem sum_erase {l : List Ent} {k : Nat} (h : k < l.length) : ((l.take k ++ l.drop (k + 1)).map Ent.gold).sum = (l.map Ent.gold).sum - (l[k]).gold := by
  have : l.map Ent.gold = (l.take k).map Ent.gold ++ (l[k]).gold :: (l.drop (k + 1)).map Ent.gold := by
    rw [← List.map_cons, ← List.map_append, List.getElem_cons_drop h, List.take_append_drop]
  rw [this]
  simp
  omega
theorem good_drop {x : GV} (k : Int) (hk : k.toNat < x.g.ents.length) (hx : Good ⟨setEnt x.g.ents k { entAt x.g.ents k with life := 0 }, x.g.floor, x.g.last⟩) : Good (dropV x k).g := by
  have hke : x.g.ents[k.toNat] = entAt x.g.ents k := by simp [entAt, hk]
  have he := hx.ent { entAt x.g.ents k with life := 0 } (by unfold setEnt; exact List.mem_of_getElem? (i := k.toNat) (by simp [hk]))
  have ha := at4_lt (e := entAt x.g.ents k) ⟨he.2.2.1, he.2.2.2.1, he.2.2.2.2.1, he.2.2.2.2.2.1⟩
  have hs := hx.sum
  have hsum : ((setEnt x.g.ents k { entAt x.g.ents k with life := 0 }).map Ent.gold).sum = (x.g.ents.map Ent.gold).sum := by rw [sum_setEnt hk]; simp
  have hcl := clients_setEnt (e := { entAt x.g.ents k with life := 0 }) hk rfl
  have hnf : x.g.floor.length = 16 := hx.nfloor
  refine ⟨fun e hm => ?_, ?_, fun n hn => ?_, hx.last, by simp [dropV, addAt, hnf], hx.nlast, ?_⟩
  · have : ∃ j, j ≠ k.toNat ∧ x.g.ents[j]? = some e := by
      rcases List.mem_append.1 hm with hm | hm
      · obtain ⟨j, hj⟩ := List.mem_iff_getElem?.1 hm
        rw [List.getElem?_take] at hj
        split at hj
        · exact ⟨j, by omega, hj⟩
        · simp at hj
      · obtain ⟨j, hj⟩ := List.mem_iff_getElem?.1 hm
        rw [List.getElem?_drop] at hj
        exact ⟨_, by omega, hj⟩
    obtain ⟨j, hj, hje⟩ := this
    exact hx.ent e (List.mem_of_getElem? (i := j) (by simp only [setEnt]; rw [List.getElem?_set_ne (by omega)]; exact hje))
  · have h1 := hx.ord
    rw [hcl] at h1
    have : ((dropV x k).g.ents.map Ent.client).Sublist (x.g.ents.map Ent.client) := by
      refine List.Sublist.map _ ?_
      show (x.g.ents.take k.toNat ++ x.g.ents.drop (k.toNat + 1)).Sublist _
      rw [← List.eraseIdx_eq_take_drop_succ]
      exact List.eraseIdx_sublist _ _
    exact h1.sublist this
  · rcases mem_set hn with rfl | hn
    · have := hx.floor _ (intAt_mem (k := at4 (entAt x.g.ents k)) (by rw [hnf]; exact ha.2))
      have := he.2.2.2.2.2.2.2.2
      simp at this
      show 0 ≤ intAt x.g.floor _ + (entAt x.g.ents k).gold
      simp at *
      omega
    · exact hx.floor n hn
  · show ((x.g.ents.take k.toNat ++ x.g.ents.drop (k.toNat + 1)).map Ent.gold).sum + (addAt x.g.floor (at4 (entAt x.g.ents k)) (entAt x.g.ents k).gold).sum = 20
    rw [sum_erase hk, sum_addAt (by rw [hnf]; exact ha.2), hke]
    rw [hsum] at hs
    simp at hs
    omega

theorem good_hit {x : GV} {k n : Int} (h : Good x.g) (hn : n < x.g.ents.length) : Good (hitV x k n).1.g := by
  unfold hitV
  split
  · exact h
  · rename_i hc
    have hn0 : 0 ≤ n := by
      apply Classical.byContradiction; intro hh; exact hc (.inl (by omega))
    have hnn : n.toNat < x.g.ents.length := by omega
    have he := h.ent _ (entAt_mem hnn)
    have set : ∀ z : Int, 0 ≤ z → z ≤ 3 → Good ⟨setEnt x.g.ents n { entAt x.g.ents n with life := z }, x.g.floor, x.g.last⟩ := fun z h0 h3 =>
      good_set h hnn rfl (by simp only [entOf]; omega) h.floor h.nfloor rfl
    dsimp only
    split
    · rename_i hz
      have hent : entAt (hurt x.g.ents n) n = { entAt x.g.ents n with life := (entAt x.g.ents n).life - 1 } := by
        simp only [entAt, hurt, setEnt]
        simp [hnn]
      refine good_drop (x := ⟨false, x.b, x.c, ⟨hurt x.g.ents n, x.g.floor, x.g.last⟩⟩) n (by simp [hurt, setEnt]; exact hnn) ?_
      show Good ⟨setEnt (hurt x.g.ents n) n { entAt (hurt x.g.ents n) n with life := 0 }, x.g.floor, x.g.last⟩
      rw [hent]
      simp only [hurt, setEnt, List.set_set]
      exact set 0 (by omega) (by omega)
    · exact set _ (by omega) (by omega)

structure ReqOk (r : Req) : Prop where
  x : -1000 ≤ r.x ∧ r.x ≤ 1000
  y : -1000 ≤ r.y ∧ r.y ≤ 1000
  rest : reqNone r = true ∨ 1 ≤ r.client ∧ r.client ≤ 4 ∧ r.num ≤ 30 ∧ (r.op ≠ 2 → 0 ≤ r.y)
theorem ReqOk.into {r : Req} (h : ReqOk r) : ReqIn r := ⟨⟨h.x, h.y⟩, h.rest.imp id fun h => ⟨h.1, h.2.1⟩⟩

theorem good_act {x : GV} {k : Int} {r : Req} (h : Good x.g) (h0 : 0 ≤ k) (h1 : k < x.g.ents.length) (hy : r.op ≠ 2 → 0 ≤ r.y) : Good (actV x k r).1.g := by
  have hkk : k.toNat < x.g.ents.length := by omega
  have he := h.ent _ (entAt_mem hkk)
  have ha := at4_lt (e := entAt x.g.ents k) ⟨he.2.2.1, he.2.2.2.1, he.2.2.2.2.1, he.2.2.2.2.2.1⟩
  unfold actV
  dsimp only
  split
  · split
    · exact h
    · rename_i hc
      have hc1 : inB ((entAt x.g.ents k).x + r.x) 0 3 = true := by
        cases hb : inB ((entAt x.g.ents k).x + r.x) 0 3 with
        | true => rfl
        | false => exact absurd (.inl hb) hc
      have hc2 : inB ((entAt x.g.ents k).y + r.y) 0 3 = true := by
        cases hb : inB ((entAt x.g.ents k).y + r.y) 0 3 with
        | true => rfl
        | false => exact absurd (.inr hb) hc
      have := inB_t.1 hc1
      have := inB_t.1 hc2
      exact good_set h hkk rfl (by simp only [entOf]; omega) h.floor h.nfloor rfl
  · rename_i h2
    split
    · split
      · exact h
      · rename_i hz
        have hm := intAt_mem (l := x.g.floor) (k := at4 (entAt x.g.ents k)) (by rw [h.nfloor]; exact ha.2)
        have hm0 := h.floor _ hm
        refine good_set h hkk rfl (by simp only [entOf]; omega) (fun n hn => ?_) (by simp [addAt, h.nfloor]) ?_
        · rcases mem_set hn with rfl | hn
          · omega
          · exact h.floor n hn
        · rw [sum_addAt (by rw [h.nfloor]; exact ha.2)]; dsimp only; omega
    · split
      · exact good_hit h (by rcases atF_spec x.g.ents r.x with ⟨h, _⟩ | ⟨i, h, hi, _⟩ <;> omega)
      · split
        · exact h
        · rename_i hc
          split
          · exact h
          · rename_i hg
            have hn0 : 0 ≤ atF x.g.ents r.x := by
              apply Classical.byContradiction; intro hh; exact hc (.inl (by omega))
            have hnk : atF x.g.ents r.x ≠ k := fun hh => hc (.inr (.inl hh))
            have hnn : (atF x.g.ents r.x).toNat < x.g.ents.length := by rcases atF_spec x.g.ents r.x with ⟨h, _⟩ | ⟨i, h, hi, _⟩ <;> omega
            have hen := h.ent _ (entAt_mem hnn)
            generalize atF x.g.ents r.x = n at *
            have hy := hy (by assumption)
            have hE : entAt (setEnt x.g.ents n { entAt x.g.ents n with gold := (entAt x.g.ents n).gold + r.y }) k = entAt x.g.ents k := by
              simp only [entAt, setEnt]
              rw [List.getElem?_set_ne (by omega)]
            have hsm := h.sum
            refine ⟨fun e hm => ?_, ?_, h.floor, h.last, h.nfloor, h.nlast, ?_⟩
            · rcases mem_set hm with rfl | hm
              · dsimp only; omega
              · rcases mem_set hm with rfl | hm
                · dsimp only; omega
                · exact h.ent e hm
            · show (List.map Ent.client (setEnt (setEnt _ _ _) _ _)).Pairwise _
              rw [clients_setEnt (by simp [setEnt]; exact hkk) (by rw [hE]), clients_setEnt (e := { entAt x.g.ents n with gold := (entAt x.g.ents n).gold + r.y }) hnn rfl]
              exact h.ord
            · show (List.map Ent.gold (setEnt (setEnt _ _ _) _ _)).sum + _ = 20
              rw [sum_setEnt (by simp [setEnt]; exact hkk), sum_setEnt hnn, hE]
              dsimp only
              omega

theorem take_len {α : Type} {A B l : List α} (h : A ++ B = l) : l.take A.length = A := by subst h; simp
theorem drop_len {α : Type} {A B l : List α} (h : A ++ B = l) : l.drop A.length = B := by subst h; simp
theorem good_join {g : Game} {c : Int} (h : Good g) (h0 : 1 ≤ c) (h1 : c ≤ 4) (hno : ∀ (j : Nat) e, g.ents[j]? = some e → e.client ≠ c) : Good ⟨joinF g.ents c, g.floor, g.last⟩ := by
  have hj : joinF g.ents c = g.ents.takeWhile (fun e => decide (e.client < c)) ++ [⟨c, c - 1, c - 1, 3, 0⟩] ++ g.ents.dropWhile (fun e => decide (e.client < c)) := by
    unfold joinF under
    have hp := List.takeWhile_append_dropWhile (p := fun e : Ent => decide (e.client < c)) (l := g.ents)
    have ht : g.ents.take (g.ents.takeWhile (fun e => decide (e.client < c))).length = g.ents.takeWhile (fun e => decide (e.client < c)) := by
      exact take_len hp
    have hd : g.ents.drop (g.ents.takeWhile (fun e => decide (e.client < c))).length = g.ents.dropWhile (fun e => decide (e.client < c)) := by
      exact drop_len hp
    rw [ht, hd]
  have hp := List.takeWhile_append_dropWhile (p := fun e : Ent => decide (e.client < c)) (l := g.ents)
  have hA : ∀ e ∈ g.ents.takeWhile (fun e => decide (e.client < c)), e.client < c := fun e he => by
    have := List.all_eq_true.1 (List.all_takeWhile (p := fun e : Ent => decide (e.client < c)) (l := g.ents)) e he
    simpa using this
  have hB : ∀ e ∈ g.ents.dropWhile (fun e => decide (e.client < c)), c < e.client := by
    have hpw := h.ord
    rw [← hp, List.map_append, List.pairwise_append] at hpw
    have hpw := hpw.2.1
    have hsub : ∀ e ∈ g.ents.dropWhile (fun e => decide (e.client < c)), e.client ≠ c := fun e he => by
      have : e ∈ g.ents := (List.dropWhile_sublist _).subset he
      obtain ⟨j, hj⟩ := List.mem_iff_getElem?.1 this
      exact hno j e hj
    cases hd : g.ents.dropWhile (fun e => decide (e.client < c)) with
    | nil => simp
    | cons a B =>
      have hhead : ¬ a.client < c := by
        have := List.head?_dropWhile_not (fun e : Ent => decide (e.client < c)) g.ents
        rw [hd] at this
        simpa using this
      rw [hd] at hpw hsub
      have ha := hsub a List.mem_cons_self
      intro e he
      rcases List.mem_cons.1 he with rfl | he
      · omega
      · have := (List.pairwise_cons.1 (by simpa using hpw : ((a.client :: B.map Ent.client).Pairwise (· < ·)))).1 e.client (List.mem_map.2 ⟨e, he, rfl⟩)
        omega
  have hs := h.sum
  have ho := h.ord
  have he := h.ent
  rw [← hp] at hs ho he
  rw [hj]
  generalize g.ents.takeWhile (fun e => decide (e.client < c)) = A at *
  generalize g.ents.dropWhile (fun e => decide (e.client < c)) = B at *
  refine ⟨fun e hm => ?_, ?_, h.floor, h.last, h.nfloor, h.nlast, ?_⟩
  · simp only [List.append_assoc, List.mem_append, List.mem_singleton] at hm
    rcases hm with hm | rfl | hm
    · exact he e (List.mem_append_left _ hm)
    · dsimp only; omega
    · exact he e (List.mem_append_right _ hm)
  · rw [List.map_append, List.pairwise_append] at ho
    obtain ⟨o1, o2, o3⟩ := ho
    simp only [List.map_append, List.map_cons, List.map_nil, List.append_assoc]
    rw [List.pairwise_append, List.pairwise_append]
    refine ⟨o1, ⟨List.pairwise_singleton _ _, o2, fun p hp q hq => ?_⟩, fun p hp q hq => ?_⟩
    · simp at hp; subst hp
      obtain ⟨e, he', rfl⟩ := List.mem_map.1 hq
      exact hB e he'
    · obtain ⟨e, he', rfl⟩ := List.mem_map.1 hp
      rcases List.mem_append.1 hq with hq | hq
      · simp at hq; subst hq; exact hA e he'
      · exact o3 _ (List.mem_map.2 ⟨e, he', rfl⟩) _ hq
  · simp only [List.map_append, List.sum_append, List.map_cons, List.map_nil, List.sum_cons, List.sum_nil] at hs ⊢
    omega

theorem good_do {x : GV} {r : Req} (h : Good x.g) (hr : ReqOk r) : Good (doV x r).1.g := by
  unfold doV
  split
  · exact h
  · rename_i hno
    have hr := hr.rest.resolve_left hno
    split
    · exact h
    · rename_i hn
      have hm := intAt_mem (l := x.g.last) (k := r.client - 1) (by rw [h.nlast]; omega)
      have := h.last _ hm
      have hy : Good ⟨x.g.ents, x.g.floor, x.g.last.set (r.client - 1).toNat r.num⟩ := ⟨h.ent, h.ord, h.floor, fun n hn => by
        rcases mem_set hn with rfl | hn
        · omega
        · exact h.last n hn, h.nfloor, by simp [h.nlast], h.sum⟩
      dsimp only
      split
      · split
        · exact hy
        · rename_i hat
          refine good_join hy hr.1 hr.2.1 ?_
          rcases atF_spec x.g.ents r.client with ⟨_, hh⟩ | ⟨i, hh, _⟩
          · exact hh
          · omega
      · split
        · exact hy
        · exact good_act hy (by omega) (by rcases atF_spec x.g.ents r.client with ⟨h, _⟩ | ⟨i, h, hi, _⟩ <;> (show atF x.g.ents r.client < x.g.ents.length; omega)) hr.2.2.2

theorem good_new : Good newG := by
  refine ⟨by simp [newG], by simp [newG], ?_, ?_, by simp [newG, newFl_len], by simp [newG], by decide⟩
  · decide
  · decide
end Go.Proofs.YtdfneaponidfgaaDoor
/- What the reference's fold of asks computes, and the asks that are drawn. -/
set_option linter.unusedVariables false
set_option maxRecDepth 10000
namespace Go.Proofs.YtdfneaponidfgaaDoor
open Go Eng

def foldV (list : List Req) : GV := list.foldl (fun x r => (doV x r).1) newV
theorem foldV_good {list : List Req} (h : ∀ r ∈ list, ReqOk r) : Good (foldV list).g := by
  have : ∀ (l : List Req) (x : GV), (∀ r ∈ l, ReqOk r) → Good x.g → Good (l.foldl (fun x r => (doV x r).1) x).g := by
    intro l
    induction l with
    | nil => intro x _ hx; exact hx
    | cons r l ih => intro x hl hx; exact ih _ (fun r hr => hl r (List.mem_cons_of_mem _ hr)) (good_do hx (hl r List.mem_cons_self))
  exact this list newV h good_new
theorem foldV_succ {list : List Req} {i : Nat} {r : Req} (h : list[i]? = some r) : foldV (list.take (i + 1)) = (doV (foldV (list.take i)) r).1 := by
  unfold foldV
  rw [List.take_add_one, h]
  simp

theorem fold_ok (f : Bool) (list : List Req) (h : ∀ r ∈ list, ReqOk r) : ACalls Tryd.prog G0 20 [.d (.slc f 5 (list.map encReq))] (· = (foldV list).v) := by
  refine spec_intro tabOk Tryd.func20 (by kernel_rfl) rfl ?_
  conv => whnf
  refine call_eq new_ok ?_
  conv => whnf
  let P : Nat → Prop := fun i => True
  let X : Nat → GV := fun i => foldV (list.take i)
  let I : Nat → SL := fun i => ⟨[(0, .d (.slc f 5 (list.map encReq))), (2, .ref 2 0 0 0), (3, .ref 3 0 0 0), (4, vi i)], [(2, .box [.d (.slc true 5 []), .d (.slc true 1 []), .d (.slc true 1 [])]), (3, .box [.d (dEnts (X i).a (X i).g.ents), .d (dInts (X i).b (X i).g.floor), .d (dInts (X i).c (X i).g.last)])]⟩
  refine loop_up list.length P I trivial ?_ ?_
  · refine ⟨?_, ?_, rfl⟩ <;> repeat' (first | exact weakSl_nil | exact weakHp_nil | refine weakSl_cons ?_ rfl ?_ | refine weakHp_cons ?_ rfl ?_)
    all_goals rfl
  intro i hi _
  conv => whnf
  intro hlen
  have hlen := le_map hlen
  refine ⟨fun hlt => ?_, fun hge => ?_⟩ <;> conv => whnf
  · have hlt := lt_map hlt
    refine (entsAt hlt).elim fun r hr => ?_
    refine ⟨by omega, encReq r, row_map hr, ?_⟩
    conv => whnf
    have hrm := h r (List.mem_of_getElem? hr)
    have hg : Good (X i).g := foldV_good fun r hr => h r (List.mem_of_mem_take hr)
    refine drawn_eq (do_ok (X i) r (good_fit hg) (good_life hg) hrm.into) ?_
    conv => whnf
    refine up_next hlt trivial ⟨weakSl_cons rfl rfl (weakSl_cons rfl rfl (weakSl_cons rfl rfl (weakSl_cons (wrap_succ (by omega)) rfl weakSl_nil))), weakHp_cons rfl rfl (weakHp_cons ?_ rfl weakHp_nil), rfl⟩
    have hx : X (i + 1) = (doV (X i) r).1 := foldV_succ hr
    exact congrArg (fun z : GV => Obj.box [.d (dEnts z.a z.g.ents), .d (dInts z.b z.g.floor), .d (dInts z.c z.g.last)]) hx.symm
  have hin := ge_map hge hi
  subst hin
  have hx : X list.length = foldV list := by show foldV (list.take list.length) = _; rw [List.take_length]
  exact congrArg GV.v hx

/-- A reader, wherever it has come to. -/
abbrev Rd (id : Nat) (full : Bool) (bs : List Int) (p : Int) : HP := [(id, .box (rdC full bs p))]

theorem req_ok (full : Bool) (bs : List Int) (hb : Bytes bs) (p : Int) (h0 : 0 ≤ p) (h1 : p ≤ 1099511627000) : HCalls Tryd.prog G0 41 (hpOf (Rd 1000 full bs p)) [.ref 1000 0 0 0]
    (fun r l => ∃ q p', r = vReq q ∧ l = Rd 1000 full bs p' ∧ (p ≤ p' ∧ p' ≤ p + 10) ∧ (1 ≤ q.client ∧ q.client ≤ 3 ∧ 1 ≤ q.num ∧ q.num ≤ 6 ∧ -1 ≤ q.x ∧ q.x ≤ 3 ∧ -1 ≤ q.y ∧ q.y ≤ 3 ∧ (q.op ≠ 2 → 0 ≤ q.y))) := by
  refine hspec tabOk Tryd.func41 (by kernel_rfl) false [] [28] rfl ?_
  conv => whnf
  refine hcall_box (pick_ok full bs hb p _ h0 (by omega) 1000) rfl rfl rfl ⟨⟨trivial, trivial⟩, ?_⟩
  conv => whnf
  refine hcall_box (pick_ok full bs hb _ _ (by omega) (by omega) 1000) rfl rfl rfl ⟨⟨trivial, trivial⟩, ?_⟩
  conv => whnf
  refine hcall_box (pick_ok full bs hb _ _ (by omega) (by omega) 1000) rfl rfl rfl ⟨⟨trivial, trivial⟩, ?_⟩
  conv => whnf
  have k1 := pick_range (n := 3) hb h0 (by omega)
  have k2 := pick_range (n := 6) hb (p := p + 1) (by omega) (by omega)
  have k3 := pick_range (n := 5) hb (p := p + 1 + 1) (by omega) (by omega)
  have wr : ∀ (z : Int) (n : Int), 0 ≤ z ∧ (1 ≤ n → z < n) → 1 ≤ n → n ≤ 10 → 1 ≤ IntKind.i64.wrap (1 + z) ∧ IntKind.i64.wrap (1 + z) ≤ n := fun z n h h1 h2 => by
    have := h.2 h1
    rw [wrap_id (by omega) (by omega)]; omega
  have ws : ∀ (z : Int) (n : Int), 0 ≤ z ∧ (1 ≤ n → z < n) → 1 ≤ n → n ≤ 10 → -1 ≤ IntKind.i64.wrap (z - 1) ∧ IntKind.i64.wrap (z - 1) ≤ n - 2 := fun z n h h1 h2 => by
    have := h.2 h1
    rw [wrap_id (by omega) (by omega)]; omega
  have b1 := wr _ 3 k1 (by omega) (by omega)
  have b2 := wr _ 6 k2 (by omega) (by omega)
  have fin : ∀ (s : St) (c n o x y p' : Int), (1 ≤ c ∧ c ≤ 3 ∧ 1 ≤ n ∧ n ≤ 6 ∧ -1 ≤ x ∧ x ≤ 3 ∧ -1 ≤ y ∧ y ≤ 3 ∧ (o ≠ 2 → 0 ≤ y)) → (p ≤ p' ∧ p' ≤ p + 10) → s.hp 1000 = .box (rdC full bs p') →
      ∃ l, HRest s [1000] l ∧ ∃ q p', V.agg [vi c, vi n, vi o, vi x, vi y] = vReq q ∧ l = Rd 1000 full bs p' ∧ (p ≤ p' ∧ p' ≤ p + 10) ∧ (1 ≤ q.client ∧ q.client ≤ 3 ∧ 1 ≤ q.num ∧ q.num ≤ 6 ∧ -1 ≤ q.x ∧ q.x ≤ 3 ∧ -1 ≤ q.y ∧ q.y ≤ 3 ∧ (q.op ≠ 2 → 0 ≤ q.y)) := fun s c n o x y p' hv hp hs =>
    ⟨Rd 1000 full bs p', ⟨weakHp_cons hs rfl weakHp_nil, rfl, rfl⟩, ⟨c, n, o, x, y⟩, p', rfl, rfl, hp, hv⟩
  refine ⟨fun h2 => ?_, fun h2 => ?_⟩ <;> conv => whnf
  · refine hcall_box (pick_ok full bs hb _ _ (by omega) (by omega) 1000) rfl rfl rfl ⟨⟨trivial, trivial⟩, ?_⟩
    conv => whnf
    refine hcall_box (pick_ok full bs hb _ _ (by omega) (by omega) 1000) rfl rfl rfl ⟨⟨trivial, trivial⟩, ?_⟩
    conv => whnf
    have b4 := ws _ 3 (pick_range (n := 3) hb (p := p + 1 + 1 + 1) (by omega) (by omega)) (by omega) (by omega)
    have b5 := ws _ 3 (pick_range (n := 3) hb (p := p + 1 + 1 + 1 + 1) (by omega) (by omega)) (by omega) (by omega)
    exact fin _ _ _ _ _ _ (p + 1 + 1 + 1 + 1 + 1) (by omega) (by omega) rfl
  refine ⟨fun h4 => ?_, fun h4 => ?_⟩ <;> conv => whnf
  · refine hcall_box (pick_ok full bs hb _ _ (by omega) (by omega) 1000) rfl rfl rfl ⟨⟨trivial, trivial⟩, ?_⟩
    conv => whnf
    have b4 := wr _ 3 (pick_range (n := 3) hb (p := p + 1 + 1 + 1) (by omega) (by omega)) (by omega) (by omega)
    exact fin _ _ _ _ _ 0 (p + 1 + 1 + 1 + 1) (by omega) (by omega) rfl
  refine ⟨fun h5 => ?_, fun h5 => ?_⟩ <;> conv => whnf
  · refine hcall_box (pick_ok full bs hb _ _ (by omega) (by omega) 1000) rfl rfl rfl ⟨⟨trivial, trivial⟩, ?_⟩
    conv => whnf
    refine hcall_box (pick_ok full bs hb _ _ (by omega) (by omega) 1000) rfl rfl rfl ⟨⟨trivial, trivial⟩, ?_⟩
    conv => whnf
    have b4 := wr _ 3 (pick_range (n := 3) hb (p := p + 1 + 1 + 1) (by omega) (by omega)) (by omega) (by omega)
    have b5 := wr _ 3 (pick_range (n := 3) hb (p := p + 1 + 1 + 1 + 1) (by omega) (by omega)) (by omega) (by omega)
    exact fin _ _ _ _ _ _ (p + 1 + 1 + 1 + 1 + 1) (by omega) (by omega) rfl
  · exact fin _ _ _ _ 0 0 (p + 1 + 1 + 1) (by omega) (by omega) rfl
end Go.Proofs.YtdfneaponidfgaaDoor
