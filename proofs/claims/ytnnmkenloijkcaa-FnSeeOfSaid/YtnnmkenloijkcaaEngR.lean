/- The engine, part R: what an operation reads and writes. -/
import Derived.Test.YtnnmkenloijkcaaEngQ
set_option linter.unusedVariables false
set_option linter.unusedSimpArgs false
namespace Go.Proofs.Ytnnmkenloijkcaa.Eng
open Go

variable {T : Tab} {G : Nat → V} {C : Ctr} {o : Oper} {s t : St}

mutual
def WFv (hp : Nat → Obj) : V → Prop
  | .undef => True
  | .d _ => True
  | .ref id _ _ _ => (hp id).used = true
  | .own id => (hp id).used = true
  | .osl tok _ _ => (hp tok).used = true
  | .agg cs => WFvs hp cs
  | .tup cs => WFvs hp cs
  | .clo _ cs => WFvs hp cs
def WFvs (hp : Nat → Obj) : List V → Prop
  | [] => True
  | c :: cs => WFv hp c ∧ WFvs hp cs
end
theorem WFvs_mem {hp : Nat → Obj} : ∀ {cs : List V}, WFvs hp cs ↔ ∀ c ∈ cs, WFv hp c
  | [] => by simp [WFvs]
  | c :: cs => by simp [WFvs, WFvs_mem (cs := cs)]
structure WF (G : Nat → V) (s : St) : Prop where
  sl : ∀ i, WFv s.hp (s.sl i)
  hp : ∀ i cells, s.hp i = .box cells → WFvs s.hp cells
  gl : ∀ k, WFv s.hp (G k)

mutual
theorem WFv.mono {hp hp' : Nat → Obj} (h : ∀ i, (hp i).used = true → (hp' i).used = true) : ∀ (v : V), WFv hp v → WFv hp' v
  | .undef, _ => trivial
  | .d _, _ => trivial
  | .ref .., w => by simp only [WFv] at w ⊢; exact h _ w
  | .own _, w => by simp only [WFv] at w ⊢; exact h _ w
  | .osl .., w => by simp only [WFv] at w ⊢; exact h _ w
  | .agg cs, w => by simp only [WFv] at w ⊢; exact WFvs.mono h cs w
  | .tup cs, w => by simp only [WFv] at w ⊢; exact WFvs.mono h cs w
  | .clo _ cs, w => by simp only [WFv] at w ⊢; exact WFvs.mono h cs w
theorem WFvs.mono {hp hp' : Nat → Obj} (h : ∀ i, (hp i).used = true → (hp' i).used = true) : ∀ (vs : List V), WFvs hp vs → WFvs hp' vs
  | [], _ => trivial
  | c :: cs, w => by simp only [WFvs] at w ⊢; exact ⟨WFv.mono h c w.1, WFvs.mono h cs w.2⟩
end

theorem WFv_cv (hp : Nat → Obj) (v : Value) : WFv hp (cv v) := by unfold cv; split <;> simp [WFv]
theorem WF.ev (h : WF G s) (x : Operand) : WFv s.hp (ev G s x) := by
  cases x with
  | tmp t => exact h.sl t
  | const v => exact WFv_cv _ v
  | global k => exact h.gl k
  | func f => simp [Eng.ev, WFv]

mutual
theorem plain_wf (hp : Nat → Obj) : ∀ (v : V), v.plain = true → WFv hp v
  | .undef, h => by simp [V.plain] at h
  | .d _, _ => trivial
  | .ref .., h => by simp [V.plain] at h
  | .own _, h => by simp [V.plain] at h
  | .osl .., h => by simp [V.plain] at h
  | .agg cs, h => by simp only [V.plain] at h; simp only [WFv]; exact plains_wf hp cs h
  | .tup cs, h => by simp only [V.plain] at h; simp only [WFv]; exact plains_wf hp cs h
  | .clo .., h => by simp [V.plain] at h
theorem plains_wf (hp : Nat → Obj) : ∀ (vs : List V), plains vs = true → WFvs hp vs
  | [], _ => trivial
  | c :: cs, h => by
    unfold plains at h
    split at h
    · rename_i hc; simp only [WFvs]; exact ⟨plain_wf hp c hc, plains_wf hp cs h⟩
    · simp at h
end
mutual
theorem scalar_plain : ∀ (v : V), v.scalar = true → v.plain = true
  | .undef, h => by simp [V.scalar] at h
  | .d _, _ => rfl
  | .ref .., h => by simp [V.scalar] at h
  | .own _, h => by simp [V.scalar] at h
  | .osl .., h => by simp [V.scalar] at h
  | .agg cs, h => by simp only [V.scalar] at h; simp only [V.plain]; exact scalars_plain cs h
  | .tup cs, h => by simp only [V.scalar] at h; simp only [V.plain]; exact scalars_plain cs h
  | .clo .., h => by simp [V.scalar] at h
theorem scalars_plain : ∀ (vs : List V), scalars vs = true → plains vs = true
  | [], _ => rfl
  | c :: cs, h => by
    unfold scalars at h
    split at h
    · rename_i hc; unfold plains; rw [scalar_plain c hc]; exact scalars_plain cs h
    · simp at h
end

/-- What is written. -/
structure Delta where
  dst : Option Nat
  v : V
  h : Option (Nat × Obj)
def Delta.app (δ : Delta) (s : St) : St :=
  ⟨match δ.dst with | some d => upd s.sl d δ.v | none => s.sl, match δ.h with | some (i, ob) => upd s.hp i ob | none => s.hp⟩

/-- Two states that an operation can't tell apart. -/
structure Agree (G : Nat → V) (o : Oper) (s t : St) : Prop where
  ev : ∀ x, x ∈ o.op.operands.toList → Eng.ev G t x = Eng.ev G s x
  hp : heedless o.op = false → ∀ x, x ∈ o.op.operands.toList → ∀ id, id ∈ idsT s.hp (Eng.ev G s x) → t.hp id = s.hp id
  fresh : ∀ d, o.dst = some d → s.hp d = .none → t.hp d = .none

theorem leaf0_agree {hp hp' : Nat → Obj} {v : V} (h : ∀ id, id ∈ ids0 v → hp' id = hp id) : leaf0 hp' v = leaf0 hp v := by
  cases v <;> simp only [leaf0]
  rw [h _ (by simp [ids0])]
theorem leafs_agree {f f' : V → Option D} : ∀ {cs : List V}, (∀ c, c ∈ cs → f' c = f c) → leafs f' cs = leafs f cs
  | [], _ => rfl
  | c :: cs, h => by
    simp only [leafs]
    rw [h c List.mem_cons_self, leafs_agree (fun c hc => h c (List.mem_cons_of_mem _ hc))]
theorem leaf1_agree {hp hp' : Nat → Obj} {v : V} (h : ∀ id, id ∈ ids1 hp v → hp' id = hp id) : leaf1 hp' v = leaf1 hp v ∧ ids1 hp' v = ids1 hp v := by
  cases v with
  | ref id r e off =>
    have h1 := h id (by simp [ids1])
    refine ⟨?_, by simp only [ids1, h1]⟩
    cases r with
    | zero =>
      cases e with
      | zero =>
        simp only [leaf1, h1]
        cases hh : hp id with
        | box cells =>
          simp only
          rw [leafs_agree (fun c hc => leaf0_agree (fun id' hid' => h id' (by
            simp only [ids1, hh, List.mem_cons, List.mem_flatMap]
            exact .inr ⟨c, hc, hid'⟩)))]
        | _ => rfl
      | succ e => simp [leaf1, leaf0]
    | succ r => simp [leaf1, leaf0]
  | undef => exact ⟨rfl, rfl⟩
  | d x => exact ⟨rfl, rfl⟩
  | own i => exact ⟨leaf0_agree (v := .own i) h, rfl⟩
  | osl t e rows => exact ⟨rfl, rfl⟩
  | agg cs => exact ⟨rfl, rfl⟩
  | tup cs => exact ⟨rfl, rfl⟩
  | clo f cs => exact ⟨rfl, rfl⟩
theorem pureV_agree {hp hp' : Nat → Obj} {v : V} (h : ∀ id, id ∈ idsV hp v → hp' id = hp id) : pureV hp' v = pureV hp v ∧ idsV hp' v = idsV hp v := by
  cases v with
  | agg cs =>
    refine ⟨?_, rfl⟩
    simp only [pureV]
    rw [leafs_agree (fun c hc => leaf0_agree (fun id hid => h id (by simp only [idsV, List.mem_flatMap]; exact ⟨c, hc, hid⟩)))]
  | tup cs => exact ⟨rfl, rfl⟩
  | clo f caps =>
    have hc : ∀ c, c ∈ caps → leaf1 hp' c = leaf1 hp c ∧ ids1 hp' c = ids1 hp c := fun c hc => leaf1_agree (fun id hid => h id (by simp only [idsV, List.mem_flatMap]; exact ⟨c, hc, hid⟩))
    refine ⟨?_, ?_⟩
    · simp only [pureV, leaf2]
      rw [leafs_agree (fun c hcm => (hc c hcm).1)]
    · simp only [idsV]
      have : ∀ (l : List V), (∀ c, c ∈ l → ids1 hp' c = ids1 hp c) → l.flatMap (ids1 hp') = l.flatMap (ids1 hp) := by
        intro l
        induction l with
        | nil => intro _; rfl
        | cons c l ih => intro hl; simp only [List.flatMap_cons]; rw [hl c List.mem_cons_self, ih (fun c hc => hl c (List.mem_cons_of_mem _ hc))]
      exact this caps (fun c hcm => (hc c hcm).2)
  | undef => exact ⟨rfl, rfl⟩
  | d x => exact ⟨rfl, rfl⟩
  | osl t e rows => exact ⟨rfl, rfl⟩
  | own i =>
    have := leaf1_agree (v := .own i) (hp := hp) (hp' := hp') h
    refine ⟨?_, this.2⟩
    simp only [pureV, leaf2]
    rw [this.1]
  | ref i r e off =>
    have := leaf1_agree (v := .ref i r e off) (hp := hp) (hp' := hp') h
    refine ⟨?_, this.2⟩
    simp only [pureV, leaf2]
    rw [this.1]
theorem pureVs_agree {hp hp' : Nat → Obj} : ∀ {vs : List V}, (∀ v, v ∈ vs → ∀ id, id ∈ idsV hp v → hp' id = hp id) → pureVs hp' vs = pureVs hp vs ∧ vs.flatMap (idsV hp') = vs.flatMap (idsV hp)
  | [], _ => ⟨rfl, rfl⟩
  | v :: vs, h => by
    have h1 := pureV_agree (h v List.mem_cons_self)
    have h2 := pureVs_agree (fun v hv => h v (List.mem_cons_of_mem _ hv))
    simp only [pureVs, List.flatMap_cons]
    rw [h1.1, h1.2, h2.1, h2.2]
    exact ⟨rfl, rfl⟩
theorem rowsOf_agree {hp hp' : Nat → Obj} {v : V} (h : ∀ id, id ∈ idsV hp v → hp' id = hp id) : rowsOf hp' v = rowsOf hp v := by
  cases v with
  | d x => cases x <;> rfl
  | own i =>
    simp only [rowsOf]
    rw [h _ (by simp [idsV, ids1, ids0])]
  | _ => rfl

/-- What a told operation writes, wherever it is done. -/
structure Local (T : Tab) (G : Nat → V) (C : Ctr) (o : Oper) (s : St) (K : St → Prop) (δ : Delta) : Prop where
  dst : δ.dst = o.dst
  k : K (δ.app s)
  wf : WF G (δ.app s)
  h : ∀ i ob, δ.h = some (i, ob) → ob.used = true ∧ ((True ∧ o.dst = some i ∧ s.hp i = .none) ∨ (isW C.kind o.op = true ∧ ∃ x, x ∈ o.op.operands.toList ∧ i ∈ idsT s.hp (ev G s x)))
  again : ∀ t, Agree G o s t → ∀ K' : St → Prop, K' (δ.app t) → aOp T G C true o t K'

theorem wf_put (hwf : WF G s) {v : V} (hv : WFv s.hp v) (dst : Option Nat) : WF G (Delta.app ⟨dst, v, none⟩ s) := by
  refine ⟨fun i => ?_, hwf.hp, hwf.gl⟩
  cases dst with
  | none => exact hwf.sl i
  | some d =>
    simp only [Delta.app, upd_eq]
    split
    · exact hv
    · exact hwf.sl i

theorem app_put (dst : Option Nat) (v : V) (s : St) : Delta.app ⟨dst, v, none⟩ s = s.app dst v := by cases dst <;> rfl

theorem put_local {K : St → Prop} (hwf : WF G s) {v : V} (hv : WFv s.hp v) (hk : putK s o.dst v K) (hre : ∀ t, Agree G o s t → ∀ K' : St → Prop, putK t o.dst v K' → aOp T G C true o t K') :
    ∃ δ, Local T G C o s K δ := by
  rw [putK_eq] at hk
  refine ⟨⟨o.dst, v, none⟩, rfl, by rw [app_put]; exact hk, wf_put hwf hv _, by simp, fun t hA K' hK' => hre t hA K' ?_⟩
  rw [putK_eq, ← app_put]; exact hK'

theorem new_local {K : St → Prop} (hwf : WF G s) {d : Nat} {v : V} {ob : Obj} (hdst : o.dst = some d) (hst : True ∨ isW C.kind o.op = false) (hnone : s.hp d = .none) (hu : ob.used = true)
    (hv : WFv (upd s.hp d ob) v) (hob : ∀ cells, ob = .box cells → WFvs s.hp cells) (hk : K ⟨upd s.sl d v, upd s.hp d ob⟩)
    (hre : ∀ t, Agree G o s t → t.hp d = .none → ∀ K' : St → Prop, K' ⟨upd t.sl d v, upd t.hp d ob⟩ → aOp T G C true o t K') : ∃ δ, Local T G C o s K δ := by
  have hm : ∀ i, (s.hp i).used = true → (upd s.hp d ob i).used = true := fun i hi => by
    rw [upd_eq]; split
    · exact hu
    · exact hi
  refine ⟨⟨some d, v, some (d, ob)⟩, hdst.symm, hk, ⟨fun i => ?_, fun i cells hi => ?_, fun k => WFv.mono hm _ (hwf.gl k)⟩, fun i ob' hi => ?_, fun t hA K' hK' => hre t hA (hA.fresh d hdst hnone) K' hK'⟩
  · simp only [Delta.app, upd_eq]
    split
    · exact hv
    · exact WFv.mono hm _ (hwf.sl i)
  · simp only [Delta.app, upd_eq] at hi
    split at hi
    · exact WFvs.mono hm _ (hob cells hi)
    · exact WFvs.mono hm _ (hwf.hp i cells hi)
  · simp only [Option.some.injEq, Prod.mk.injEq] at hi
    obtain ⟨rfl, rfl⟩ := hi
    exact ⟨hu, .inl ⟨trivial, hdst, hnone⟩⟩

theorem wf_ds (hp : Nat → Obj) : ∀ (l : List D), WFvs hp (l.map .d)
  | [] => trivial
  | x :: l => by simp only [List.map_cons, WFvs]; exact ⟨trivial, wf_ds hp l⟩
theorem wf_mkV {hp : Nat → Obj} {agg : Bool} {cs : List V} (h : WFvs hp cs) : WFv hp (mkV agg cs) := by
  cases agg with
  | true => exact h
  | false => cases cs with
    | nil => trivial
    | cons c cs => exact h.1
theorem wf_sub {hp : Nat → Obj} {cs cs' : List V} (h : WFvs hp cs) (hs : ∀ c, c ∈ cs' → c ∈ cs) : WFvs hp cs' := WFvs_mem.2 fun c hc => WFvs_mem.1 h c (hs c hc)
theorem wf_cells {hp : Nat → Obj} {v : V} (h : WFv hp v) : WFvs hp v.cells := by
  cases v with
  | agg cs => exact h
  | _ => exact ⟨h, trivial⟩
theorem wf_setCells {hp : Nat → Obj} : ∀ {xs cs : List V} (off : Nat), WFvs hp cs → WFvs hp xs → WFvs hp (setCells cs off xs)
  | [], cs, off, h, _ => h
  | x :: xs, cs, off, h, hx => by
    simp only [setCells]
    refine wf_setCells (off + 1) (WFvs_mem.2 fun c hc => ?_) hx.2
    rcases List.mem_or_eq_of_mem_set hc with hc | rfl
    · exact WFvs_mem.1 h c hc
    · exact hx.1
theorem wf_evs (hwf : WF G s) (xs : List Operand) : WFvs s.hp (xs.map (ev G s)) := WFvs_mem.2 fun c hc => by
  obtain ⟨x, _, rfl⟩ := List.mem_map.1 hc
  exact hwf.ev x
theorem wf_fill {hp : Nat → Obj} : ∀ {ps : List (Nat × V)} {flds : List (Nat × Nat)} {zero cs : List V}, WFvs hp zero → (∀ p, p ∈ ps → WFv hp p.2) → fillFlds flds zero ps = some cs → WFvs hp cs
  | [], flds, zero, cs, hz, _, hf => by simp only [fillFlds, Option.some.injEq] at hf; subst hf; exact hz
  | (i, v) :: ps, flds, zero, cs, hz, hp', hf => by
    have h1 : v ≠ .undef := by rintro rfl; simp [fillFlds] at hf
    have h2 : ∀ vs, v ≠ .tup vs := by rintro vs rfl; simp [fillFlds] at hf
    rw [fillFlds_cons _ _ _ _ _ h1 h2] at hf
    split at hf
    · split at hf
      · exact wf_fill (wf_setCells _ hz (wf_cells (hp' _ List.mem_cons_self))) (fun p hp => hp' p (List.mem_cons_of_mem _ hp)) hf
      · simp at hf
    · simp at hf

theorem aP_local {p : Prop} {K : V → Prop} (h : aP p K) : ∃ x', K (.d x') ∧ ∀ K' : V → Prop, K' (.d x') → aP p K' := by
  classical
  exact ⟨_, aP_iff.1 h, fun K' hK' => aP_iff.2 hK'⟩
theorem aB_local {b : Bool} {K : V → Prop} (h : aB b K) : ∃ x', K (.d x') ∧ ∀ K' : V → Prop, K' (.d x') → aB b K' := ⟨_, aB_iff.1 h, fun K' hK' => aB_iff.2 hK'⟩
theorem binV_local {cmp bl : Bool} {z : List D} {op : BinOp} {x y : V} {K : V → Prop} (h : binV cmp bl z op x y K) : ∃ x', K (.d x') ∧ ∀ K' : V → Prop, K' (.d x') → binV cmp bl z op x y K' := by
  unfold binV at h ⊢
  split at h
  · split at h
    · exact ⟨_, h.2, fun K' hK' => ⟨h.1, hK'⟩⟩
    · exact ⟨_, h.2, fun K' hK' => ⟨h.1, hK'⟩⟩
    · split at h
      · unfold intOp at h ⊢
        split at h <;> first
          | exact h.elim
          | exact aP_local h
          | exact ⟨_, h.2, fun K' hK' => ⟨h.1, hK'⟩⟩
          | exact ⟨_, h, fun K' hK' => hK'⟩
      · exact h.elim
  · split at h
    · exact ⟨_, h, fun K' hK' => hK'⟩
    · exact ⟨_, h, fun K' hK' => hK'⟩
    · exact h.elim
  · split at h
    · exact ⟨_, h.2, fun K' hK' => ⟨h.1, hK'⟩⟩
    · exact aB_local h
    · exact aB_local h
    · exact h.elim
  · split at h
    · exact aB_local h
    · exact aB_local h
    · exact h.elim
  · exact h.elim

end Go.Proofs.Ytnnmkenloijkcaa.Eng
