/- The engine, part I: new objects, and objects written. -/
import Derived.Test.YtnnmkenloijkcaaEngH
set_option linter.unusedVariables false
set_option linter.unusedSimpArgs false
namespace Go.Proofs.Ytnnmkenloijkcaa.Eng
open Go

variable {E : Env} {s : St} {a : Act} {w : World} {g : Gh} {T : Tab} {C : Ctr} {q : Bool} {o : Oper} {K : St → Prop}

theorem Obj.live_used {o : Obj} (h : o.live = true) : o.used = true := by cases o <;> simp_all [Obj.live, Obj.used]

theorem ObjRep.lt {hp : Nat → Obj} {id : Nat} {o : Obj} {b : Nat} (hl : o.live = true) (h : ObjRep w g hp id o) (hb : g.blk id = some b) : b < w.heap.size := by
  have key : ∀ {x : Go.Obj}, w.heap[b]? = some x → b < w.heap.size := fun hx => by
    rcases Nat.lt_or_ge b w.heap.size with h' | h'
    · exact h'
    · simp [Array.getElem?_eq_none h'] at hx
  cases o with
  | none => simp [Obj.live] at hl
  | dead => simp [Obj.live] at hl
  | box cells =>
    obtain ⟨b', us, e, h1, h2, _⟩ := h
    rw [hb] at h1; injection h1 with h1; subst h1; exact key h2
  | arr full esz rows =>
    obtain ⟨A, c, _, _, _, _, _, _, h7⟩ := h
    obtain ⟨_, _, us, e, h2, _⟩ := h7 b hb
    exact key h2
  | grow esz n =>
    obtain ⟨A, c, _, _, _, _, h7⟩ := h
    obtain ⟨_, _, us, e, h2, _⟩ := h7 b hb
    exact key h2

theorem ObjRep.ext {w' : World} {g' : Gh} {hp hp' : Nat → Obj} (e : GExt w g hp w' g' hp') {id : Nat} {o : Obj} (hl : o.live = true) (hb : g'.blk id = g.blk id) (hv : g'.val id = g.val id)
    (hheap : ∀ b, g.blk id = some b → w'.heap[b]? = w.heap[b]?) (himm : ∀ b, g.blk id = some b → ∀ x, g'.imm b x → g.imm b x) (h : ObjRep w g hp id o) : ObjRep w' g' hp' id o := by
  cases o with
  | none => simp [Obj.live] at hl
  | dead => simp [Obj.live] at hl
  | box cells =>
    obtain ⟨b, us, t, h1, h2, h3, h4⟩ := h
    exact ⟨b, us, t, hb.trans h1, (hheap b h1).trans h2, RepVs.ext e _ _ h3, fun x hx => h4 x (himm b h1 x hx)⟩
  | arr full esz rows =>
    obtain ⟨A, c, h1, h2, h3, h4, h5, h6, h7⟩ := h
    refine ⟨A, c, hv.trans h1, h2, h3, h4, h5, fun hn => h6 (by rw [← hb]; exact hn), fun b hbb => ?_⟩
    rw [hb] at hbb
    obtain ⟨h8, h9, us, t, h10, h11⟩ := h7 b hbb
    refine ⟨h8, fun x hx => h9 x (himm b hbb x hx), us, t, (hheap b hbb).trans h10, fun i r hi j x hj => ?_⟩
    obtain ⟨u, h12, h13⟩ := h11 i r hi j x hj
    exact ⟨u, h12, h13.ext e.ext⟩
  | grow esz n =>
    obtain ⟨A, c, h1, h2, h3, h4, h5⟩ := h
    refine ⟨A, c, hv.trans h1, h2, h3, fun hn => h4 (by rw [← hb]; exact hn), fun b hbb => ?_⟩
    rw [hb] at hbb
    obtain ⟨h8, h9, us, t, h10, h11⟩ := h5 b hbb
    exact ⟨h8, fun x hx hi => h9 x hx (himm b hbb x hi), us, t, (hheap b hbb).trans h10, h11⟩

theorem cell_heap {w w' : World} {b : Nat} (h : w'.heap[b]? = w.heap[b]?) (o : Nat) : w'.cell? ⟨b, o, none⟩ = w.cell? ⟨b, o, none⟩ := by
  unfold World.cell?; simp [h]

/-- A new object. -/
theorem rel_fresh (h : Rel E s a w g) {d : Nat} (hnone : s.hp d = .none) {ob : Obj} (hl : ob.live = true) {w' : World} {g' : Gh}
    (hsz : w.heap.size ≤ w'.heap.size) (hheap : ∀ b, b < w.heap.size → w'.heap[b]? = w.heap[b]?)
    (himm1 : ∀ b o, g.imm b o → g'.imm b o) (himm2 : ∀ b o, g'.imm b o → g.imm b o ∨ w.heap.size ≤ b) (himm3 : ∀ b o, g'.imm b o → b < w'.heap.size)
    (hblk : ∀ i, i ≠ d → g'.blk i = g.blk i) (hval : ∀ i, i ≠ d → g'.val i = g.val i) (hnew : ∀ b, g'.blk d = some b → w.heap.size ≤ b)
    (hob : GExt w g s.hp w' g' (upd s.hp d ob) → ObjRep w' g' (upd s.hp d ob) d ob) (hio : SameIO w w' := by exact ⟨rfl, rfl⟩) : Rel E ⟨s.sl, upd s.hp d ob⟩ a w' g' ∧ GExt w g s.hp w' g' (upd s.hp d ob) := by
  have hne : ∀ i, (s.hp i).used = true → i ≠ d := by
    rintro i hu rfl
    rw [hnone] at hu; simp [Obj.used] at hu
  have e : GExt w g s.hp w' g' (upd s.hp d ob) := by
    refine ⟨⟨himm1, fun b o hi => cell_heap (hheap b (h.bound b o hi)) o⟩, fun i hu => ?_, fun i hu _ => hblk i (hne i hu), fun i hu _ => hval i (hne i hu), fun i hu hg => ?_, fun i ee n hu hg => ?_⟩
    · rw [upd_ne _ _ (hne i hu)]; exact hu
    · rw [upd_ne _ _ (hne i hu)]; exact hg
    · rw [upd_ne _ _ (hne i hu)] at hg
      exact ⟨n, hg, Nat.le_refl _, fun _ => hval i (hne i hu)⟩
  have hlt : ∀ i b, (s.hp i).live = true → g.blk i = some b → b < w.heap.size := fun i b hi hb => (h.objs i).lt hi hb
  refine ⟨⟨fun t => RepV.ext e _ _ (h.slots t), fun i => ?_, fun i j b hij hi hj hb hb' => ?_, fun b o hi => himm3 b o hi, fun k => RepP.ext e.ext (h.globs k), fun i b hi hb => ?_, fun b hb hn => ?_, ?_, h.start.trans e.ext, fun b o hi hb => ?_, h.nt, h.defers, h.old.trans e, h.io.trans hio⟩, e⟩
  · by_cases hid : i = d
    · subst hid; simp only [upd_same]; exact hob e
    · simp only [upd_ne _ _ hid]
      cases hlive : (s.hp i).live with
      | true =>
        refine ObjRep.ext e hlive (hblk i hid) (hval i hid) (fun b hb => hheap b (hlt i b hlive hb)) (fun b hb x hx => ?_) (h.objs i)
        rcases himm2 b x hx with h' | h'
        · exact h'
        · have := hlt i b hlive hb; omega
      | false =>
        cases hh : s.hp i <;> simp_all [Obj.live, ObjRep]
  · simp only [upd_eq] at hi hj
    by_cases h1 : i = d
    · subst h1
      have := hnew b hb
      rw [if_neg (fun e => hij e.symm)] at hj
      rw [hblk j (fun e => hij e.symm)] at hb'
      have := hlt j b hj hb'; omega
    · rw [if_neg h1] at hi
      rw [hblk i h1] at hb
      by_cases h2 : j = d
      · subst h2
        have := hnew b hb'
        have := hlt i b hi hb; omega
      · rw [if_neg h2] at hj
        rw [hblk j h2] at hb'
        exact h.dist i j b hij hi hj hb hb'
  · simp only [upd_eq] at hi
    by_cases h1 : i = d
    · subst h1; exact .inl (Nat.le_trans h.size (hnew b hb))
    · rw [if_neg h1] at hi; rw [hblk i h1] at hb; exact h.low i b hi hb
  · have := h.size
    rw [hheap b (by omega)]; exact h.frame b hb hn
  · exact Nat.le_trans h.size hsz
  · rcases himm2 b o hi with h' | h'
    · exact h.fresh b o h' hb
    · have := h.size; omega

/-- An object is written. -/
theorem rel_write (h : Rel E s a w g) {id b : Nat} {ob : Obj} (hlive : (s.hp id).live = true) (hl : ob.live = true) (hng : ∀ e n, ob ≠ .grow e n) (hb : g.blk id = some b) {w' : World}
    (hsz : w'.heap.size = w.heap.size) (hheap : ∀ b', b' ≠ b → w'.heap[b']? = w.heap[b']?) (hnoimm : ∀ o, ¬ g.imm b o)
    (hob : GExt w g s.hp w' g (upd s.hp id ob) → ObjRep w' g (upd s.hp id ob) id ob) (hio : SameIO w w' := by exact ⟨rfl, rfl⟩) : Rel E ⟨s.sl, upd s.hp id ob⟩ a w' g := by
  have hib : ∀ b' o, g.imm b' o → b' ≠ b := by rintro b' o hi rfl; exact hnoimm o hi
  have e : GExt w g s.hp w' g (upd s.hp id ob) := by
    refine ⟨⟨fun _ _ h => h, fun b' o hi => cell_heap (hheap b' (hib b' o hi)) o⟩, fun i hu => ?_, fun _ _ _ => rfl, fun _ _ _ => rfl, fun i hu hg => ?_, fun i ee n hu hg => ?_⟩
    · by_cases h1 : i = id
      · subst h1; rw [upd_same]; exact Obj.live_used hl
      · rw [upd_ne _ _ h1]; exact hu
    · by_cases h1 : i = id
      · subst h1; rw [upd_same]; exact hng
      · rw [upd_ne _ _ h1]; exact hg
    · by_cases h1 : i = id
      · subst h1; rw [upd_same] at hg; exact absurd hg (hng _ _)
      · rw [upd_ne _ _ h1] at hg; exact ⟨n, hg, Nat.le_refl _, fun _ => rfl⟩
  have hlv : ∀ i, (upd s.hp id ob i).live = true → (s.hp i).live = true := fun i hi => by
    by_cases h1 : i = id
    · subst h1; exact hlive
    · rwa [upd_ne _ _ h1] at hi
  refine ⟨fun t => RepV.ext e _ _ (h.slots t), fun i => ?_, fun i j b' hij hi hj => h.dist i j b' hij (hlv i hi) (hlv j hj), fun b' o hi => by rw [hsz]; exact h.bound b' o hi, fun k => RepP.ext e.ext (h.globs k),
    fun i b' hi => h.low i b' (hlv i hi), fun b' hb' hn => ?_, by rw [hsz]; exact h.size, h.start.trans e.ext, h.fresh, h.nt, h.defers, h.old.trans e, h.io.trans hio⟩
  · by_cases h1 : i = id
    · subst h1; simp only [upd_same]; exact hob e
    · simp only [upd_ne _ _ h1]
      cases hli : (s.hp i).live with
      | true =>
        exact ObjRep.ext e hli rfl rfl (fun b' hb' => hheap b' (fun eq => by subst eq; exact h.dist i id b' h1 hli hlive hb' hb)) (fun _ _ _ hx => hx) (h.objs i)
      | false => cases hh : s.hp i <;> simp_all [Obj.live, ObjRep]
  · have : b' ≠ b := by
      rintro rfl
      rcases h.low id b' hlive hb with h' | h'
      · omega
      · exact hn h'
    rw [hheap b' this]; exact h.frame b' hb' hn

theorem heap_alloc_lt (w : World) (o : Go.Obj) {b : Nat} (h : b < w.heap.size) : (w.alloc o).heap[b]? = w.heap[b]? := by
  show (w.heap.push o)[b]? = _
  simp [Array.getElem?_push, Nat.ne_of_lt h]
theorem heap_alloc_new (w : World) (o : Go.Obj) : (w.alloc o).heap[w.heap.size]? = some o := by
  show (w.heap.push o)[w.heap.size]? = _
  simp

/-- A new box. -/
theorem rel_box (h : Rel E s a w g) {d : Nat} (hd : d < E.nt) (hnone : s.hp d = .none) {cs : List V} {us : Array Value} (t : TypeId) (hc : RepVs w g s.hp cs us.toList) :
    Rel E ⟨upd s.sl d (.ref d 0 0 0), upd s.hp d (.box cs)⟩ (a.put (some d) (.pointer (some ⟨w.heap.size, 0, none⟩))) (w.alloc (.cells us t)) ⟨g.imm, upd g.blk d (some w.heap.size), g.val⟩ := by
  obtain ⟨h1, e⟩ := rel_fresh (ob := .box cs) (g' := ⟨g.imm, upd g.blk d (some w.heap.size), g.val⟩) (w' := w.alloc (.cells us t)) h hnone rfl (by simp) (fun b hb => heap_alloc_lt w _ hb)
    (fun _ _ h => h) (fun _ _ h => .inl h) (fun b o hi => by have := h.bound b o hi; simp; omega) (fun i hi => upd_ne _ _ hi) (fun _ _ => rfl)
    (fun b hb => by simp only [upd_same, Option.some.injEq] at hb; omega)
    (fun e => ⟨w.heap.size, us, t, upd_same _ _ _, heap_alloc_new w _, RepVs.ext e _ _ hc, fun o hi => by have := h.bound _ _ hi; omega⟩)
  have := rel_put (dst := some d) h1 (v := .ref d 0 0 0) (u := .pointer (some ⟨w.heap.size, 0, none⟩)) (by simp only [RepV, upd_same]; exact ⟨rfl, by simp, _, rfl, by simp⟩) (by rintro d' ⟨⟩; exact hd)
  exact this

theorem sound_alloc {t : TypeId} {ti : TI} {d : Nat} (ho : o.op = .alloc t) (hdst : o.dst = some d) (hT : TIok E.P t ti) (hz : ti.zero ≠ []) (h : Rel E s a w g) (hd : ∀ d, o.dst = some d → d < E.nt)
    (hnone : s.hp d = .none) (hk : forceL (ti.zero.map .d) fun cs => K ⟨upd s.sl d (.ref d 0 0 0), upd s.hp d (.box cs)⟩) : OpOk E o a w K := by
  rw [forceL_eq] at hk
  obtain ⟨i, hi, _, _, hzz⟩ := hT.info
  obtain ⟨z, h1, h2⟩ := hzz hz
  have hzr : (zeroValue t).run E.P w = .ok z w := by unfold zeroValue typeInfo; simp [hi, h1]
  refine op_value (u := .pointer (some ⟨w.heap.size, 0, none⟩)) (w' := w.alloc (.cells z.cells t)) (g' := ⟨g.imm, upd g.blk d (some w.heap.size), g.val⟩) ?_ hk ?_
  · unfold execOp
    rw [ho]
    simp [Instr.alloc, hzr, newVar, newRow]
  · rw [hdst]
    exact rel_box h (hd d hdst) hnone t (zerosB_reps w g s.hp _ _ h2)

theorem sound_box {t : TypeId} {x : Operand} {d : Nat} (ho : o.op = .box t x) (hdst : o.dst = some d) (h : Rel E s a w g) (hd : ∀ d, o.dst = some d → d < E.nt)
    (hnone : s.hp d = .none) (h1 : ev E.glob s x ≠ .undef) (h2 : ∀ vs, ev E.glob s x ≠ .tup vs) (hk : forceL (ev E.glob s x).cells fun cs => K ⟨upd s.sl d (.ref d 0 0 0), upd s.hp d (.box cs)⟩) : OpOk E o a w K := by
  rw [forceL_eq] at hk
  refine op_value (u := .pointer (some ⟨w.heap.size, 0, none⟩)) (w' := w.alloc (.cells (a.eval x).cells t)) (g' := ⟨g.imm, upd g.blk d (some w.heap.size), g.val⟩) ?_ hk ?_
  · unfold execOp
    rw [ho]
    simp [Instr.box, newVar, newRow]
  · rw [hdst]
    exact rel_box h (hd d hdst) hnone t ((rel_ev h x).cells h1 h2)

end Go.Proofs.Ytnnmkenloijkcaa.Eng
