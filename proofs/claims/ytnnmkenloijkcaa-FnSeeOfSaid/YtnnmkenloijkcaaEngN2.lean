/- The engine, part N2: calls that are given objects, and give objects back. -/
import Derived.Test.YtnnmkenloijkcaaEngM2
set_option linter.unusedVariables false
set_option linter.unusedSimpArgs false
namespace Go.Proofs.Ytnnmkenloijkcaa.Eng
open Go

variable {E : Env} {s : St} {a : Act} {w : World} {g : Gh} {T : Tab} {C : Ctr} {q : Bool} {o : Oper} {K : St → Prop}

/-- The blocks of the objects that are passed. -/
def Own (g : Gh) (hp0 : Nat → Obj) (b : Nat) : Prop := ∃ id, (hp0 id).live = true ∧ g.blk id = some b

structure HOut (w : World) (g : Gh) (hp0 : Nat → Obj) (φ : V → HP → Prop) (e : Ending) (w' : World) : Prop where
  out : ∃ u r l g', e = .returned u ∧ φ r l ∧ (∀ p, p ∈ l → p.2.used = true) ∧ RepV w' g' (hpOf l) r u ∧ (∀ id, ObjRep w' g' (hpOf l) id (hpOf l id)) ∧
    (∀ i j b, i ≠ j → (hpOf l i).live = true → (hpOf l j).live = true → g'.blk i = some b → g'.blk j ≠ some b) ∧ (∀ b o, g'.imm b o → b < w'.heap.size) ∧ w.heap.size ≤ w'.heap.size ∧
    (∀ b, b < w.heap.size → ¬ Own g hp0 b → w'.heap[b]? = w.heap[b]?) ∧ GExt w g hp0 w' g' (hpOf l) ∧ (∀ b o, g'.imm b o → b < w.heap.size → g.imm b o ∨ Own g hp0 b) ∧
    (∀ id b, (hpOf l id).live = true → g'.blk id = some b → w.heap.size ≤ b ∨ Own g hp0 b) ∧ SameIO w w'

def HCalls (P : Program) (G : Nat → V) (f : FuncId) (hp0 : Nat → Obj) (args : List V) (φ : V → HP → Prop) : Prop :=
  (∃ fn c, P.funcs[f]? = some fn ∧ fn.body = some c ∧ (fn.name == "runtime.NumGoroutine") = false) ∧
  ∀ (w : World) (g : Gh) (us : List Value), (∀ b o, g.imm b o → b < w.heap.size) → (∀ k, RepP w g.imm (G k) (.pointer (some ⟨k, 0, none⟩))) → RepVs w g hp0 args us →
    (∀ id, ObjRep w g hp0 id (hp0 id)) → (∀ i j b, i ≠ j → (hp0 i).live = true → (hp0 j).live = true → g.blk i = some b → g.blk j ≠ some b) →
    Calls P f us.toArray w (HOut w g hp0 φ)

theorem overlay_in {hp : Nat → Obj} : ∀ {l : HP} {i : Nat}, i ∈ l.map (·.1) → overlay hp l i = hpOf l i
  | [], i, h => by simp at h
  | (k, v) :: r, i, h => by
    unfold overlay hpOf look
    cases hb : Nat.beq i k with
    | true => rfl
    | false =>
      have hne : i ≠ k := by rintro rfl; simp at hb
      simp only [List.map_cons, List.mem_cons] at h
      exact overlay_in (h.resolve_left hne)
theorem overlay_out {hp : Nat → Obj} : ∀ {l : HP} {i : Nat}, i ∉ l.map (·.1) → overlay hp l i = hp i ∧ hpOf l i = .none
  | [], i, h => ⟨rfl, rfl⟩
  | (k, v) :: r, i, h => by
    simp only [List.map_cons, List.mem_cons, not_or] at h
    unfold overlay hpOf look
    cases hb : Nat.beq i k with
    | true => exact absurd (Nat.eq_of_beq_eq_true hb) h.1
    | false => exact overlay_out h.2

theorem freshHp_mem {s : St} {ids : List Nat} : ∀ {l : HP}, freshHp s ids l → ∀ i, i ∈ l.map (·.1) → i ∈ ids ∨ s.hp i = .none
  | [], _, i, h => by simp at h
  | (k, v) :: r, hf, i, h => by
    simp only [List.map_cons, List.mem_cons] at h
    rcases h with rfl | h
    · cases hc : ids.contains i with
      | true => exact .inl (by simpa using hc)
      | false => have := hf.1; simp only [hc] at this; exact .inr this
    · exact freshHp_mem hf.2 i h

theorem hpOf_in {s : St} {ids : List Nat} : ∀ {l : HP}, weakHp s ids l → ∀ i, i ∈ l.map (·.1) → s.hp i = hpOf l i ∧ okO ids (s.hp i) = true
  | [], _, i, h => by simp at h
  | (k, v) :: r, hw, i, h => by
    unfold weakHp at hw
    unfold hpOf look
    cases hb : Nat.beq i k with
    | true =>
      have := Nat.eq_of_beq_eq_true hb
      subst this
      exact ⟨hw.1, by rw [hw.1]; exact hw.2.1⟩
    | false =>
      have hne : i ≠ k := by rintro rfl; simp at hb
      simp only [List.map_cons, List.mem_cons] at h
      exact hpOf_in hw.2.2 i (h.resolve_left hne)
theorem hpOf_used {l : HP} (hl : ∀ p, p ∈ l → p.2.used = true) {i : Nat} : i ∈ l.map (·.1) ↔ (hpOf l i).used = true := by
  constructor
  · intro h
    induction l with
    | nil => simp at h
    | cons p r ih =>
      obtain ⟨k, v⟩ := p
      unfold hpOf look
      cases hb : Nat.beq i k with
      | true => exact hl (k, v) List.mem_cons_self
      | false =>
        have hne : i ≠ k := by rintro rfl; simp at hb
        simp only [List.map_cons, List.mem_cons] at h
        exact ih (fun p hp => hl p (List.mem_cons_of_mem _ hp)) (h.resolve_left hne)
  · intro h
    apply Classical.byContradiction
    intro hn
    rw [(overlay_out (hp := fun _ => .none) hn).2] at h
    simp [Obj.used] at h

/-- Behind a call that was given objects. -/
theorem rel_heap (h : Rel E s a w g) {hin l : HP} (hwk : weakHp s (hin.map (·.1)) hin) (hfr : freshHp s (hin.map (·.1)) l) (hl : ∀ p, p ∈ l → p.2.used = true) {w' : World} {g' : Gh}
    (hobj : ∀ id, ObjRep w' g' (hpOf l) id (hpOf l id)) (hdist : ∀ i j b, i ≠ j → (hpOf l i).live = true → (hpOf l j).live = true → g'.blk i = some b → g'.blk j ≠ some b) (hbound : ∀ b o, g'.imm b o → b < w'.heap.size)
    (hsize : w.heap.size ≤ w'.heap.size) (hframe : ∀ b, b < w.heap.size → ¬ Own g (hpOf hin) b → w'.heap[b]? = w.heap[b]?) (hext : GExt w g (hpOf hin) w' g' (hpOf l))
    (hfresh : ∀ b o, g'.imm b o → b < w.heap.size → g.imm b o ∨ Own g (hpOf hin) b) (hlow : ∀ id b, (hpOf l id).live = true → g'.blk id = some b → w.heap.size ≤ b ∨ Own g (hpOf hin) b) (hio : SameIO w w') :
    ∃ g2, Rel E ⟨s.sl, overlay s.hp l⟩ a w' g2 ∧ GExt w' g' (hpOf l) w' g2 (overlay s.hp l) := by
  classical
  let g2 : Gh := ⟨g'.imm, fun i => if i ∈ l.map (·.1) then g'.blk i else g.blk i, fun i => if i ∈ l.map (·.1) then g'.val i else g.val i⟩
  have hin1 : ∀ i, (hpOf hin i).used = true → s.hp i = hpOf hin i := fun i hi => by
    by_cases hm : i ∈ hin.map (·.1)
    · exact (hpOf_in hwk i hm).1
    · rw [(overlay_out (hp := fun _ => .none) hm).2] at hi; simp [Obj.used] at hi
  have hlu : ∀ i, i ∈ l.map (·.1) → (hpOf l i).used = true := fun i hi => (hpOf_used hl).1 hi
  have hold : ∀ i, i ∈ l.map (·.1) → (s.hp i).used = true → s.hp i = hpOf hin i := fun i hi hu => by
    rcases freshHp_mem hfr i hi with h1 | h1
    · exact (hpOf_in hwk i h1).1
    · rw [h1] at hu; simp [Obj.used] at hu
  have e2 : GExt w' g' (hpOf l) w' g2 (overlay s.hp l) := by
    have hm : ∀ i, (hpOf l i).used = true → i ∈ l.map (·.1) := fun i hi => (hpOf_used hl).2 hi
    refine ⟨⟨fun _ _ h => h, fun _ _ _ => rfl⟩, fun i hi => ?_, fun i hi _ => ?_, fun i hi _ => ?_, fun i hi hg => ?_, fun i e n hi hg => ?_⟩
    · rw [overlay_in (hm i hi)]; exact hi
    · show (if i ∈ l.map (·.1) then g'.blk i else g.blk i) = _; rw [if_pos (hm i hi)]
    · show (if i ∈ l.map (·.1) then g'.val i else g.val i) = _; rw [if_pos (hm i hi)]
    · rw [overlay_in (hm i hi)]; exact hg
    · rw [overlay_in (hm i hi)] at hg
      exact ⟨n, hg, Nat.le_refl _, fun _ => by show (if i ∈ l.map (·.1) then g'.val i else g.val i) = _; rw [if_pos (hm i hi)]⟩
  have e1 : GExt w g s.hp w' g2 (overlay s.hp l) := by
    refine ⟨hext.ext, fun i hi => ?_, fun i hi hg => ?_, fun i hi hg => ?_, fun i hi hg => ?_, fun i e n hi hg => ?_⟩
    · by_cases hm : i ∈ l.map (·.1)
      · rw [overlay_in hm]; exact hlu i hm
      · rw [(overlay_out hm).1]; exact hi
    · show (if i ∈ l.map (·.1) then g'.blk i else g.blk i) = _
      by_cases hm : i ∈ l.map (·.1)
      · rw [if_pos hm]; have := hold i hm hi; exact hext.blk i (by rw [← this]; exact hi) (by rw [← this]; exact hg)
      · rw [if_neg hm]
    · show (if i ∈ l.map (·.1) then g'.val i else g.val i) = _
      by_cases hm : i ∈ l.map (·.1)
      · rw [if_pos hm]; have := hold i hm hi; exact hext.val i (by rw [← this]; exact hi) (by rw [← this]; exact hg)
      · rw [if_neg hm]
    · by_cases hm : i ∈ l.map (·.1)
      · rw [overlay_in hm]; have := hold i hm hi; exact hext.nogrow i (by rw [← this]; exact hi) (by rw [← this]; exact hg)
      · rw [(overlay_out hm).1]; exact hg
    · by_cases hm : i ∈ l.map (·.1)
      · rw [overlay_in hm] at hg
        have := hold i hm hi
        obtain ⟨m, q1, q2, q3⟩ := hext.grow i e n (by rw [← this]; exact hi) hg
        exact ⟨m, by rw [this]; exact q1, q2, fun hq => by show (if i ∈ l.map (·.1) then g'.val i else g.val i) = _; rw [if_pos hm]; exact q3 hq⟩
      · rw [(overlay_out hm).1] at hg
        exact ⟨n, hg, Nat.le_refl _, fun _ => by show (if i ∈ l.map (·.1) then g'.val i else g.val i) = _; rw [if_neg hm]⟩
  -- a passed object's block is no other's
  have hown : ∀ i b, i ∉ l.map (·.1) → (s.hp i).live = true → g.blk i = some b → ¬ Own g (hpOf hin) b := by
    rintro i b hm hi hb ⟨j, hj, hjb⟩
    have hju : (hpOf hin j).used = true := Obj.live_used hj
    have hjs := hin1 j hju
    have hjl : j ∈ l.map (·.1) := (hpOf_used hl).2 (hext.used j hju)
    exact h.dist i j b (fun e => hm (e ▸ hjl)) hi (by rw [hjs]; exact hj) hb hjb
  have hownlow : ∀ b, Own g (hpOf hin) b → E.n0 ≤ b ∨ E.own0 b := by
    rintro b ⟨j, hj, hjb⟩
    exact h.low j b (by rw [hin1 j (Obj.live_used hj)]; exact hj) hjb
  have hsz := h.size
  refine ⟨g2, ⟨fun t => RepV.ext e1 _ _ (h.slots t), fun i => ?_, fun i j b hij hi hj hb hb' => ?_, hbound, fun k => RepP.ext hext.ext (h.globs k), fun i b hi hb => ?_, fun b hb hn => ?_, Nat.le_trans h.size hsize, h.start.trans hext.ext, fun b o hi hb => ?_, h.nt, h.defers, h.old.trans e1, h.io.trans hio⟩, e2⟩
  · show ObjRep w' g2 (overlay s.hp l) i (overlay s.hp l i)
    by_cases hm : i ∈ l.map (·.1)
    · rw [overlay_in hm]
      cases hlive : (hpOf l i).live with
      | true => exact ObjRep.ext e2 hlive (if_pos hm) (if_pos hm) (fun _ _ => rfl) (fun _ _ _ h => h) (hobj i)
      | false => cases hh : hpOf l i <;> simp_all [Obj.live, ObjRep]
    · rw [(overlay_out hm).1]
      cases hlive : (s.hp i).live with
      | true =>
        refine ObjRep.ext e1 hlive (if_neg hm) (if_neg hm) (fun b hb => hframe b ((h.objs i).lt hlive hb) (hown i b hm hlive hb)) (fun b hb x hx => ?_) (h.objs i)
        rcases hfresh b x hx ((h.objs i).lt hlive hb) with h1 | h1
        · exact h1
        · exact absurd h1 (hown i b hm hlive hb)
      | false => cases hh : s.hp i <;> simp_all [Obj.live, ObjRep]
  · have hb : (if i ∈ l.map (·.1) then g'.blk i else g.blk i) = some b := hb
    have hb' : (if j ∈ l.map (·.1) then g'.blk j else g.blk j) = some b := hb'
    have hi : (overlay s.hp l i).live = true := hi
    have hj : (overlay s.hp l j).live = true := hj
    by_cases hmi : i ∈ l.map (·.1) <;> by_cases hmj : j ∈ l.map (·.1)
    · rw [if_pos hmi] at hb; rw [if_pos hmj] at hb'; rw [overlay_in hmi] at hi; rw [overlay_in hmj] at hj
      exact hdist i j b hij hi hj hb hb'
    · rw [if_pos hmi] at hb; rw [if_neg hmj] at hb'; rw [overlay_in hmi] at hi; rw [(overlay_out hmj).1] at hj
      have := (h.objs j).lt hj hb'
      rcases hlow i b hi hb with h1 | h1
      · omega
      · exact hown j b hmj hj hb' h1
    · rw [if_neg hmi] at hb; rw [if_pos hmj] at hb'; rw [(overlay_out hmi).1] at hi; rw [overlay_in hmj] at hj
      have := (h.objs i).lt hi hb
      rcases hlow j b hj hb' with h1 | h1
      · omega
      · exact hown i b hmi hi hb h1
    · rw [if_neg hmi] at hb; rw [if_neg hmj] at hb'; rw [(overlay_out hmi).1] at hi; rw [(overlay_out hmj).1] at hj
      exact h.dist i j b hij hi hj hb hb'
  · have hb : (if i ∈ l.map (·.1) then g'.blk i else g.blk i) = some b := hb
    have hi : (overlay s.hp l i).live = true := hi
    by_cases hm : i ∈ l.map (·.1)
    · rw [if_pos hm] at hb; rw [overlay_in hm] at hi
      rcases hlow i b hi hb with h1 | h1
      · exact .inl (by omega)
      · exact hownlow b h1
    · rw [if_neg hm] at hb; rw [(overlay_out hm).1] at hi
      exact h.low i b hi hb
  · rw [hframe b (by omega) (fun ho => by
      rcases hownlow b ho with h1 | h1
      · omega
      · exact hn h1)]
    exact h.frame b hb hn
  · rcases hfresh b o hi (by omega) with h1 | h1
    · exact h.fresh b o h1 hb
    · rcases hownlow b h1 with h2 | h2
      · omega
      · exact .inr h2

end Go.Proofs.Ytnnmkenloijkcaa.Eng
