/- The engine, part P: the code of a function. -/
import Derived.Test.YtnnmkenloijkcaaEngO
set_option linter.unusedVariables false
set_option linter.unusedSimpArgs false
namespace Go.Proofs.Ytnnmkenloijkcaa.Eng
open Go

variable {E : Env} {s : St} {a : Act} {w : World} {g : Gh} {T : Tab} {C : Ctr} {q : Bool} {o : Oper} {K : St → Prop}

def QQ (Q : Ex → St → Prop) : Exit → St → Prop
  | .normal, s => Q .normal s
  | .exit i, s => Q (.exit i) s
  | .ret, s => Q .ret s
  | _, _ => False

/-- The concrete side of a post. -/
def Lift (E : Env) (Q : Ex → St → Prop) (e : Exit) (a : Act) (w : World) : Prop := ∃ s g, Rel E s a w g ∧ QQ Q e s

section weak
theorem look_mem {α : Type} {d : α} : ∀ {l : List (Nat × α)} {t : Nat}, look d l t = d ∨ (t, look d l t) ∈ l
  | [], t => .inl rfl
  | (k, v) :: r, t => by
    unfold look
    split
    · rename_i h
      have := Nat.eq_of_beq_eq_true h
      subst this
      exact .inr List.mem_cons_self
    · rcases look_mem (l := r) (t := t) with h | h
      · exact .inl h
      · exact .inr (List.mem_cons_of_mem _ h)
theorem look_key {α : Type} {d : α} : ∀ {l : List (Nat × α)} {t : Nat}, t ∈ l.map (·.1) → (t, look d l t) ∈ l
  | [], t, h => by simp at h
  | (k, v) :: r, t, h => by
    unfold look
    split
    · rename_i h'
      have := Nat.eq_of_beq_eq_true h'
      subst this
      exact List.mem_cons_self
    · rename_i h'
      simp only [List.map_cons, List.mem_cons] at h
      rcases h with rfl | h
      · rw [Nat.beq_refl] at h'; simp at h'
      · exact List.mem_cons_of_mem _ (look_key h)
theorem weakSl_mem {ids : List Nat} : ∀ {l : List (Nat × V)}, weakSl s ids l → ∀ k v, (k, v) ∈ l → s.sl k = v ∧ okV ids v = true
  | [], _, k, v, h => by simp at h
  | (k', v') :: r, hw, k, v, h => by
    simp only [weakSl] at hw
    rcases List.mem_cons.1 h with h | h
    · injection h with h1 h2; subst h1; subst h2; exact ⟨hw.1, hw.2.1⟩
    · exact weakSl_mem hw.2.2 k v h
theorem weakHp_mem {ids : List Nat} : ∀ {l : List (Nat × Obj)}, weakHp s ids l → ∀ k v, (k, v) ∈ l → s.hp k = v ∧ okO ids v = true
  | [], _, k, v, h => by simp at h
  | (k', v') :: r, hw, k, v, h => by
    simp only [weakHp] at hw
    rcases List.mem_cons.1 h with h | h
    · injection h with h1 h2; subst h1; subst h2; exact ⟨hw.1, hw.2.1⟩
    · exact weakHp_mem hw.2.2 k v h

theorem gext_weak {w0 : World} {g0 : Gh} {hp0 hp hp' : Nat → Obj} (hk : ∀ id, (hp0 id).used = true → hp' id = hp id) (h : GExt w0 g0 hp0 w g hp) : GExt w0 g0 hp0 w g hp' where
  ext := h.ext
  used := fun id hu => by rw [hk id hu]; exact h.used id hu
  blk := h.blk
  val := h.val
  nogrow := fun id hu hn e n => by rw [hk id hu]; exact h.nogrow id hu hn e n
  grow := fun id e n hu hg => h.grow id e n hu (by rw [← hk id hu]; exact hg)

theorem rel_weak {kp : List Nat} {l : SL} (hkp : ∀ id, (E.hp0 id).used = true → id ∈ kp) (hw : Weak kp s l) (h : Rel E s a w g) : Rel E l.st a w g := by
  obtain ⟨h1, h2, h3⟩ := hw
  have hids : ∀ id, id ∈ l.hp.map (·.1) → l.st.hp id = s.hp id := fun id hi => ((weakHp_mem h2 _ _ (look_key (d := Obj.none) hi)).1).symm
  have hno : ∀ id, l.st.hp id = .none ∨ (l.st.hp id = s.hp id ∧ okO (l.hp.map (·.1)) (l.st.hp id) = true) := fun id => by
    rcases look_mem (d := Obj.none) (l := l.hp) (t := id) with h' | h'
    · exact .inl h'
    · have := weakHp_mem h2 _ _ h'
      exact .inr ⟨this.1.symm, this.2⟩
  have hlv : ∀ id, (l.st.hp id).live = true → (s.hp id).live = true := fun id hi => by
    rcases hno id with h' | h'
    · rw [h'] at hi; simp [Obj.live] at hi
    · rw [← h'.1]; exact hi
  refine ⟨fun t => ?_, fun id => ?_, fun i j b hij hi hj => h.dist i j b hij (hlv i hi) (hlv j hj), h.bound, h.globs, fun id b hi => h.low id b (hlv id hi), h.frame, h.size, h.start, h.fresh, h.nt, h.defers, gext_weak (fun id hu => hids id (by have := List.all_eq_true.1 h3 id (hkp id hu); simpa using this)) h.old, h.io⟩
  · rcases look_mem (d := V.undef) (l := l.sl) (t := t) with h' | h'
    · show RepV w g l.st.hp (look .undef l.sl t) _
      rw [h']; simp [RepV]
    · obtain ⟨h3, h4⟩ := weakSl_mem h1 _ _ h'
      show RepV w g l.st.hp (look .undef l.sl t) _
      refine RepV.weak hids _ _ h4 ?_
      rw [← h3]; exact h.slots t
  · rcases hno id with h' | ⟨h', h''⟩
    · rw [h']; trivial
    · have hob := h.objs id
      rw [← h'] at hob
      cases ho : l.st.hp id with
      | none => trivial
      | dead => trivial
      | box cells =>
        rw [ho] at hob h''
        obtain ⟨b, us, e, q1, q2, q3, q4⟩ := hob
        exact ⟨b, us, e, q1, q2, RepVs.weak hids _ _ h'' q3, q4⟩
      | arr full e rows => rw [ho] at hob; exact hob
      | grow e n => rw [ho] at hob; exact hob
end weak

/-- A region that draws its order is sound: shown apart. -/
def DrawOk (E : Env) (T : Tab) (C : Ctr) (ops : Array Oper) : Prop :=
  ∀ (id : Nat) (s : St) (a : Act) (w : World) (g : Gh) (K : St → Prop) (Q : Exit → Act → World → Prop), Rel E s a w g → aDraw T E.glob C ops s K →
    (∀ s' a' w' g', K s' → Rel E s' a' w' g' → Q .normal a' w') → (Code.region id ops true).wp E.P Q a w

def CodeOk (E : Env) (T : Tab) (C : Ctr) : Code → Prop
  | .region _ ops draw => match draw with | true => DrawOk E T C ops | false => chkOps E.nt ops.toList = true
  | .seq a b => CodeOk E T C a ∧ CodeOk E T C b
  | .cond _ a b => CodeOk E T C a ∧ CodeOk E T C b
  | .block _ b => CodeOk E T C b
  | .loop b => CodeOk E T C b
  | _ => True

theorem least {m : Nat → Prop} (h : ∃ n, m n) : ∃ n, m n ∧ ∀ k, m k → n ≤ k := by
  obtain ⟨n, hn⟩ := h
  induction n using Nat.strongRecOn with
  | _ n ih =>
    by_cases hk : ∃ k, k < n ∧ m k
    · obtain ⟨k, h1, h2⟩ := hk; exact ih k h1 h2
    · exact ⟨n, hn, fun k hm => Nat.le_of_not_lt fun h => hk ⟨k, h, hm⟩⟩

theorem rel_drawn (h : Rel E s a w g) (n : Nat) : Rel E s a { w with drawn := n } g := by
  obtain ⟨hR, _⟩ := rel_on (w' := { w with drawn := n }) (imm' := g.imm) h (Nat.le_refl _) (fun _ _ => rfl) (fun _ _ h => h) (fun _ _ h _ _ _ => h) h.bound (fun _ _ h _ => h)
  exact hR

theorem aWp_sound (B : Base E T C) : ∀ (c : Code) (Q : Ex → St → Prop) (s : St) (a : Act) (w : World) (g : Gh), CodeOk E T C c → Rel E s a w g → aWp T E.glob C c Q s → c.wp E.P (Lift E Q) a w
  | .skip, Q, s, a, w, g, _, h, hk => wp_skip ⟨s, g, h, hk⟩
  | .region id ops draw, Q, s, a, w, g, hc, h, hk => by
    cases draw with
    | true => exact hc id s a w g (Q .normal) _ h hk (fun s' a' w' g' hq hr => ⟨s', g', hr, hq⟩)
    | false => exact wp_region_list (aOps_sound B ops.toList s a w g (Q .normal) hc h hk (fun s' a' w' g' hq hr => ⟨s', g', hr, hq⟩))
  | .seq x y, Q, s, a, w, g, hc, h, hk => by
    refine wp_seq (Code.wp_mono ?_ (aWp_sound B x _ s a w g hc.1 h hk))
    rintro e a' w' ⟨s', g', hr, hq⟩
    cases e with
    | normal => exact aWp_sound B y Q s' a' w' g' hc.2 hr hq
    | exit i => exact ⟨s', g', hr, hq⟩
    | ret => exact ⟨s', g', hr, hq⟩
    | goto l => exact hq.elim
    | panic c => exact hq.elim
    | outgrown => exact hq.elim
  | .cond c x y, Q, s, a, w, g, hc, h, hk => by
    unfold aWp at hk
    split at hk
    · rename_i b hb
      have hv := rel_ev h c
      rw [hb] at hv
      refine wp_cond_split (repV_bool hv) (fun ht => ?_) (fun ht => ?_)
      · subst ht; exact aWp_sound B x Q s a w g hc.1 h hk
      · subst ht; exact aWp_sound B y Q s a w g hc.2 h hk
    · exact hk.elim
  | .block id b, Q, s, a, w, g, hc, h, hk => by
    refine wp_block (Code.wp_mono ?_ (aWp_sound B b _ s a w g hc h hk))
    rintro e a' w' ⟨s', g', hr, hq⟩
    cases e with
    | normal => exact ⟨s', g', hr, hq⟩
    | exit i =>
      by_cases hi : i = id
      · subst hi
        simp only [Exit.inBlock, if_true]
        refine ⟨s', g', hr, ?_⟩
        simpa [QQ, Ex.block] using hq
      · simp only [Exit.inBlock, hi, if_false]
        refine ⟨s', g', hr, ?_⟩
        have : Nat.beq i id = false := by
          cases hb : Nat.beq i id with
          | true => exact absurd (Nat.eq_of_beq_eq_true hb) hi
          | false => rfl
        simpa [QQ, Ex.block, this] using hq
    | ret => exact ⟨s', g', hr, hq⟩
    | goto l => exact hq.elim
    | panic c => exact hq.elim
    | outgrown => exact hq.elim
  | .loop b, Q, s, a, w, g, hc, h, hk => by
    obtain ⟨ι, I, m, x0, hw0, hround⟩ := hk
    let M (a : Act) (w : World) (n : Nat) : Prop := ∃ x g, m x = n ∧ Rel E (I x).st a w g
    have hleast : ∀ a w, (∃ n, M a w n) → ∃ n, M a w n ∧ ∀ k, M a w k → n ≤ k := fun a w h => least h
    classical
    let μ (a : Act) (w : World) : Nat := if hh : ∃ n, M a w n then Classical.choose (hleast a w hh) else 0
    refine wp_loop (fun a w => ∃ n, M a w n) μ ⟨m x0, x0, g, rfl, rel_weak B.keep hw0 h⟩ fun a w hI => ?_
    have hμ : μ a w = Classical.choose (hleast a w hI) := dif_pos hI
    obtain ⟨hM, hmin⟩ := Classical.choose_spec (hleast a w hI)
    rw [← hμ] at hM hmin
    obtain ⟨x, g', hx, hr⟩ := hM
    refine Code.wp_mono ?_ (aWp_sound B b _ (I x).st a w g' hc hr (hround x))
    rintro e a' w' ⟨s', g'', hr', hq⟩
    cases e with
    | normal =>
      obtain ⟨y, hlt, hwk⟩ := hq
      have hI' : ∃ n, M a' w' n := ⟨m y, y, g'', rfl, rel_weak B.keep hwk hr'⟩
      refine ⟨hI', ?_⟩
      have hμ' : μ a' w' = Classical.choose (hleast a' w' hI') := dif_pos hI'
      obtain ⟨_, hmin'⟩ := Classical.choose_spec (hleast a' w' hI')
      have := hmin' (m y) ⟨y, g'', rfl, rel_weak B.keep hwk hr'⟩
      rw [hμ', ← hx]
      omega
    | exit i => exact ⟨s', g'', hr', hq⟩
    | ret => exact ⟨s', g'', hr', hq⟩
    | goto l => exact hq.elim
    | panic c => exact hq.elim
    | outgrown => exact hq.elim
  | .exit id, Q, s, a, w, g, _, h, hk => wp_exit ⟨s, g, h, hk⟩
  | .ret, Q, s, a, w, g, _, h, hk => wp_ret ⟨s, g, h, hk⟩
  | .scope b, Q, s, a, w, g, _, h, hk => hk.elim
  | .label l, Q, s, a, w, g, _, h, hk => hk.elim
  | .goto l, Q, s, a, w, g, _, h, hk => hk.elim
  | .refuse l, Q, s, a, w, g, _, h, hk => hk.elim
  | .rangeFunc .., Q, s, a, w, g, _, h, hk => hk.elim

end Go.Proofs.Ytnnmkenloijkcaa.Eng
