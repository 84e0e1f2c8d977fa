/- The engine, part N3: objects get other numbers. -/
import Derived.Test.YtnnmkenloijkcaaEngN2
set_option linter.unusedVariables false
set_option linter.unusedSimpArgs false
namespace Go.Proofs.Ytnnmkenloijkcaa.Eng
open Go

mutual
def V.ren (ρ : Nat → Nat) : V → V
  | .undef => .undef
  | .d x => .d x
  | .ref id r e o => .ref (ρ id) r e o
  | .own id => .own (ρ id)
  | .osl t e rows => .osl (ρ t) e rows
  | .agg cs => .agg (rens ρ cs)
  | .tup cs => .tup (rens ρ cs)
  | .clo f cs => .clo f (rens ρ cs)
def rens (ρ : Nat → Nat) : List V → List V
  | [] => []
  | c :: cs => V.ren ρ c :: rens ρ cs
end
def Obj.ren (ρ : Nat → Nat) : Obj → Obj
  | .box cs => .box (rens ρ cs)
  | .none => .none
  | .dead => .dead
  | .arr f e r => .arr f e r
  | .grow e n => .grow e n
theorem ren_used {ρ : Nat → Nat} (o : Obj) : (o.ren ρ).used = o.used := by cases o <;> rfl
theorem ren_live {ρ : Nat → Nat} (o : Obj) : (o.ren ρ).live = o.live := by cases o <;> rfl
theorem ren_grow {ρ : Nat → Nat} {o : Obj} {e n : Nat} : o.ren ρ = .grow e n ↔ o = .grow e n := by cases o <;> simp [Obj.ren]
def Gh.ren (σ : Nat → Nat) (g : Gh) : Gh := ⟨g.imm, fun i => g.blk (σ i), fun i => g.val (σ i)⟩
def hpRen (ρ σ : Nat → Nat) (hp : Nat → Obj) (i : Nat) : Obj := (hp (σ i)).ren ρ

mutual
theorem rep_ren {ρ σ : Nat → Nat} (h : ∀ i, σ (ρ i) = i) {w : World} {g : Gh} {hp : Nat → Obj} : ∀ (v : V) (u : Value), RepV w (g.ren σ) (hpRen ρ σ hp) (v.ren ρ) u ↔ RepV w g hp v u
  | .undef, u => by simp [V.ren, RepV]
  | .d x, u => by simp [V.ren, RepV, Gh.ren]
  | .ref id r e o, u => by simp only [V.ren, RepV, Gh.ren, hpRen, h, ren_used, ne_eq, ren_grow]
  | .own id, u => by simp only [V.ren, RepV, Gh.ren, hpRen, h, ren_used, ne_eq, ren_grow]
  | .osl id e rows, u => by simp only [V.ren, RepV, Gh.ren, hpRen, h, ren_used, ne_eq, ren_grow]
  | .agg cs, u => by simp only [V.ren, RepV]; exact exists_congr fun us => and_congr_right fun _ => reps_ren h cs _
  | .tup cs, u => by simp only [V.ren, RepV]; exact exists_congr fun us => and_congr_right fun _ => reps_ren h cs _
  | .clo f cs, u => by simp only [V.ren, RepV]; exact exists_congr fun us => and_congr_right fun _ => reps_ren h cs _
theorem reps_ren {ρ σ : Nat → Nat} (h : ∀ i, σ (ρ i) = i) {w : World} {g : Gh} {hp : Nat → Obj} : ∀ (vs : List V) (us : List Value), RepVs w (g.ren σ) (hpRen ρ σ hp) (rens ρ vs) us ↔ RepVs w g hp vs us
  | [], us => by simp [rens, RepVs]
  | c :: cs, us => by
    simp only [rens, RepVs]
    exact exists_congr fun u => exists_congr fun us' => and_congr_right fun _ => and_congr (rep_ren h c u) (reps_ren h cs us')
end

theorem obj_ren {ρ σ : Nat → Nat} (h : ∀ i, σ (ρ i) = i) {w : World} {g : Gh} {hp : Nat → Obj} (id : Nat) (o : Obj) : ObjRep w (g.ren σ) (hpRen ρ σ hp) (ρ id) (o.ren ρ) ↔ ObjRep w g hp id o := by
  cases o with
  | none => simp [Obj.ren, ObjRep]
  | dead => simp [Obj.ren, ObjRep]
  | box cells => simp only [Obj.ren, ObjRep, reps_ren h]; simp only [Gh.ren, h]
  | arr f e r => simp only [Obj.ren, ObjRep, Gh.ren, h]
  | grow e n => simp only [Obj.ren, ObjRep, Gh.ren, h]

def renP (ρ : Nat → Nat) (p : Nat × Obj) : Nat × Obj := (ρ p.1, p.2.ren ρ)
theorem hpOf_ren {ρ σ : Nat → Nat} (h1 : ∀ i, σ (ρ i) = i) (h2 : ∀ i, ρ (σ i) = i) : ∀ (l : HP), hpOf (l.map (renP ρ)) = hpRen ρ σ (hpOf l)
  | [] => rfl
  | (k, o) :: l => by
    funext i
    have ih := congrFun (hpOf_ren h1 h2 l) i
    unfold hpOf at ih
    show look .none ((ρ k, o.ren ρ) :: l.map (renP ρ)) i = ((look .none ((k, o) :: l) (σ i)).ren ρ)
    unfold look
    cases hb : Nat.beq (σ i) k with
    | true =>
      have := Nat.eq_of_beq_eq_true hb
      have : i = ρ k := by rw [← this, h2]
      subst this
      simp only [Nat.beq_refl]
    | false =>
      have hne : i ≠ ρ k := by rintro rfl; rw [h1] at hb; simp at hb
      cases hb' : Nat.beq i (ρ k) with
      | true => exact absurd (Nat.eq_of_beq_eq_true hb') hne
      | false => exact ih

theorem gren_ren {ρ σ : Nat → Nat} (h : ∀ i, ρ (σ i) = i) (g : Gh) : (g.ren ρ).ren σ = g := by
  unfold Gh.ren
  simp only [h]
theorem hpRen_apply {ρ σ : Nat → Nat} (h : ∀ i, σ (ρ i) = i) (hp : Nat → Obj) (i : Nat) : hpRen ρ σ hp (ρ i) = (hp i).ren ρ := by simp [hpRen, h]

/-- A call's contract, when objects have other numbers. -/
theorem HCalls.ren {P : Program} {G : Nat → V} {f : FuncId} {hin : HP} {args : List V} {φ ψ : V → HP → Prop} (h : HCalls P G f (hpOf hin) args φ) (ρ σ : Nat → Nat) (h1 : ∀ i, σ (ρ i) = i) (h2 : ∀ i, ρ (σ i) = i)
    (hφ : ∀ r l, φ r l → ψ (r.ren ρ) (l.map (renP ρ))) : HCalls P G f (hpOf (hin.map (renP ρ))) (rens ρ args) ψ := by
  obtain ⟨hf, h⟩ := h
  refine ⟨hf, fun w g us hb hG hargs hobj hdist => ?_⟩
  rw [hpOf_ren h1 h2] at hargs hobj hdist ⊢
  have hg := gren_ren (σ := σ) (ρ := ρ) h2 g
  rw [← hg] at hargs hobj
  have hargs' := (reps_ren h1 _ _).1 hargs
  have hobj' : ∀ id, ObjRep w (g.ren ρ) (hpOf hin) id (hpOf hin id) := fun id => by
    have := hobj (ρ id)
    rw [hpRen_apply h1] at this
    exact (obj_ren h1 _ _).1 this
  have hlv : ∀ i, (hpRen ρ σ (hpOf hin) (ρ i)).live = (hpOf hin i).live := fun i => by rw [hpRen_apply h1, ren_live]
  refine (h w (g.ren ρ) us hb hG hargs' hobj' fun i j b hij hi hj hbi => ?_).mono fun e w' hout => ?_
  · exact hdist (ρ i) (ρ j) b (fun e => hij (by rw [← h1 i, e, h1])) (by rw [hlv]; exact hi) (by rw [hlv]; exact hj) hbi
  · have hown : ∀ b, Own (g.ren ρ) (hpOf hin) b ↔ Own g (hpRen ρ σ (hpOf hin)) b := fun b => by
      constructor
      · rintro ⟨id, hl, hb⟩; exact ⟨ρ id, by rw [hlv]; exact hl, hb⟩
      · rintro ⟨id, hl, hb⟩
        refine ⟨σ id, by rw [← hlv, h2]; exact hl, ?_⟩
        show g.blk (ρ (σ id)) = some b
        rw [h2]; exact hb
    obtain ⟨u, r, l, g', q1, q2, q3, q4, q5, q6, q7, q8, q9, q10, q11, q12, q13⟩ := hout.out
    refine ⟨u, r.ren ρ, l.map (renP ρ), g'.ren σ, q1, hφ r l q2, fun p hp => ?_, ?_, fun id => ?_, fun i j b hij hi hj hbi hbj => ?_, q7, q8, fun b hb hn => q9 b hb fun ho => hn ((hown b).1 ho), ?_, fun b o hi hb => ?_, fun id b hl hb => ?_, q13⟩
    · obtain ⟨p', hp', rfl⟩ := List.mem_map.1 hp
      show (p'.2.ren ρ).used = true
      rw [ren_used]; exact q3 p' hp'
    · rw [hpOf_ren h1 h2]; exact (rep_ren h1 _ _).2 q4
    · rw [hpOf_ren h1 h2]
      have := (obj_ren (ρ := ρ) (σ := σ) h1 (σ id) (hpOf l (σ id))).2 (q5 (σ id))
      rw [h2] at this
      exact this
    · rw [hpOf_ren h1 h2] at hi hj
      simp only [hpRen, ren_live] at hi hj
      exact q6 (σ i) (σ j) b (fun e => hij (by rw [← h2 i, e, h2])) hi hj hbi hbj
    · rw [hpOf_ren h1 h2]
      have e1 : g = (g.ren ρ).ren σ := hg.symm
      refine ⟨q10.ext, fun id hu => ?_, fun id hu hn => ?_, fun id hu hn => ?_, fun id hu hn e n => ?_, fun id e n hu hgr => ?_⟩
      · simp only [hpRen, ren_used] at hu ⊢; exact q10.used _ hu
      · simp only [hpRen, ren_used] at hu
        have := q10.blk (σ id) hu (fun e n he => hn e n (by simp only [hpRen, ren_grow]; exact he))
        rw [e1]; exact this
      · simp only [hpRen, ren_used] at hu
        have := q10.val (σ id) hu (fun e n he => hn e n (by simp only [hpRen, ren_grow]; exact he))
        rw [e1]; exact this
      · simp only [hpRen, ren_used] at hu
        simp only [hpRen, ne_eq, ren_grow]
        exact q10.nogrow (σ id) hu (fun e n he => hn e n (by simp only [hpRen, ren_grow]; exact he)) e n
      · simp only [hpRen, ren_used] at hu
        simp only [hpRen, ren_grow] at hgr
        obtain ⟨m, k1, k2, k3⟩ := q10.grow (σ id) e n hu hgr
        refine ⟨m, by simp only [hpRen, ren_grow]; exact k1, k2, fun hm => ?_⟩
        rw [e1]; exact k3 hm
    · rcases q11 b o hi hb with h' | h'
      · exact .inl h'
      · exact .inr ((hown b).1 h')
    · rw [hpOf_ren h1 h2] at hl
      simp only [hpRen, ren_live] at hl
      rcases q12 (σ id) b hl hb with h' | h'
      · exact .inl h'
      · exact .inr ((hown b).1 h')

def swp (i j n : Nat) : Nat := match Nat.beq n i with | true => j | false => match Nat.beq n j with | true => i | false => n
theorem swp_swp (i j n : Nat) : swp i j (swp i j n) = n := by
  have e : ∀ n, swp i j n = if n = i then j else if n = j then i else n := fun n => by
    unfold swp
    by_cases h1 : n = i
    · subst h1; simp
    · have : Nat.beq n i = false := by cases hb : Nat.beq n i with | true => exact absurd (Nat.eq_of_beq_eq_true hb) h1 | false => rfl
      by_cases h2 : n = j
      · subst h2; simp [this, h1]
      · have h' : Nat.beq n j = false := by cases hb : Nat.beq n j with | true => exact absurd (Nat.eq_of_beq_eq_true hb) h2 | false => rfl
        simp [this, h', h1, h2]
  rw [e, e]
  split
  · rename_i h; subst h
    split <;> simp_all
  · split
    · rename_i h; simp [h]
    · rename_i h1 h2; simp [h1, h2]

/-- Two numbers change places. -/
theorem HCalls.swap {P : Program} {G : Nat → V} {f : FuncId} {hin : HP} {args : List V} {φ ψ : V → HP → Prop} (h : HCalls P G f (hpOf hin) args φ) (i j : Nat)
    (hφ : ∀ r l, φ r l → ψ (r.ren (swp i j)) (l.map (renP (swp i j)))) : HCalls P G f (hpOf (hin.map (renP (swp i j)))) (rens (swp i j) args) ψ :=
  h.ren _ _ (swp_swp i j) (swp_swp i j) hφ

mutual
theorem ren_plain {ρ : Nat → Nat} : ∀ (v : V), v.plain = true → v.ren ρ = v
  | .undef, _ => rfl
  | .d _, _ => rfl
  | .ref .., h => by simp [V.plain] at h
  | .own _, h => by simp [V.plain] at h
  | .osl .., h => by simp [V.plain] at h
  | .agg cs, h => by simp only [V.plain] at h; simp only [V.ren, rens_plain cs h]
  | .tup cs, h => by simp only [V.plain] at h; simp only [V.ren, rens_plain cs h]
  | .clo .., h => by simp [V.plain] at h
theorem rens_plain {ρ : Nat → Nat} : ∀ (vs : List V), plains vs = true → rens ρ vs = vs
  | [], _ => rfl
  | c :: cs, h => by
    unfold plains at h
    split at h
    · rename_i hc; simp only [rens, ren_plain c hc, rens_plain cs h]
    · simp at h
end

/-- A call that is given one box of plain cells: whatever the box's number. -/
theorem HCalls.box {P : Program} {G : Nat → V} {f : FuncId} {cells args : List V} {φ : V → List V → Prop} (h : HCalls P G f (hpOf [(1000, .box cells)]) (.ref 1000 0 0 0 :: args) (fun r l => ∃ cells', l = [(1000, .box cells')] ∧ r.plain = true ∧ plains cells' = true ∧ φ r cells'))
    (hc : plains cells = true) (ha : plains args = true) (id : Nat) : HCalls P G f (hpOf [(id, .box cells)]) (.ref id 0 0 0 :: args) (fun r l => ∃ cells', l = [(id, .box cells')] ∧ r.plain = true ∧ plains cells' = true ∧ φ r cells') := by
  have := h.swap (ψ := fun r l => ∃ cells', l = [(id, .box cells')] ∧ r.plain = true ∧ plains cells' = true ∧ φ r cells') 1000 id (by
    rintro r l ⟨cells', rfl, h1, h2, h3⟩
    refine ⟨cells', ?_, ?_, h2, ?_⟩
    · simp [renP, Obj.ren, rens_plain _ h2, swp]
    · rw [ren_plain _ h1]; exact h1
    · rw [ren_plain _ h1]; exact h3)
  simpa [renP, Obj.ren, rens_plain _ hc, rens, V.ren, rens_plain _ ha, swp] using this

end Go.Proofs.Ytnnmkenloijkcaa.Eng
