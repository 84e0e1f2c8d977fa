/- Parts of the proof, in order: the engine, the contracts of the functions, the laws. -/
import Derived.Test.YtdfneaponidfgaaDoorLA
import Derived.Lib.AppendZerosOnto
import Derived.DataElems
import Derived.Laws.BytesString
/- The engine, part N: calls. -/
set_option linter.unusedVariables false
set_option linter.unusedSimpArgs false
namespace Go.Proofs.YtdfneaponidfgaaDoor.Eng
open Go

variable {E : Env} {s : St} {a : Act} {w : World} {g : Gh} {T : Tab} {C : Ctr} {q : Bool} {o : Oper} {K : St → Prop}

mutual
/-- Plain values need no memory. -/
theorem RepP.scalar {w w' : World} {imm : Imm} {g : Gh} {hp : Nat → Obj} : ∀ (v : V) (u : Value), v.scalar = true → RepV w (gh0 imm) (fun _ => .none) v u → RepV w' g hp v u
  | .undef, u, hs, h => by simp [RepV]
  | .d x, u, hs, h => by
    simp only [RepV] at h ⊢
    cases h <;> simp_all [V.scalar, D.scalar] <;> constructor
  | .ref id r e f, u, hs, h => by simp [V.scalar] at hs
  | .own id, u, hs, h => by simp [V.scalar] at hs
  | .osl t e rows, u, hs, h => by simp [V.scalar] at hs
  | .view .., u, hs, h => by simp [V.scalar] at hs
  | .any, u, hs, h => by simp [V.scalar] at hs
  | .agg cs, u, hs, h => by
    simp only [V.scalar] at hs
    simp only [RepV] at h ⊢
    obtain ⟨us, rfl, h⟩ := h
    exact ⟨us, rfl, RepPs.scalar cs _ hs h⟩
  | .tup cs, u, hs, h => by
    simp only [V.scalar] at hs
    simp only [RepV] at h ⊢
    obtain ⟨us, rfl, h⟩ := h
    exact ⟨us, rfl, RepPs.scalar cs _ hs h⟩
  | .clo f cs, u, hs, h => by simp [V.scalar] at hs
theorem RepPs.scalar {w w' : World} {imm : Imm} {g : Gh} {hp : Nat → Obj} : ∀ (vs : List V) (us : List Value), scalars vs = true → RepVs w (gh0 imm) (fun _ => .none) vs us → RepVs w' g hp vs us
  | [], us, hs, h => by simpa [RepVs] using h
  | c :: cs, us, hs, h => by
    simp only [RepVs] at h ⊢
    obtain ⟨u, us', rfl, h1, h2⟩ := h
    unfold scalars at hs
    split at hs
    · rename_i hc
      exact ⟨u, us', rfl, RepP.scalar c u hc h1, RepPs.scalar cs us' hs h2⟩
    · simp at hs
end

/-- What is told of a call: with these arguments it returns something of which φ holds; what was there stays. -/
structure AOut (w : World) (imm : Imm) (φ : V → Prop) (e : Ending) (w' : World) : Prop where
  out : ∃ u r imm', e = .returned u ∧ φ r ∧ RepP w' imm' r u ∧ w.heap.size ≤ w'.heap.size ∧ (∀ b, b < w.heap.size → w'.heap[b]? = w.heap[b]?) ∧ (∀ b o, imm b o → imm' b o) ∧
    (∀ b o, imm' b o → b < w'.heap.size) ∧ (∀ b o, imm' b o → b < w.heap.size → imm b o) ∧ SameIO w w'
def ACalls (P : Program) (G : Nat → V) (f : FuncId) (args : List V) (φ : V → Prop) : Prop :=
  (∃ fn c, P.funcs[f]? = some fn ∧ fn.body = some c ∧ (fn.name == "runtime.NumGoroutine") = false) ∧
  ∀ (w : World) (imm : Imm) (us : List Value), (∀ b o, imm b o → b < w.heap.size) → (∀ k, RepP w imm (G k) (.pointer (some ⟨k, 0, none⟩))) → RepPs w imm args us →
    Calls P f us.toArray w (AOut w imm φ)

theorem ACalls.mono {P : Program} {G : Nat → V} {f : FuncId} {args : List V} {φ ψ : V → Prop} (h : ACalls P G f args φ) (hφ : ∀ r, φ r → ψ r) : ACalls P G f args ψ :=
  ⟨h.1, fun w imm us h1 h2 h3 => (h.2 w imm us h1 h2 h3).mono fun e w' ⟨u, r, imm', q1, q2, q3⟩ => ⟨u, r, imm', q1, hφ r q2, q3⟩⟩

/-- Objects are given up: their cells are frozen. -/
def immK (s : St) (g : Gh) (ids : List Nat) : Imm := fun b o => g.imm b o ∨ ((∃ id, id ∈ ids ∧ (s.hp id).live = true ∧ g.blk id = some b ∧ ∀ e n, s.hp id ≠ .grow e n))

theorem kill_eq (hp : Nat → Obj) : ∀ (ids : List Nat) (i : Nat), kill hp ids i = if i ∈ ids then .dead else hp i
  | [], i => by simp [kill]
  | j :: ids, i => by
    simp only [kill, upd_eq, kill_eq hp ids i, List.mem_cons]
    by_cases h1 : i = j
    · simp [h1]
    · simp [h1]

theorem rel_kill (h : Rel E s a w g) (ids : List Nat) (hu : ∀ id, id ∈ ids → (s.hp id).used = true ∧ ∀ e n, s.hp id ≠ .grow e n) :
    Rel E (s.kill ids) a w ⟨immK s g ids, g.blk, g.val⟩ ∧ GExt w g s.hp w ⟨immK s g ids, g.blk, g.val⟩ (kill s.hp ids) := by
  have e : GExt w g s.hp w ⟨immK s g ids, g.blk, g.val⟩ (kill s.hp ids) := by
    refine ⟨⟨fun _ _ h => .inl h, fun _ _ _ => rfl⟩, fun i hi => ?_, fun _ _ _ => rfl, fun _ _ _ => rfl, fun i hi hg => ?_, fun i ee n hi hg => ?_⟩
    · rw [kill_eq]; split
      · rfl
      · exact hi
    · rw [kill_eq]; split
      · simp
      · exact hg
    · rw [kill_eq] at hg
      split at hg
      · simp at hg
      · exact ⟨n, hg, Nat.le_refl _, fun _ => rfl⟩
  have hlv : ∀ i, (kill s.hp ids i).live = true → (s.hp i).live = true ∧ i ∉ ids := fun i hi => by
    rw [kill_eq] at hi
    split at hi
    · simp [Obj.live] at hi
    · rename_i hn; exact ⟨hi, hn⟩
  refine ⟨⟨fun t => RepV.ext e _ _ (h.slots t), fun i => ?_, fun i j b hij hi hj => h.dist i j b hij (hlv i hi).1 (hlv j hj).1, fun b o hi => ?_, fun k => RepP.ext e.ext (h.globs k), fun i b hi => h.low i b (hlv i hi).1, h.frame, h.size, h.start.trans e.ext, fun b o hi hb => ?_, h.nt, h.defers, h.old.trans e, h.io⟩, e⟩
  · show ObjRep w _ (kill s.hp ids) i (kill s.hp ids i)
    rw [kill_eq]
    split
    · trivial
    · rename_i hni
      cases hlive : (s.hp i).live with
      | true =>
        refine ObjRep.ext e hlive rfl rfl (fun _ _ => rfl) (fun b hb x hx => ?_) (h.objs i)
        rcases hx with hx | ⟨id, h1, h2, h3, _⟩
        · exact hx
        · exact absurd h3 (h.dist i id b (fun eq => hni (eq ▸ h1)) hlive h2 hb)
      | false => cases hh : s.hp i <;> simp_all [Obj.live, ObjRep]
  · rcases hi with hi | ⟨id, h1, h2, h3, _⟩
    · exact h.bound b o hi
    · exact (h.objs id).lt h2 h3
  · rcases hi with hi | ⟨id, h1, h2, h3, _⟩
    · exact h.fresh b o hi hb
    · rcases h.low id b h2 h3 with h4 | h4
      · omega
      · exact .inr h4

section pure
variable {ids : List Nat}
theorem leaf0_ok (h : Rel E s a w g) {v : V} {u : Value} {x : D} (hv : RepV w g s.hp v u) (hx : leaf0 s.hp v = some x) (hi : ∀ id, id ∈ ids0 v → id ∈ ids) : RepD w (immK s g ids) x u := by
  have ex : Ext w g.imm w (immK s g ids) := ⟨fun _ _ h => .inl h, fun _ _ _ => rfl⟩
  unfold leaf0 at hx
  split at hx
  · injection hx with hx; subst hx
    simp only [RepV] at hv
    exact hv.ext ex
  · injection hx with hx; subst hx
    simp only [RepV] at hv
    exact hv.2.1.ext ex
  · rename_i id
    split at hx
    · rename_i full e rows hid
      injection hx with hx; subst hx
      simp only [RepV] at hv
      have hob := h.objs id
      rw [hid] at hob
      obtain ⟨A, c, h1, h2, h3, h4, h5, h6, h7⟩ := hob
      rw [hv.2.1, h1]
      cases hblk : g.blk id with
      | none =>
        have := (h6 hblk).1
        subst this
        exact .slc full e [] A c (fun _ _ => Go.undef) h2 h3 h4 (by simp) (by simp) (by simp) (by simp)
      | some b =>
        obtain ⟨h8, h9, us, t, h10, _, h11⟩ := h7 b hblk
        refine .slc full e rows A c (fun i j => (us[i * e + j]?).getD Go.undef) h2 h3 h4 h5 (fun _ => ⟨b, 0, h8⟩) (fun b' o' ha i r hi' j y hj => ?_) (fun i r hi' j y hj => ?_)
        · rw [h8] at ha
          injection ha with ha; injection ha with ha1 ha2; subst ha1; subst ha2
          obtain ⟨y', hy, _⟩ := h11 i r hi' j y hj
          refine ⟨.inr ⟨id, hi id (by simp [ids0]), by rw [hid]; rfl, hblk, by rw [hid]; simp⟩, ?_⟩
          rw [cell_of h10, Nat.zero_add, hy]; rfl
        · obtain ⟨y', hy, hr⟩ := h11 i r hi' j y hj
          simpa [hy] using hr.ext ex
    · simp at hx
  · rename_i id e' lo n
    split at hx
    · rename_i full e2 rows' hid
      split at hx
      · rename_i hee
        obtain rfl := Nat.eq_of_beq_eq_true hee
        injection hx with hx; subst hx
        simp only [RepV] at hv
        have hob := h.objs id
        rw [hid] at hob
        obtain ⟨A, c, h1, h2, h3, h4, h5, h6, h7⟩ := hob
        obtain ⟨_, _, A1, N, c1, A', q1, q2, q3, q4⟩ := hv
        rw [h1] at q1
        injection q1 with q1 q5 q6
        subst q1; subst q5; subst q6
        have hl : ((rows'.drop lo).take n).length = n := by simp; omega
        have hget : ∀ (i : Nat) r, ((rows'.drop lo).take n)[i]? = some r → i < n ∧ rows'[lo + i]? = some r := fun i r hi => by
          rw [List.getElem?_take] at hi
          split at hi
          · exact ⟨by assumption, by simpa using hi⟩
          · simp at hi
        rw [q3]
        cases hblk : g.blk id with
        | none =>
          have := (h6 hblk).1
          subst this
          have hn0 : n = 0 := by simp at q2; omega
          subst hn0
          simp only [List.drop_nil, List.take_nil]
          exact .slc false e' [] A' (c - lo) (fun _ _ => Go.undef) (by simp) (by simp) (by simp) (by simp) (by simp) (by simp) (by simp)
        | some b =>
          obtain ⟨h8, h9, us, t, h10, _, h11⟩ := h7 b hblk
          have hh := RepD.slc (w := w) (imm := immK s g ids) false e' ((rows'.drop lo).take n) A' (c - lo) (fun i j => (us[(lo + i) * e' + j]?).getD Go.undef) (by rw [hl]; omega) (by rw [hl]; omega) (by simp) (fun i r hi' => h5 _ r (hget i r hi').2)
            (fun hne => ⟨b, 0 + lo * e', by
              have hn0 : n ≠ 0 := by rintro rfl; simp at hne
              rw [q4 (by omega), h8]; simp [Addr.add_lit]⟩)
            (fun b' o' hA' i r hi' j x hj => by
              obtain ⟨hin, hi'⟩ := hget i r hi'
              rw [q4 (by omega), h8] at hA'
              simp only [Option.map_some, Addr.add_lit, Option.some.injEq, Addr.mk.injEq] at hA'
              obtain ⟨rfl, rfl, _⟩ := hA'
              obtain ⟨y, hy, _⟩ := h11 _ r hi' j x hj
              refine ⟨.inr ⟨id, hi id (by simp [ids0]), by rw [hid]; rfl, hblk, by rw [hid]; simp⟩, ?_⟩
              rw [cell_of h10]
              rw [show 0 + lo * e' + i * e' + j = (lo + i) * e' + j by rw [Nat.add_mul]; omega, hy]; rfl)
            (fun i r hi' j x hj => by
              obtain ⟨hin, hi'⟩ := hget i r hi'
              obtain ⟨y, hy, hr⟩ := h11 _ r hi' j x hj
              simp only [hy, Option.getD_some]
              exact hr.ext ex)
          rw [hl] at hh
          exact hh
      · simp at hx
    · simp at hx
  · simp at hx

theorem leafs_ok {f : V → Option D} {im : Imm} : ∀ {cs : List V} {us : List Value} {l : List D}, (∀ c u x, c ∈ cs → RepV w g s.hp c u → f c = some x → RepD w im x u) → leafs f cs = some l → RepVs w g s.hp cs us →
    l.length = us.length ∧ ∀ (i : Nat) x u, l[i]? = some x → us[i]? = some u → RepD w im x u
  | [], us, l, hf, hl, h => by
    simp only [leafs, Option.some.injEq] at hl
    simp only [RepVs] at h
    subst hl; subst h; simp
  | c :: cs, us, l, hf, hl, h => by
    simp only [RepVs] at h
    obtain ⟨u, us', rfl, h1, h2⟩ := h
    unfold leafs at hl
    split at hl
    · rename_i x xs hx hxs
      injection hl with hl
      subst hl
      obtain ⟨i1, i2⟩ := leafs_ok (fun c u x hc => hf c u x (List.mem_cons_of_mem _ hc)) hxs h2
      refine ⟨by simp [i1], fun i y u' hy hu' => ?_⟩
      cases i with
      | zero => simp at hy hu'; subst hy; subst hu'; exact hf c _ _ List.mem_cons_self h1 hx
      | succ i => exact i2 i y u' (by simpa using hy) (by simpa using hu')
    · simp at hl

theorem leaf1_ok (h : Rel E s a w g) {v : V} {u : Value} {x : D} (hv : RepV w g s.hp v u) (hx : leaf1 s.hp v = some x) (hi : ∀ id, id ∈ ids1 s.hp v → id ∈ ids) : RepD w (immK s g ids) x u := by
  unfold leaf1 at hx
  split at hx
  · rename_i id off
    split at hx
    · rename_i cells hid
      cases hl : leafs (leaf0 s.hp) (cells.drop off) with
      | none => simp [hl] at hx
      | some l =>
        simp only [hl, Option.map_some, Option.some.injEq] at hx
        subst hx
        simp only [RepV] at hv
        obtain ⟨h1, h2, b, h3, h4⟩ := hv
        have hob := h.objs id
        rw [hid] at hob
        obtain ⟨b', us, t, h5, h6, h7, h8⟩ := hob
        rw [h3] at h5; injection h5 with h5; subst h5
        obtain ⟨l1, l2⟩ := leafs_ok (im := immK s g ids) (fun c u x hc hcu hcx => leaf0_ok h hcu hcx (fun id' hid' => hi id' (by
          simp only [ids1, hid, List.mem_cons, List.mem_flatMap]
          exact .inr ⟨c, hc, hid'⟩))) hl (h7.drop off)
        subst h4
        have hll : l.length = us.size - off := by simpa using l1
        rw [Nat.zero_mul, Nat.zero_add]
        refine .ptr l b off (fun j => (us[off + j]?).getD Go.undef) (fun j y hj => ?_) (fun j y hj => ?_)
        · have hjl := (List.getElem?_eq_some_iff.1 hj).1
          refine ⟨.inr ⟨id, hi id (by simp [ids1]), by rw [hid]; rfl, h3, by rw [hid]; simp⟩, ?_⟩
          rw [cell_of h6]
          have : off + j < us.size := by omega
          simp [this]
        · have hjl := (List.getElem?_eq_some_iff.1 hj).1
          have hlt : off + j < us.size := by omega
          have hr := l2 j y us[off + j] hj (by rw [List.getElem?_drop, Array.getElem?_toList]; simp [hlt])
          rw [Array.getElem?_eq_getElem hlt]
          exact hr
    · simp at hx
  · rename_i hne
    refine leaf0_ok h hv hx (fun id hid => hi id ?_)
    cases v <;> simp_all [ids0, ids1]

theorem leaf2_ok (h : Rel E s a w g) {v : V} {u : Value} {x : D} (hv : RepV w g s.hp v u) (hx : leaf2 s.hp v = some x) (hi : ∀ id, id ∈ idsV s.hp v → id ∈ ids) : RepD w (immK s g ids) x u := by
  unfold leaf2 at hx
  split at hx
  · rename_i f caps
    cases hl : leafs (leaf1 s.hp) caps with
    | none => simp [hl] at hx
    | some l =>
      simp only [hl, Option.map_some, Option.some.injEq] at hx
      subst hx
      simp only [RepV] at hv
      obtain ⟨us, rfl, hr⟩ := hv
      obtain ⟨l1, l2⟩ := leafs_ok (im := immK s g ids) (fun c u x hc hcu hcx => leaf1_ok h hcu hcx (fun id' hid' => hi id' (by
        simp only [idsV, List.mem_flatMap]
        exact ⟨c, hc, hid'⟩))) hl hr
      have := RepD.fn (w := w) (imm := immK s g ids) f l us.toList (by simpa using l1.symm) (fun j y u' hy hu' => l2 j y u' hy hu')
      simpa using this
  · rename_i hne
    refine leaf1_ok h hv hx (fun id hid => hi id ?_)
    cases v <;> simp_all [ids0, ids1, idsV]

theorem pureV_ok (h : Rel E s a w g) {v v' : V} {u : Value} (hv : RepV w g s.hp v u) (hx : pureV s.hp v = some v') (hi : ∀ id, id ∈ idsV s.hp v → id ∈ ids) : RepP w (immK s g ids) v' u := by
  unfold pureV at hx
  unfold RepP
  split at hx
  · rename_i cs
    cases hl : leafs (leaf0 s.hp) cs with
    | none => simp [hl] at hx
    | some l =>
      simp only [hl, Option.map_some, Option.some.injEq] at hx
      subst hx
      simp only [RepV] at hv ⊢
      obtain ⟨us, rfl, hr⟩ := hv
      obtain ⟨l1, l2⟩ := leafs_ok (im := immK s g ids) (fun c u x hc hcu hcx => leaf0_ok h hcu hcx (fun id' hid' => hi id' (by
        simp only [idsV, List.mem_flatMap]
        exact ⟨c, hc, hid'⟩))) hl hr
      exact ⟨us, rfl, RepVs.ofD rfl l1.symm l2⟩
  · simp at hx
  · cases hl : leaf2 s.hp v with
    | none => simp [hl] at hx
    | some x =>
      simp only [hl, Option.map_some, Option.some.injEq] at hx
      subst hx
      simp only [RepV]
      exact leaf2_ok h hv hl hi

theorem pureVs_ok (h : Rel E s a w g) : ∀ {vs vs' : List V} {us : List Value}, RepVs w g s.hp vs us → pureVs s.hp vs = some vs' → (∀ id, id ∈ vs.flatMap (idsV s.hp) → id ∈ ids) → RepPs w (immK s g ids) vs' us
  | [], vs', us, hv, hx, hi => by
    simp only [pureVs, Option.some.injEq] at hx
    subst hx
    simpa [RepPs, RepVs] using hv
  | v :: vs, vs', us, hv, hx, hi => by
    simp only [RepVs] at hv
    obtain ⟨u, us', rfl, h1, h2⟩ := hv
    unfold pureVs at hx
    split at hx
    · rename_i x xs hx1 hx2
      injection hx with hx
      subst hx
      unfold RepPs
      simp only [RepVs]
      exact ⟨u, us', rfl, pureV_ok h h1 hx1 (fun id hid => hi id (by simp [hid])), pureVs_ok h h2 hx2 (fun id hid => hi id (by simp only [List.flatMap_cons, List.mem_append]; exact .inr hid))⟩
    · simp at hx
end pure

mutual
theorem ids_used (h : Rel E s a w g) : ∀ (v : V) (u : Value), RepV w g s.hp v u → ∀ id, id ∈ ids0 v → (s.hp id).used = true ∧ ∀ e n, s.hp id ≠ .grow e n
  | .own i, u, hv, id, hi => by
    simp only [ids0, List.mem_singleton] at hi
    subst hi
    simp only [RepV] at hv
    exact ⟨hv.1, hv.2.2.1⟩
  | .undef, u, hv, id, hi => by simp [ids0] at hi
  | .d _, u, hv, id, hi => by simp [ids0] at hi
  | .ref .., u, hv, id, hi => by simp [ids0] at hi
  | .osl .., u, hv, id, hi => by simp [ids0] at hi
  | .any, u, hv, id, hi => by simp [ids0] at hi
  | .view .., u, hv, id, hi => by
    simp only [ids0, List.mem_singleton] at hi
    subst hi
    simp only [RepV] at hv
    exact ⟨hv.1, hv.2.1⟩
  | .agg _, u, hv, id, hi => by simp [ids0] at hi
  | .tup _, u, hv, id, hi => by simp [ids0] at hi
  | .clo .., u, hv, id, hi => by simp [ids0] at hi
end

theorem idss_used (h : Rel E s a w g) {f : V → List Nat} (hf : ∀ v u, RepV w g s.hp v u → ∀ id, id ∈ f v → (s.hp id).used = true ∧ ∀ e n, s.hp id ≠ .grow e n) : ∀ {vs : List V} {us : List Value}, RepVs w g s.hp vs us → ∀ id, id ∈ vs.flatMap f → (s.hp id).used = true ∧ ∀ e n, s.hp id ≠ .grow e n
  | [], us, hv, id, hi => by simp at hi
  | v :: vs, us, hv, id, hi => by
    simp only [RepVs] at hv
    obtain ⟨u, us', rfl, h1, h2⟩ := hv
    simp only [List.flatMap_cons, List.mem_append] at hi
    rcases hi with hi | hi
    · exact hf v u h1 id hi
    · exact idss_used h hf h2 id hi

theorem ids1_used (h : Rel E s a w g) (v : V) (u : Value) (hv : RepV w g s.hp v u) (id : Nat) (hi : id ∈ ids1 s.hp v) : (s.hp id).used = true ∧ ∀ e n, s.hp id ≠ .grow e n := by
  unfold ids1 at hi
  split at hi
  · rename_i i r e off
    simp only [RepV] at hv
    rcases List.mem_cons.1 hi with rfl | hi
    · exact ⟨hv.1, hv.2.1⟩
    · split at hi
      · rename_i cells hid
        have hob := h.objs i
        rw [hid] at hob
        obtain ⟨b, us, t, _, _, hr, _⟩ := hob
        exact idss_used h (fun v u => ids_used h v u) (hr.drop off) id hi
      · simp at hi
  · exact ids_used h v u hv id hi

theorem idsV_used (h : Rel E s a w g) (v : V) (u : Value) (hv : RepV w g s.hp v u) (id : Nat) (hi : id ∈ idsV s.hp v) : (s.hp id).used = true ∧ ∀ e n, s.hp id ≠ .grow e n := by
  unfold idsV at hi
  split at hi
  · simp only [RepV] at hv
    obtain ⟨us, _, hr⟩ := hv
    exact idss_used h (fun v u => ids_used h v u) hr id hi
  · simp only [RepV] at hv
    obtain ⟨us, _, hr⟩ := hv
    exact idss_used h (fun v u => ids1_used h v u) hr id hi
  · exact ids1_used h v u hv id hi

mutual
theorem RepP.forget {w w' : World} {imm : Imm} {g : Gh} {hp : Nat → Obj} : ∀ (v : V) (u : Value), RepV w (gh0 imm) (fun _ => .none) v u → RepV w' g hp v.forget u
  | .undef, u, h => by simp [V.forget, RepV]
  | .d x, u, h => by
    unfold V.forget
    split
    · rename_i hs
      exact RepP.scalar (.d x) u hs h
    · simp only [RepV]
      exact RepV.one h rfl
  | .ref .., u, h => by simp [V.forget, RepV]
  | .own _, u, h => by simp [V.forget, RepV]
  | .osl .., u, h => by simp [V.forget, RepV]
  | .view .., u, h => by simp [V.forget, RepV]
  | .any, u, h => by simp [V.forget, RepV]
  | .agg cs, u, h => by
    simp only [V.forget, RepV] at h ⊢
    obtain ⟨us, rfl, h⟩ := h
    exact ⟨us, rfl, RepPs.forget cs _ h⟩
  | .tup cs, u, h => by
    simp only [V.forget, RepV] at h ⊢
    obtain ⟨us, rfl, h⟩ := h
    exact ⟨us, rfl, RepPs.forget cs _ h⟩
  | .clo .., u, h => by simp [V.forget, RepV]
theorem RepPs.forget {w w' : World} {imm : Imm} {g : Gh} {hp : Nat → Obj} : ∀ (vs : List V) (us : List Value), RepVs w (gh0 imm) (fun _ => .none) vs us → RepVs w' g hp (forgets vs) us
  | [], us, h => by simpa [forgets, RepVs] using h
  | c :: cs, us, h => by
    simp only [forgets, RepVs] at h ⊢
    obtain ⟨u, us', rfl, h1, h2⟩ := h
    exact ⟨u, us', rfl, RepP.forget c u h1, RepPs.forget cs us' h2⟩
end

/-- A call of a function of which something is told. -/
theorem sound_call {lend : Bool} {c : Call} {x : Operand} {f : FuncId} {caps : List D} {args : List V} (ho : o.op = .call c) (hx : c.callee = .value x) (h : Rel E s a w g) (hd : ∀ d, o.dst = some d → d < E.nt)
    (hev : ev E.glob s x = .d (.fn f caps)) (hargs : pureVs s.hp (c.args.toList.map (ev E.glob s)) = some args) {φ : V → Prop} (hC : ACalls E.P E.glob f (args ++ caps.map .d) φ)
    (hk : ∀ r, φ r → match r.scalar with
          | true => putK s o.dst r K
          | false => match (generalizing := false) lend with
            | true => putK s o.dst r.forget K
            | false => putK (s.kill ((c.args.toList.map (ev E.glob s)).flatMap (idsV s.hp))) o.dst r K) : OpOk E o a w K := by
  obtain ⟨⟨fn, code, hf1, hf2, hf3⟩, hC⟩ := hC
  generalize hids : (c.args.toList.map (ev E.glob s)).flatMap (idsV s.hp) = ids at hk
  have hevs := evs_rep h c.args.toList
  have hus := idss_used h (fun v u => idsV_used h v u) hevs
  rw [hids] at hus
  obtain ⟨hK, hKe⟩ := rel_kill h ids hus
  have hpa := pureVs_ok (ids := ids) h hevs hargs (fun id hi => by rw [← hids]; exact hi)
  have hfv := rel_ev h x
  rw [hev] at hfv
  simp only [RepV] at hfv
  generalize hfe : a.eval x = fe at hfv
  cases hfv with
  | fn _ _ cus hcl hcr =>
    have hall : RepPs w (immK s g ids) (args ++ caps.map .d) (c.args.toList.map a.eval ++ cus) := by
      refine RepVs.of_get (by have := RepVs.len hpa; simp at this ⊢; omega) fun i v u hv hu => ?_
      have hal := RepVs.len hpa
      rcases Nat.lt_or_ge i args.length with hlt | hge
      · rw [List.getElem?_append_left hlt] at hv
        rw [List.getElem?_append_left (by omega)] at hu
        obtain ⟨u', hu', hr⟩ := RepVs.get hpa hv
        rw [hu'] at hu; injection hu with hu; subst hu; exact hr
      · rw [List.getElem?_append_right hge] at hv
        rw [List.getElem?_append_right (by omega), hal] at hu
        rw [List.getElem?_map] at hv
        cases hc : caps[i - args.length]? with
        | none => simp [hc] at hv
        | some y =>
          simp only [hc, Option.map_some, Option.some.injEq] at hv
          subst hv
          simp only [RepV, gh0]
          exact (hcr _ y u hc hu).ext hKe.ext
    have hcall := hC w (immK s g ids) (c.args.toList.map a.eval ++ cus) hK.bound (fun k => RepP.ext hKe.ext (h.globs k)) hall
    intro next Q hn
    unfold Oper.wp execOp
    rw [ho]
    have hcn : callFunc f ((c.args.toList.map a.eval ++ cus).toArray) = (do
        match (← program).funcs[f]? with
        | none => stuck "call: no such function"
        | some fn =>
          if fn.name == "runtime.NumGoroutine" then pure .numGoroutine
          else if fn.body.isNone then
            mark (.extern f)
            if let some e := Extern.findNext fn then return ← e ((c.args.toList.map a.eval ++ cus).toArray)
            match Extern.find fn with
            | some e => pure (.value (← e ((c.args.toList.map a.eval ++ cus).toArray)))
            | none =>
              if fn.name.endsWith ".init" && !fn.name.startsWith "(" && !fn.name.startsWith "gosem." then pure (.value (.tuple #[]))
              else unsupported (.extern fn.name)
          else pure (.enter f ((c.args.toList.map a.eval ++ cus).toArray))) := rfl
    have hrun : (callFunc f ((c.args.toList.map a.eval ++ cus).toArray)).run E.P w = .ok (.enter f ((c.args.toList.map a.eval ++ cus).toArray)) w := by
      rw [hcn]
      simp only [Sem.run_bind, run_program, Result.andThen_ok, hf1, hf3, hf2, Option.isNone_some, Bool.false_eq_true, if_false, Sem.run_pure]
    have hargsEq : #[] ++ c.args.map a.eval ++ cus.toArray = (c.args.toList.map a.eval ++ cus).toArray := by
      apply Array.ext'; simp
    simp only [resolve, hx, hfe, Deferred.ofValue, pure_bind, invoke]
    rw [hargsEq, hrun]
    simp only [Oper.upon]
    refine hcall.mono fun e w' hout => ?_
    obtain ⟨u, r, imm', rfl, hφ, hrep, h1, h2, h3, h4, h5, h6⟩ := hout.out
    have hk := hk r hφ
    show next (a.put o.dst u) w'
    split at hk
    · rename_i hsc
      rw [putK_eq] at hk
      obtain ⟨hR, _⟩ := rel_on (w' := w') (imm' := g.imm) h h1 h2 (fun _ _ h => h) (fun _ _ h _ _ _ => h) (fun b o hi => by have := h.bound b o hi; omega) (fun _ _ h _ => h) h6
      exact hn _ _ _ _ hk (rel_put hR (RepP.scalar r u hsc hrep) hd)
    split at hk
    · rw [putK_eq] at hk
      obtain ⟨hR, _⟩ := rel_on (w' := w') (imm' := g.imm) h h1 h2 (fun _ _ h => h) (fun _ _ h _ _ _ => h) (fun b o hi => by have := h.bound b o hi; omega) (fun _ _ h _ => h) h6
      exact hn _ _ _ _ hk (rel_put hR (RepP.forget r u hrep) hd)
    · rw [putK_eq] at hk
      obtain ⟨hR, _⟩ := rel_on (w' := w') (imm' := imm') hK h1 h2 h3 (fun b o hi id hl hb => h5 b o hi ((hK.objs id).lt hl hb)) h4 h5 h6
      exact hn _ _ _ _ hk (rel_put hR (RepP.to rfl _ r u hrep) hd)

end Go.Proofs.YtdfneaponidfgaaDoor.Eng
/- The engine, part M2: a built slice that is an array of the call's own; an array that is written no more. -/
set_option linter.unusedVariables false
set_option linter.unusedSimpArgs false
namespace Go.Proofs.YtdfneaponidfgaaDoor.Eng
open Go

variable {E : Env} {s : St} {a : Act} {w : World} {g : Gh} {T : Tab} {C : Ctr} {q : Bool} {o : Oper} {K : St → Prop}

theorem sound_buildSlice_own {t : TypeId} {len : Nat} {parts : Array (Nat × Operand)} {ti : TI} {d : Nat} (ho : o.op = .buildSlice t len parts) (hdst : o.dst = some d) (hT : TIok E.P t ti) (h : Rel E s a w g) (hd : ∀ d, o.dst = some d → d < E.nt) (hnone : s.hp d = .none)
    (hk : match ti.slc, aOp.leafRows (parts.toList.map fun p => ev E.glob s p.2) with
      | true, some rows => match Nat.beq rows.length len, decide (parts.toList.map (·.1) = List.range len), rows.all (fun r => Nat.beq r.length ti.esz), Nat.ble (len * ti.esz) (2 ^ 24) with
        | true, true, true, true => K ⟨upd s.sl d (.own d), upd s.hp d (.arr true ti.esz rows)⟩
        | _, _, _, _ => False
      | _, _ => False) : OpOk E o a w K := by
  split at hk
  · rename_i rows hg hrows
    split at hk
    · rename_i h1 h2 h3 h4
      have h1 := Nat.eq_of_beq_eq_true h1
      have h2 : parts.toList.map (·.1) = List.range len := by simpa using h2
      have h4 := Nat.le_of_ble_eq_true h4
      obtain ⟨hu, hz, ie, hi, hsz, hby, z, hz1, hz2, hzc⟩ := hT.slc hg
      have hevs : RepVs w g s.hp (parts.toList.map fun p => ev E.glob s p.2) (parts.toList.map fun p => a.eval p.2) := by
        have := evs_rep h (parts.toList.map (·.2))
        simpa [List.map_map, Function.comp_def] using this
      obtain ⟨l1, l2⟩ := leafRows_ok hrows hevs
      have hplen : parts.toList.length = len := by have := congrArg List.length h2; simpa using this
      have hvs : ∀ v ∈ (parts.toList.map fun p => a.eval p.2), v.cells.size = ti.esz := by
        intro v hv
        obtain ⟨i, hi', rfl⟩ := List.getElem_of_mem hv
        have hir : i < rows.length := by omega
        obtain ⟨u, hu', hl, _⟩ := l2 i rows[i] (List.getElem?_eq_getElem hir)
        rw [List.getElem?_eq_getElem hi'] at hu'
        injection hu' with hu'
        rw [hu', ← hl]
        have := List.all_eq_true.1 h3 rows[i] (List.getElem_mem hir)
        exact Nat.eq_of_beq_eq_true this
      obtain ⟨cells', f1, f2, f3, f4⟩ := fill_rows (esz := ti.esz) (parts.toList.map fun p => a.eval p.2) 0 ((Array.range (len * ti.esz)).map (z.cells[· % z.cells.size]!)) hvs (by simp at hplen ⊢; rw [hplen]; exact Nat.le_refl _)
      have hzip : (List.range' 0 (parts.toList.map fun p => a.eval p.2).length).zip (parts.toList.map fun p => a.eval p.2) = (parts.map fun (i, x) => (i, a.eval x)).toList := by
        rw [List.length_map, hplen, ← List.range_eq_range', ← h2]
        simp only [Array.toList_map]
        rw [List.zip_map']
      rw [hzip] at f1
      have hfr : len * ti.esz = 0 → ((Array.range (len * ti.esz)).map (z.cells[· % z.cells.size]!)) = ((Array.range (len * ti.esz)).map ((#[] : Array Value)[· % (#[] : Array Value).size]!)) := by
        intro h0; rw [h0]; simp
      have hrun : (Instr.buildSlice t len (parts.map fun (i, x) => (i, a.eval x))).run E.P w = .ok (.slice (some ⟨w.heap.size, 0, none⟩) len len) (w.alloc (.cells cells' ti.elem)) := by
        have hs : (sizeOf ti.elem).run E.P w = .ok ti.esz w := by unfold sizeOf typeInfo; simp [hi, hsz]
        have hzv : (zeroValue ti.elem).run E.P w = .ok z w := by unfold zeroValue typeInfo; simp [hi, hz1]
        have h4' : ¬ (len * ti.esz > 2 ^ 24) := by omega
        unfold Instr.buildSlice
        simp only [Sem.run_bind, run_underlying hu, Result.andThen_ok, hs, if_neg h4']
        by_cases h0 : len * ti.esz = 0
        · rw [hfr h0] at f1
          simp only [if_pos h0, Sem.run_pure, Result.andThen_ok, f1, newRow, Sem.run_bind, run_newObj]
          rfl
        · simp only [if_neg h0, Sem.run_bind, hzv, Sem.run_pure, Result.andThen_ok, f1, newRow, run_newObj]
          rfl
      have hrows : ∀ (i : Nat) (r : List D), rows[i]? = some r → r.length = ti.esz ∧ ∀ (j : Nat) (x : D), r[j]? = some x → ∃ u, cells'[i * ti.esz + j]? = some u ∧ RepD w g.imm x u := fun i r hi' => by
        obtain ⟨u, hu', hl, hx⟩ := l2 i r hi'
        have hre : r.length = ti.esz := by
          have := List.all_eq_true.1 h3 r (List.mem_of_getElem? hi')
          exact Nat.eq_of_beq_eq_true this
        refine ⟨hre, fun j x hj => ?_⟩
        obtain ⟨y, hy, hr⟩ := hx j x hj
        have hjl := (List.getElem?_eq_some_iff.1 hj).1
        refine ⟨y, ?_, hr⟩
        have := f4 i u hu' j (by omega)
        rw [Nat.zero_add] at this
        rw [this, hy]
      have hbig : rows.length ≤ 2 ^ 48 := by
        have : rows.length * 1 ≤ rows.length * ti.esz := Nat.mul_le_mul_left _ (by omega)
        rw [← h1] at h4
        omega
      obtain ⟨hR, hE⟩ := rel_fresh (ob := .arr true ti.esz rows) (g' := ⟨g.imm, upd g.blk d (some w.heap.size), upd g.val d (.slice (some ⟨w.heap.size, 0, none⟩) len len)⟩)
        (w' := w.alloc (.cells cells' ti.elem)) h hnone rfl (by simp) (fun b hb => heap_alloc_lt w _ hb)
        (fun _ _ h => h) (fun b o hi => .inl hi)
        (fun b o hi => by have := h.bound b o hi; simp; omega)
        (fun i hi => upd_ne _ _ hi) (fun i hi => upd_ne _ _ hi) (fun b hb => by simp only [upd_same, Option.some.injEq] at hb; omega)
        (fun e => ⟨some ⟨w.heap.size, 0, none⟩, len, by simp [upd_same, h1], by omega, by omega, fun _ => h1.symm, fun i r hi => (hrows i r hi).1, fun hn => by simp [upd_same] at hn, fun b hb => by
          simp only [upd_same, Option.some.injEq] at hb
          subst hb
          exact ⟨rfl, fun o hi => by have := h.bound _ _ hi; omega, cells', ti.elem, heap_alloc_new w _, by rw [f2]; simp, fun i r hi j x hj => by
            obtain ⟨u, hu1, hu2⟩ := (hrows i r hi).2 j x hj
            exact ⟨u, hu1, hu2.ext e.ext⟩⟩⟩)
      refine op_value (u := .slice (some ⟨w.heap.size, 0, none⟩) len len) (w' := w.alloc (.cells cells' ti.elem)) ?_ hk (g' := ⟨g.imm, upd g.blk d (some w.heap.size), upd g.val d (.slice (some ⟨w.heap.size, 0, none⟩) len len)⟩) ?_
      · unfold execOp
        rw [ho]
        simp only [Sem.run_bind, hrun, Result.andThen_ok, Sem.run_pure]
      · rw [hdst]
        refine rel_put (dst := some d) hR ?_ (by rintro d' ⟨⟩; exact hd d hdst)
        simp only [RepV, upd_same]
        exact ⟨by first | rfl | trivial, by first | rfl | trivial, by simp, _, _, _, rfl⟩
    · exact hk.elim
  · exact hk.elim

theorem rel_frz (h : Rel E s a w g) {x : Operand} {s2 : St} (hf : frz q s x = some s2) : ∃ g2, Rel E s2 a w g2 := by
  unfold frz at hf
  split at hf
  · rename_i t
    split at hf
    · rename_i id hid
      split at hf
      · rename_i full e rows hob
        injection hf with hf
        subst hf
        have hs := h.slots t
        rw [hid] at hs
        have hus : ∀ i, i ∈ [id] → (s.hp i).used = true ∧ ∀ e n, s.hp i ≠ .grow e n := fun i hi => by
          simp only [List.mem_singleton] at hi
          subst hi
          rw [hob]; exact ⟨rfl, by simp⟩
        obtain ⟨hK, _⟩ := rel_kill h [id] hus
        have hpv : pureV s.hp (.own id) = some (.d (.slc full e rows)) := by simp [pureV, leaf2, leaf1, leaf0, hob]
        have hp := pureVs_ok (ids := [id]) (vs := [.own id]) (us := [a.tmps.getD t Go.undef]) h (by simp only [RepVs]; exact ⟨_, _, rfl, hs, rfl⟩) (vs' := [.d (.slc full e rows)]) (by simp only [pureVs, hpv]) (by simp [idsV, ids1, ids0])
        unfold RepPs at hp
        simp only [RepVs] at hp
        obtain ⟨u, us', e1, e2, _⟩ := hp
        injection e1 with e1 _
        subst e1
        refine ⟨_, fun t' => ?_, hK.objs, hK.dist, hK.bound, hK.globs, hK.low, hK.frame, hK.size, hK.start, hK.fresh, hK.nt, hK.defers, hK.old, hK.io⟩
        show RepV _ _ _ (upd s.sl t _ t') _
        rw [upd_eq]
        split
        · rename_i ht; subst ht; exact RepP.to rfl _ _ _ e2
        · exact hK.slots t'
      · simp at hf
    · simp at hf
  · simp at hf

theorem repV_asg {hp : Nat → Obj} {x : Operand} {v : V} {u : Value} {ty : TypeId} (hv : RepV w g hp v u) (hx : ∀ c, x = .const c → u = c) : RepV w g hp (asgV T ty x v) u := by
  unfold asgV
  split
  · have hu := hx _ rfl
    split
    · subst hu
      simp only [RepV]
      exact .slc true _ [] none 0 (fun _ _ => default) (by simp) (by simp) (by simp) (by simp) (by simp) (by simp) (by simp)
    · exact hv
  · exact hv

theorem sound_assign {x : Operand} (ho : o.op = .assign x) (h : Rel E s a w g) (hd : ∀ d, o.dst = some d → d < E.nt)
    (hk : putK s o.dst (asgV T o.type x (ev E.glob s x)) K) : OpOk E o a w K := by
  refine op_put h hd (u := a.eval x) ?_ (repV_asg (rel_ev h x) (fun c hc => by subst hc; rfl)) hk
  unfold execOp
  rw [ho]; rfl

theorem run_eq_nil {P : Program} (w : World) (d : Nat) (t : TypeId) {e : TypeId} (A : Option Addr) (n c : Nat) (hu : P.underlying t = some (.slice e)) : (Op.equalIn (d + 1) t (.slice A n c) (.slice none 0 0)).run P w = .ok A.isNone w := by
  cases A <;> simp [Op.equalIn, run_underlying hu]
theorem sound_nilCmp {op : BinOp} {t t' : TypeId} {x y : Operand} {ti : TI} (ho : o.op = .binOp op t x y t') (hT : TIok E.P t ti) (h : Rel E s a w g) (hd : ∀ d, o.dst = some d → d < E.nt) (hg : ti.slc = true) {rows : List (List D)}
    (hn : nilCmp s.hp (ev E.glob s x) y = some (ti.esz, rows)) (hk : nilK op rows fun v => putK s o.dst v K) : OpOk E o a w K := by
  obtain ⟨hu, hz, _⟩ := hT.slc hg
  have hx := rel_ev h x
  have hex : execOp a.eval o = (do pure (.value (← (do eqGuard op t x y (a.eval x) (a.eval y); binOp op t (a.eval x) (a.eval y))))) := by
    unfold execOp; rw [ho]
  unfold nilCmp at hn
  split at hn
  · obtain ⟨A, c, news, e1, _, _, _, p1, _⟩ := rows_cells hz h.objs hx hn
    rw [e1] at hex
    have hyv : a.eval (.const (.slice none 0 0)) = .slice none 0 0 := rfl
    rw [hyv] at hex
    have hgd := eqGuard_plain E.P op t x (.const (.slice none 0 0)) (.slice A rows.length c) (.slice none 0 0) w ⟨by simp, by simp⟩
    have heq := run_eq_nil (P := E.P) w 9999 t A rows.length c hu
    have hA : A.isNone = true → rows = [] := fun hA => by
      apply Classical.byContradiction
      intro hr
      obtain ⟨b, off, hb, _⟩ := p1 hr
      rw [hb] at hA; simp at hA
    unfold nilK at hk
    split at hk
    · cases hb : A.isNone with
      | true =>
        refine op_put h hd (u := .bool true) ?_ (repV_mkbool _ _) (hk.1 (hA hb))
        rw [hex]
        simp [hgd, binOp, Op.equal, Op.maxDepth, heq, hb]
      | false =>
        refine op_put h hd (u := .bool false) ?_ (repV_mkbool _ _) hk.2
        rw [hex]
        simp [hgd, binOp, Op.equal, Op.maxDepth, heq, hb]
    · cases hb : A.isNone with
      | true =>
        refine op_put h hd (u := .bool false) ?_ (repV_mkbool _ _) (hk.1 (hA hb))
        rw [hex]
        simp [hgd, binOp, Op.equal, Op.maxDepth, heq, hb]
      | false =>
        refine op_put h hd (u := .bool true) ?_ (repV_mkbool _ _) hk.2
        rw [hex]
        simp [hgd, binOp, Op.equal, Op.maxDepth, heq, hb]
    · exact hk.elim
  · simp at hn

theorem sound_clip {t : TypeId} {x : Operand} {lo hi mx : Option Operand} (hT : ∀ {t ti}, T.get t = some ti → TIok E.P t ti) (ho : o.op = .slice t x lo hi mx) (h : Rel E s a w g) (hd : ∀ d, o.dst = some d → d < E.nt)
    (hk : aClip T E.glob s o.dst t x lo hi mx K) : OpOk E o a w K := by
  unfold aClip at hk
  split at hk
  · rename_i ti d id hti hdst hev
    split at hk
    · rename_i full e rows hn mn hob hnone hhi hmx
      split at hk
      · rename_i hg hee
        obtain rfl := Nat.eq_of_beq_eq_true hee
        obtain ⟨hl1, hl2, hk⟩ := hk
        rw [withS_eq] at hk
        have hTi := hT hti
        obtain ⟨hu, hz, ie, hi1, hi2, _⟩ := hTi.slc hg
        have hsz : (sizeOf ti.elem).run E.P w = .ok ti.esz w := by unfold sizeOf typeInfo; simp [hi1, hi2]
        have hxv := rel_ev h x
        rw [hev] at hxv
        simp only [RepV] at hxv
        obtain ⟨hus, hval, _, _⟩ := hxv
        have hobj := h.objs id
        rw [hob] at hobj
        obtain ⟨A, c, o1, o2, o3, o4, o5, o6, o7⟩ := hobj
        have hbd := run_bounds (P := E.P) (lo := none) (l := none) h rfl hhi hmx true rows.length c (.inr (by simp)) 0 rows.length rows.length (by simp; omega) (by simp; omega) (by simp) (by simp) (by simp; omega) (by simp; omega) (by omega) (by omega) (by omega)
        have hdid : d ≠ id := by rintro rfl; rw [hob] at hnone; simp at hnone
        let g2 : Gh := ⟨g.imm, upd g.blk d (g.blk id), upd g.val d (.slice A rows.length rows.length)⟩
        let hp2 : Nat → Obj := upd (upd s.hp id .dead) d (.arr true ti.esz rows)
        have hne : ∀ i, (s.hp i).used = true → i ≠ d := by rintro i hi rfl; rw [hnone] at hi; simp [Obj.used] at hi
        have hp2e : ∀ i, hp2 i = if i = d then .arr true ti.esz rows else if i = id then .dead else s.hp i := fun i => by simp only [hp2, upd_eq]
        have e : GExt w g s.hp w g2 hp2 := by
          refine ⟨Ext.refl _ _, fun i hi => ?_, fun i hi _ => upd_ne _ _ (hne i hi), fun i hi _ => upd_ne _ _ (hne i hi), fun i hi hgr => ?_, fun i ee n hi hgr => ?_⟩
          · rw [hp2e, if_neg (hne i hi)]; split
            · rfl
            · exact hi
          · rw [hp2e, if_neg (hne i hi)]; split
            · simp
            · exact hgr
          · rw [hp2e, if_neg (hne i hi)] at hgr
            split at hgr
            · simp at hgr
            · exact ⟨n, hgr, Nat.le_refl _, fun _ => upd_ne _ _ (hne i hi)⟩
        have hlv : ∀ i, (hp2 i).live = true → i ≠ d → (s.hp i).live = true ∧ i ≠ id := fun i hi hid => by
          rw [hp2e, if_neg hid] at hi
          split at hi
          · simp [Obj.live] at hi
          · exact ⟨hi, by assumption⟩
        have hidl : (s.hp id).live = true := by rw [hob]; rfl
        have hR : Rel E ⟨s.sl, hp2⟩ a w g2 := by
          refine ⟨fun t => RepV.ext e _ _ (h.slots t), fun i => ?_, fun i j b hij hi hj hb => ?_, h.bound, fun k => h.globs k, fun i b hi hb => ?_, h.frame, h.size, h.start, h.fresh, h.nt, h.defers, h.old.trans e, h.io⟩
          · show ObjRep w g2 hp2 i (hp2 i)
            by_cases hid : i = d
            · subst hid
              rw [hp2e, if_pos rfl]
              refine ⟨A, rows.length, by simp [g2, upd_same], Nat.le_refl _, o3, fun _ => rfl, o5, ?_, ?_⟩
              · intro hb; simp only [g2, upd_same] at hb
                have := (o6 hb).1
                exact ⟨this, by rw [this]; rfl⟩
              · intro b hb; simp only [g2, upd_same] at hb
                obtain ⟨q1, q2, us, tt, q3, q4, q5⟩ := o7 b hb
                exact ⟨q1, q2, us, tt, q3, Nat.le_trans (Nat.mul_le_mul_right _ o2) q4, q5⟩
            · rw [hp2e, if_neg hid]
              split
              · trivial
              · cases hlive : (s.hp i).live with
                | true => exact ObjRep.ext e hlive (upd_ne _ _ hid) (upd_ne _ _ hid) (fun _ _ => rfl) (fun _ _ _ h => h) (h.objs i)
                | false => cases hh : s.hp i <;> simp_all [Obj.live, ObjRep]
          · have hb2 : upd g.blk d (g.blk id) i = some b := hb
            show upd g.blk d (g.blk id) j ≠ some b
            by_cases hid : i = d
            · subst hid
              have hjd : j ≠ i := fun e => hij e.symm
              obtain ⟨q1, q2⟩ := hlv j hj hjd
              rw [upd_same] at hb2
              rw [upd_ne _ _ hjd]
              exact h.dist id j b (fun e => q2 e.symm) hidl q1 hb2
            · obtain ⟨p1, p2⟩ := hlv i hi hid
              rw [upd_ne _ _ hid] at hb2
              by_cases hjd : j = d
              · subst hjd
                rw [upd_same]
                exact h.dist i id b p2 p1 hidl hb2
              · obtain ⟨q1, q2⟩ := hlv j hj hjd
                rw [upd_ne _ _ hjd]
                exact h.dist i j b hij p1 q1 hb2
          · have hb : upd g.blk d (g.blk id) i = some b := hb
            by_cases hid : i = d
            · subst hid
              rw [upd_same] at hb
              exact h.low id b hidl hb
            · rw [upd_ne _ _ hid] at hb
              exact h.low i b (hlv i hi hid).1 hb
        have hA : (if rows.length = 0 then A else A.map (·.add (0 * ti.esz))) = A := by
          split
          · rfl
          · cases hb : g.blk id with
            | none => have := (o6 hb).1; simp_all
            | some b =>
              obtain ⟨q1, _⟩ := o7 b hb
              rw [q1]; simp [Addr.add]
        refine op_value (u := .slice A rows.length rows.length) (w' := w) (g' := g2) ?_ hk ?_
        · unfold execOp
          rw [ho]
          simp only [Option.map_none] at hbd
          simp only [Instr.sliceAt, hval, o1, Sem.run_bind, run_underlying hu, Result.andThen_ok, Instr.slice, Option.map_none, hbd, hsz, Sem.run_pure]
          simp only [Nat.sub_zero, hA]
        · rw [hdst]
          refine rel_put (dst := some d) hR ?_ (by rintro d' ⟨⟩; exact hd d hdst)
          simp only [RepV]
          refine ⟨by rw [hp2e, if_pos rfl]; rfl, by simp [g2, upd_same], by rw [hp2e, if_pos rfl]; simp, _, _, _, rfl⟩
      · exact hk.elim
    · exact hk.elim
  · exact hk.elim

end Go.Proofs.YtdfneaponidfgaaDoor.Eng
/- The engine, part N2: calls that are given objects, and give objects back. -/
set_option linter.unusedVariables false
set_option linter.unusedSimpArgs false
namespace Go.Proofs.YtdfneaponidfgaaDoor.Eng
open Go

variable {E : Env} {s : St} {a : Act} {w : World} {g : Gh} {T : Tab} {C : Ctr} {q : Bool} {o : Oper} {K : St → Prop}

/-- The blocks of the objects that are passed. -/
def Own (g : Gh) (hp0 : Nat → Obj) (b : Nat) : Prop := ∃ id, (hp0 id).live = true ∧ g.blk id = some b

structure HOut (w : World) (g : Gh) (hp0 : Nat → Obj) (φ : V → HP → Prop) (e : Ending) (w' : World) : Prop where
  out : ∃ u r l g', e = .returned u ∧ φ r l ∧ (∀ p, p ∈ l → p.2.used = true) ∧ RepV w' g' (hpOf l) r u ∧ (∀ id, ObjRep w' g' (hpOf l) id (hpOf l id)) ∧
    (∀ i j b, i ≠ j → (hpOf l i).live = true → (hpOf l j).live = true → g'.blk i = some b → g'.blk j ≠ some b) ∧ (∀ b o, g'.imm b o → b < w'.heap.size) ∧ w.heap.size ≤ w'.heap.size ∧
    (∀ b, b < w.heap.size → ¬ Own g hp0 b → w'.heap[b]? = w.heap[b]?) ∧ GExt w g hp0 w' g' (hpOf l) ∧ (∀ b o, g'.imm b o → b < w.heap.size → g.imm b o ∨ Own g hp0 b) ∧
    (∀ id b, (hpOf l id).live = true → g'.blk id = some b → w.heap.size ≤ b ∨ Own g hp0 b) ∧ SameIO w w'

def HCalls (P : Program) (G : Nat → V) (f : FuncId) (hp0 : Nat → Obj) (args : List V) (φ : V → HP → Prop) : Prop :=
  (∃ fn c, P.funcs[f]? = some fn ∧ fn.body = some c ∧ (fn.name == "runtime.NumGoroutine") = false) ∧
  ∀ (w : World) (g : Gh) (us : List Value), (∀ b o, g.imm b o → b < w.heap.size) → (∀ k, RepP w g.imm (G k) (.pointer (some ⟨k, 0, none⟩))) → RepVs w g hp0 args us →
    (∀ id, ObjRep w g hp0 id (hp0 id)) → (∀ i j b, i ≠ j → (hp0 i).live = true → (hp0 j).live = true → g.blk i = some b → g.blk j ≠ some b) →
    Calls P f us.toArray w (HOut w g hp0 φ)

theorem overlay_in {hp : Nat → Obj} : ∀ {l : HP} {i : Nat}, i ∈ l.map (·.1) → overlay hp l i = hpOf l i
  | [], i, h => by simp at h
  | (k, v) :: r, i, h => by
    unfold overlay hpOf look
    cases hb : Nat.beq i k with
    | true => rfl
    | false =>
      have hne : i ≠ k := by rintro rfl; simp at hb
      simp only [List.map_cons, List.mem_cons] at h
      exact overlay_in (h.resolve_left hne)
theorem overlay_out {hp : Nat → Obj} : ∀ {l : HP} {i : Nat}, i ∉ l.map (·.1) → overlay hp l i = hp i ∧ hpOf l i = .none
  | [], i, h => ⟨rfl, rfl⟩
  | (k, v) :: r, i, h => by
    simp only [List.map_cons, List.mem_cons, not_or] at h
    unfold overlay hpOf look
    cases hb : Nat.beq i k with
    | true => exact absurd (Nat.eq_of_beq_eq_true hb) h.1
    | false => exact overlay_out h.2

theorem freshHp_mem {s : St} {ids : List Nat} : ∀ {l : HP}, freshHp s ids l → ∀ i, i ∈ l.map (·.1) → i ∈ ids ∨ s.hp i = .none
  | [], _, i, h => by simp at h
  | (k, v) :: r, hf, i, h => by
    simp only [List.map_cons, List.mem_cons] at h
    rcases h with rfl | h
    · cases hc : ids.contains i with
      | true => exact .inl (by simpa using hc)
      | false => have := hf.1; simp only [hc] at this; exact .inr this
    · exact freshHp_mem hf.2 i h

theorem hpOf_in {s : St} {ids : List Nat} : ∀ {l : HP}, weakHp s ids l → ∀ i, i ∈ l.map (·.1) → s.hp i = hpOf l i ∧ okO ids (s.hp i) = true
  | [], _, i, h => by simp at h
  | (k, v) :: r, hw, i, h => by
    unfold weakHp at hw
    unfold hpOf look
    cases hb : Nat.beq i k with
    | true =>
      have := Nat.eq_of_beq_eq_true hb
      subst this
      exact ⟨hw.1, by rw [hw.1]; exact hw.2.1⟩
    | false =>
      have hne : i ≠ k := by rintro rfl; simp at hb
      simp only [List.map_cons, List.mem_cons] at h
      exact hpOf_in hw.2.2 i (h.resolve_left hne)
theorem hpOf_used {l : HP} (hl : ∀ p, p ∈ l → p.2.used = true) {i : Nat} : i ∈ l.map (·.1) ↔ (hpOf l i).used = true := by
  constructor
  · intro h
    induction l with
    | nil => simp at h
    | cons p r ih =>
      obtain ⟨k, v⟩ := p
      unfold hpOf look
      cases hb : Nat.beq i k with
      | true => exact hl (k, v) List.mem_cons_self
      | false =>
        have hne : i ≠ k := by rintro rfl; simp at hb
        simp only [List.map_cons, List.mem_cons] at h
        exact ih (fun p hp => hl p (List.mem_cons_of_mem _ hp)) (h.resolve_left hne)
  · intro h
    apply Classical.byContradiction
    intro hn
    rw [(overlay_out (hp := fun _ => .none) hn).2] at h
    simp [Obj.used] at h

/-- Behind a call that was given objects. -/
theorem rel_heap (h : Rel E s a w g) {hin l : HP} (hwk : weakHp s (hin.map (·.1)) hin) (hfr : freshHp s (hin.map (·.1)) l) (hl : ∀ p, p ∈ l → p.2.used = true) {w' : World} {g' : Gh}
    (hobj : ∀ id, ObjRep w' g' (hpOf l) id (hpOf l id)) (hdist : ∀ i j b, i ≠ j → (hpOf l i).live = true → (hpOf l j).live = true → g'.blk i = some b → g'.blk j ≠ some b) (hbound : ∀ b o, g'.imm b o → b < w'.heap.size)
    (hsize : w.heap.size ≤ w'.heap.size) (hframe : ∀ b, b < w.heap.size → ¬ Own g (hpOf hin) b → w'.heap[b]? = w.heap[b]?) (hext : GExt w g (hpOf hin) w' g' (hpOf l))
    (hfresh : ∀ b o, g'.imm b o → b < w.heap.size → g.imm b o ∨ Own g (hpOf hin) b) (hlow : ∀ id b, (hpOf l id).live = true → g'.blk id = some b → w.heap.size ≤ b ∨ Own g (hpOf hin) b) (hio : SameIO w w') :
    ∃ g2, Rel E ⟨s.sl, overlay s.hp l⟩ a w' g2 ∧ GExt w' g' (hpOf l) w' g2 (overlay s.hp l) := by
  classical
  let g2 : Gh := ⟨g'.imm, fun i => if i ∈ l.map (·.1) then g'.blk i else g.blk i, fun i => if i ∈ l.map (·.1) then g'.val i else g.val i⟩
  have hin1 : ∀ i, (hpOf hin i).used = true → s.hp i = hpOf hin i := fun i hi => by
    by_cases hm : i ∈ hin.map (·.1)
    · exact (hpOf_in hwk i hm).1
    · rw [(overlay_out (hp := fun _ => .none) hm).2] at hi; simp [Obj.used] at hi
  have hlu : ∀ i, i ∈ l.map (·.1) → (hpOf l i).used = true := fun i hi => (hpOf_used hl).1 hi
  have hold : ∀ i, i ∈ l.map (·.1) → (s.hp i).used = true → s.hp i = hpOf hin i := fun i hi hu => by
    rcases freshHp_mem hfr i hi with h1 | h1
    · exact (hpOf_in hwk i h1).1
    · rw [h1] at hu; simp [Obj.used] at hu
  have e2 : GExt w' g' (hpOf l) w' g2 (overlay s.hp l) := by
    have hm : ∀ i, (hpOf l i).used = true → i ∈ l.map (·.1) := fun i hi => (hpOf_used hl).2 hi
    refine ⟨⟨fun _ _ h => h, fun _ _ _ => rfl⟩, fun i hi => ?_, fun i hi _ => ?_, fun i hi _ => ?_, fun i hi hg => ?_, fun i e n hi hg => ?_⟩
    · rw [overlay_in (hm i hi)]; exact hi
    · show (if i ∈ l.map (·.1) then g'.blk i else g.blk i) = _; rw [if_pos (hm i hi)]
    · show (if i ∈ l.map (·.1) then g'.val i else g.val i) = _; rw [if_pos (hm i hi)]
    · rw [overlay_in (hm i hi)]; exact hg
    · rw [overlay_in (hm i hi)] at hg
      exact ⟨n, hg, Nat.le_refl _, fun _ => by show (if i ∈ l.map (·.1) then g'.val i else g.val i) = _; rw [if_pos (hm i hi)]⟩
  have e1 : GExt w g s.hp w' g2 (overlay s.hp l) := by
    refine ⟨hext.ext, fun i hi => ?_, fun i hi hg => ?_, fun i hi hg => ?_, fun i hi hg => ?_, fun i e n hi hg => ?_⟩
    · by_cases hm : i ∈ l.map (·.1)
      · rw [overlay_in hm]; exact hlu i hm
      · rw [(overlay_out hm).1]; exact hi
    · show (if i ∈ l.map (·.1) then g'.blk i else g.blk i) = _
      by_cases hm : i ∈ l.map (·.1)
      · rw [if_pos hm]; have := hold i hm hi; exact hext.blk i (by rw [← this]; exact hi) (by rw [← this]; exact hg)
      · rw [if_neg hm]
    · show (if i ∈ l.map (·.1) then g'.val i else g.val i) = _
      by_cases hm : i ∈ l.map (·.1)
      · rw [if_pos hm]; have := hold i hm hi; exact hext.val i (by rw [← this]; exact hi) (by rw [← this]; exact hg)
      · rw [if_neg hm]
    · by_cases hm : i ∈ l.map (·.1)
      · rw [overlay_in hm]; have := hold i hm hi; exact hext.nogrow i (by rw [← this]; exact hi) (by rw [← this]; exact hg)
      · rw [(overlay_out hm).1]; exact hg
    · by_cases hm : i ∈ l.map (·.1)
      · rw [overlay_in hm] at hg
        have := hold i hm hi
        obtain ⟨m, q1, q2, q3⟩ := hext.grow i e n (by rw [← this]; exact hi) hg
        exact ⟨m, by rw [this]; exact q1, q2, fun hq => by show (if i ∈ l.map (·.1) then g'.val i else g.val i) = _; rw [if_pos hm]; exact q3 hq⟩
      · rw [(overlay_out hm).1] at hg
        exact ⟨n, hg, Nat.le_refl _, fun _ => by show (if i ∈ l.map (·.1) then g'.val i else g.val i) = _; rw [if_neg hm]⟩
  -- a passed object's block is no other's
  have hown : ∀ i b, i ∉ l.map (·.1) → (s.hp i).live = true → g.blk i = some b → ¬ Own g (hpOf hin) b := by
    rintro i b hm hi hb ⟨j, hj, hjb⟩
    have hju : (hpOf hin j).used = true := Obj.live_used hj
    have hjs := hin1 j hju
    have hjl : j ∈ l.map (·.1) := (hpOf_used hl).2 (hext.used j hju)
    exact h.dist i j b (fun e => hm (e ▸ hjl)) hi (by rw [hjs]; exact hj) hb hjb
  have hownlow : ∀ b, Own g (hpOf hin) b → E.n0 ≤ b ∨ E.own0 b := by
    rintro b ⟨j, hj, hjb⟩
    exact h.low j b (by rw [hin1 j (Obj.live_used hj)]; exact hj) hjb
  have hsz := h.size
  refine ⟨g2, ⟨fun t => RepV.ext e1 _ _ (h.slots t), fun i => ?_, fun i j b hij hi hj hb hb' => ?_, hbound, fun k => RepP.ext hext.ext (h.globs k), fun i b hi hb => ?_, fun b hb hn => ?_, Nat.le_trans h.size hsize, h.start.trans hext.ext, fun b o hi hb => ?_, h.nt, h.defers, h.old.trans e1, h.io.trans hio⟩, e2⟩
  · show ObjRep w' g2 (overlay s.hp l) i (overlay s.hp l i)
    by_cases hm : i ∈ l.map (·.1)
    · rw [overlay_in hm]
      cases hlive : (hpOf l i).live with
      | true => exact ObjRep.ext e2 hlive (if_pos hm) (if_pos hm) (fun _ _ => rfl) (fun _ _ _ h => h) (hobj i)
      | false => cases hh : hpOf l i <;> simp_all [Obj.live, ObjRep]
    · rw [(overlay_out hm).1]
      cases hlive : (s.hp i).live with
      | true =>
        refine ObjRep.ext e1 hlive (if_neg hm) (if_neg hm) (fun b hb => hframe b ((h.objs i).lt hlive hb) (hown i b hm hlive hb)) (fun b hb x hx => ?_) (h.objs i)
        rcases hfresh b x hx ((h.objs i).lt hlive hb) with h1 | h1
        · exact h1
        · exact absurd h1 (hown i b hm hlive hb)
      | false => cases hh : s.hp i <;> simp_all [Obj.live, ObjRep]
  · have hb : (if i ∈ l.map (·.1) then g'.blk i else g.blk i) = some b := hb
    have hb' : (if j ∈ l.map (·.1) then g'.blk j else g.blk j) = some b := hb'
    have hi : (overlay s.hp l i).live = true := hi
    have hj : (overlay s.hp l j).live = true := hj
    by_cases hmi : i ∈ l.map (·.1) <;> by_cases hmj : j ∈ l.map (·.1)
    · rw [if_pos hmi] at hb; rw [if_pos hmj] at hb'; rw [overlay_in hmi] at hi; rw [overlay_in hmj] at hj
      exact hdist i j b hij hi hj hb hb'
    · rw [if_pos hmi] at hb; rw [if_neg hmj] at hb'; rw [overlay_in hmi] at hi; rw [(overlay_out hmj).1] at hj
      have := (h.objs j).lt hj hb'
      rcases hlow i b hi hb with h1 | h1
      · omega
      · exact hown j b hmj hj hb' h1
    · rw [if_neg hmi] at hb; rw [if_pos hmj] at hb'; rw [(overlay_out hmi).1] at hi; rw [overlay_in hmj] at hj
      have := (h.objs i).lt hi hb
      rcases hlow j b hj hb' with h1 | h1
      · omega
      · exact hown i b hmi hi hb h1
    · rw [if_neg hmi] at hb; rw [if_neg hmj] at hb'; rw [(overlay_out hmi).1] at hi; rw [(overlay_out hmj).1] at hj
      exact h.dist i j b hij hi hj hb hb'
  · have hb : (if i ∈ l.map (·.1) then g'.blk i else g.blk i) = some b := hb
    have hi : (overlay s.hp l i).live = true := hi
    by_cases hm : i ∈ l.map (·.1)
    · rw [if_pos hm] at hb; rw [overlay_in hm] at hi
      rcases hlow i b hi hb with h1 | h1
      · exact .inl (by omega)
      · exact hownlow b h1
    · rw [if_neg hm] at hb; rw [(overlay_out hm).1] at hi
      exact h.low i b hi hb
  · rw [hframe b (by omega) (fun ho => by
      rcases hownlow b ho with h1 | h1
      · omega
      · exact hn h1)]
    exact h.frame b hb hn
  · rcases hfresh b o hi (by omega) with h1 | h1
    · exact h.fresh b o h1 hb
    · rcases hownlow b h1 with h2 | h2
      · omega
      · exact .inr h2

end Go.Proofs.YtdfneaponidfgaaDoor.Eng
/- The engine, part O0: a call that is given objects. RepV.weak and RepVs.weak stand here. -/
set_option linter.unusedVariables false
set_option linter.unusedSimpArgs false
namespace Go.Proofs.YtdfneaponidfgaaDoor.Eng
open Go

variable {E : Env} {s : St} {a : Act} {w : World} {g : Gh} {T : Tab} {C : Ctr} {q : Bool} {o : Oper} {K : St → Prop}

mutual
theorem RepV.weak {hp hp' : Nat → Obj} {ids : List Nat} (hids : ∀ id, id ∈ ids → hp' id = hp id) : ∀ (v : V) (u : Value), okV ids v = true → RepV w g hp v u → RepV w g hp' v u
  | .undef, u, ho, h => by simp [RepV]
  | .d x, u, ho, h => by simpa only [RepV] using h
  | .ref id r e f, u, ho, h => by
    simp only [okV, List.contains_iff_mem] at ho
    simp only [RepV] at h ⊢
    rw [hids id ho]; exact h
  | .own id, u, ho, h => by
    simp only [okV, List.contains_iff_mem] at ho
    simp only [RepV] at h ⊢
    rw [hids id ho]; exact h
  | .osl id e rows, u, ho, h => by
    simp only [okV, List.contains_iff_mem] at ho
    simp only [RepV] at h ⊢
    rw [hids id ho]; exact h
  | .any, u, ho, h => by simpa only [RepV] using h
  | .view id e lo n, u, ho, h => by
    simp only [okV, List.contains_iff_mem] at ho
    simp only [RepV] at h ⊢
    rw [hids id ho]; exact h
  | .agg cs, u, ho, h => by
    simp only [okV] at ho
    simp only [RepV] at h ⊢
    obtain ⟨us, rfl, h⟩ := h
    exact ⟨us, rfl, RepVs.weak hids cs _ ho h⟩
  | .tup cs, u, ho, h => by
    simp only [okV] at ho
    simp only [RepV] at h ⊢
    obtain ⟨us, rfl, h⟩ := h
    exact ⟨us, rfl, RepVs.weak hids cs _ ho h⟩
  | .clo f cs, u, ho, h => by
    simp only [okV] at ho
    simp only [RepV] at h ⊢
    obtain ⟨us, rfl, h⟩ := h
    exact ⟨us, rfl, RepVs.weak hids cs _ ho h⟩
theorem RepVs.weak {hp hp' : Nat → Obj} {ids : List Nat} (hids : ∀ id, id ∈ ids → hp' id = hp id) : ∀ (vs : List V) (us : List Value), okVs ids vs = true → RepVs w g hp vs us → RepVs w g hp' vs us
  | [], us, ho, h => by simpa [RepVs] using h
  | c :: cs, us, ho, h => by
    simp only [okVs, Bool.and_eq_true] at ho
    simp only [RepVs] at h ⊢
    obtain ⟨u, us', rfl, h1, h2⟩ := h
    exact ⟨u, us', rfl, RepV.weak hids c u ho.1 h1, RepVs.weak hids cs us' ho.2 h2⟩
end

/-- A call that is given objects, and gives objects back. -/
theorem sound_hcall {c : Call} {x : Operand} {f : FuncId} {caps : List D} (ho : o.op = .call c) (hx : c.callee = .value x) (h : Rel E s a w g) (hd : ∀ d, o.dst = some d → d < E.nt)
    (hev : ev E.glob s x = .d (.fn f caps)) {hin : HP} (hwk : weakHp s (hin.map (·.1)) hin) (hok : okVs (hin.map (·.1)) (c.args.toList.map (ev E.glob s)) = true) {φ : V → HP → Prop}
    (hC : HCalls E.P E.glob f (hpOf hin) (c.args.toList.map (ev E.glob s) ++ caps.map .d) φ)
    (hk : ∀ r l, φ r l → freshHp s (hin.map (·.1)) l ∧ putK ⟨s.sl, overlay s.hp l⟩ o.dst r K) : OpOk E o a w K := by
  obtain ⟨⟨fn, code, hf1, hf2, hf3⟩, hC⟩ := hC
  have hevs := evs_rep h c.args.toList
  have hids : ∀ id, id ∈ hin.map (·.1) → hpOf hin id = s.hp id := fun id hi => (hpOf_in hwk id hi).1.symm
  have hevs' := RepVs.weak hids _ _ hok hevs
  have hno : ∀ id, (hpOf hin id).used = true → id ∈ hin.map (·.1) := fun id hi => by
    apply Classical.byContradiction
    intro hn
    rw [(overlay_out (hp := fun _ => .none) hn).2] at hi; simp [Obj.used] at hi
  have hfv := rel_ev h x
  rw [hev] at hfv
  simp only [RepV] at hfv
  generalize hfe : a.eval x = fe at hfv
  cases hfv with
  | fn _ _ cus hcl hcr =>
    have hall : RepVs w g (hpOf hin) (c.args.toList.map (ev E.glob s) ++ caps.map .d) (c.args.toList.map a.eval ++ cus) := by
      refine RepVs.of_get (by have := RepVs.len hevs'; simp at this ⊢; omega) fun i v u hv hu => ?_
      have hal := RepVs.len hevs'
      rcases Nat.lt_or_ge i (c.args.toList.map (ev E.glob s)).length with hlt | hge
      · rw [List.getElem?_append_left hlt] at hv
        rw [List.getElem?_append_left (by omega)] at hu
        obtain ⟨u', hu', hr⟩ := RepVs.get hevs' hv
        rw [hu'] at hu; injection hu with hu; subst hu; exact hr
      · rw [List.getElem?_append_right hge] at hv
        rw [List.getElem?_append_right (by omega), hal] at hu
        generalize i - (c.args.toList.map (ev E.glob s)).length = k at hv hu
        rw [List.getElem?_map] at hv
        cases hc : caps[k]? with
        | none => rw [hc] at hv; simp at hv
        | some y =>
          rw [hc] at hv
          simp only [Option.map_some, Option.some.injEq] at hv
          subst hv
          simp only [RepV]
          exact hcr _ y u hc hu
    have hobj : ∀ id, ObjRep w g (hpOf hin) id (hpOf hin id) := fun id => by
      cases hlive : (hpOf hin id).live with
      | false => cases hh : hpOf hin id <;> simp_all [Obj.live, ObjRep]
      | true =>
        have hi := hno id (Obj.live_used hlive)
        have hob := h.objs id
        obtain ⟨q1, q2⟩ := hpOf_in hwk id hi
        rw [q1] at hob q2
        cases hh : hpOf hin id with
        | none => trivial
        | dead => trivial
        | box cells =>
          rw [hh] at hob q2
          obtain ⟨b, us, e, p1, p2, p3, p4⟩ := hob
          exact ⟨b, us, e, p1, p2, RepVs.weak hids _ _ q2 p3, p4⟩
        | arr full e rows => rw [hh] at hob; exact hob
        | grow e n => rw [hh] at hob; exact hob
    have hin1 : ∀ i, (hpOf hin i).live = true → (s.hp i).live = true := fun i hi => by rw [← hids i (hno i (Obj.live_used hi))]; exact hi
    have hcall := hC w g (c.args.toList.map a.eval ++ cus) h.bound h.globs hall hobj (fun i j b hij hi hj => h.dist i j b hij (hin1 i hi) (hin1 j hj))
    intro next Q hn
    unfold Oper.wp execOp
    rw [ho]
    have hcn : callFunc f ((c.args.toList.map a.eval ++ cus).toArray) = (do
        match (← program).funcs[f]? with
        | none => stuck "call: no such function"
        | some fn =>
          if fn.name == "runtime.NumGoroutine" then pure .numGoroutine
          else if fn.body.isNone then
            mark (.extern f)
            if let some e := Extern.findNext fn then return ← e ((c.args.toList.map a.eval ++ cus).toArray)
            match Extern.find fn with
            | some e => pure (.value (← e ((c.args.toList.map a.eval ++ cus).toArray)))
            | none =>
              if fn.name.endsWith ".init" && !fn.name.startsWith "(" && !fn.name.startsWith "gosem." then pure (.value (.tuple #[]))
              else unsupported (.extern fn.name)
          else pure (.enter f ((c.args.toList.map a.eval ++ cus).toArray))) := rfl
    have hrun : (callFunc f ((c.args.toList.map a.eval ++ cus).toArray)).run E.P w = .ok (.enter f ((c.args.toList.map a.eval ++ cus).toArray)) w := by
      rw [hcn]
      simp only [Sem.run_bind, run_program, Result.andThen_ok, hf1, hf3, hf2, Option.isNone_some, Bool.false_eq_true, if_false, Sem.run_pure]
    have hargsEq : #[] ++ c.args.map a.eval ++ cus.toArray = (c.args.toList.map a.eval ++ cus).toArray := by
      apply Array.ext'; simp
    simp only [resolve, hx, hfe, Deferred.ofValue, pure_bind, invoke]
    rw [hargsEq, hrun]
    simp only [Oper.upon]
    refine hcall.mono fun e w' hout => ?_
    obtain ⟨u, r, l, g', rfl, hφ, hl, hrep, p1, p2, p3, p4, p5, p6, p7, p8, p9⟩ := hout.out
    obtain ⟨hfr, hk⟩ := hk r l hφ
    show next (a.put o.dst u) w'
    rw [putK_eq] at hk
    obtain ⟨g2, hR, e2⟩ := rel_heap h hwk hfr hl p1 p2 p3 p4 p5 p6 p7 p8 p9
    exact hn _ _ _ _ hk (rel_put hR (RepV.ext e2 _ _ hrep) hd)

end Go.Proofs.YtdfneaponidfgaaDoor.Eng
/- The engine, part Vw: slices of arrays of the call's own. -/
set_option linter.unusedVariables false
set_option linter.unusedSimpArgs false
namespace Go.Proofs.YtdfneaponidfgaaDoor.Eng
open Go

variable {E : Env} {s : St} {a : Act} {w : World} {g : Gh} {T : Tab} {C : Ctr} {q : Bool} {o : Oper} {K : St → Prop}

theorem view_rep (h : Rel E s a w g) {v : V} {u : Value} {vw : Vw} (hv : RepV w g s.hp v u) (hx : viewOf s.hp v = some vw) :
    s.hp vw.id = .arr vw.full vw.e vw.rows ∧ vw.lo + vw.n ≤ vw.rows.length ∧ ∃ A A' c, g.val vw.id = .slice A vw.rows.length c ∧ u = .slice A' vw.n (c - vw.lo) ∧ (c - vw.lo ≠ 0 → A' = A.map (·.add (vw.lo * vw.e))) ∧
      vw.rows.length ≤ c ∧ vw.rows.length ≤ 2 ^ 48 ∧ (vw.full = true → c = vw.rows.length) ∧ (∀ (i : Nat) (r : List D), vw.rows[i]? = some r → r.length = vw.e) ∧ (g.blk vw.id = none → vw.rows = [] ∧ c = 0) ∧
      ∀ b, g.blk vw.id = some b → A = some ⟨b, 0, none⟩ ∧ (∀ o, ¬ g.imm b o) ∧ ∃ us t, w.heap[b]? = some (.cells us t (0, 0)) ∧ c * vw.e ≤ us.size ∧
        ∀ (i : Nat) (r : List D), vw.rows[i]? = some r → ∀ (j : Nat) (x : D), r[j]? = some x → ∃ u, us[i * vw.e + j]? = some u ∧ RepD w g.imm x u := by
  unfold viewOf at hx
  split at hx
  · rename_i id
    split at hx
    · rename_i full e rows hid
      injection hx with hx; subst hx
      simp only [RepV] at hv
      have hob := h.objs id
      rw [hid] at hob
      obtain ⟨A, c, h1, h2⟩ := hob
      exact ⟨hid, by simp, A, A, c, h1, by rw [hv.2.1, h1]; rfl, fun _ => by cases A <;> simp [Addr.add], h2⟩
    · simp at hx
  · rename_i id e lo n
    split at hx
    · rename_i full e' rows hid
      split at hx
      · rename_i hee
        obtain rfl := Nat.eq_of_beq_eq_true hee
        injection hx with hx; subst hx
        simp only [RepV] at hv
        have hob := h.objs id
        rw [hid] at hob
        obtain ⟨A, c, h1, h2⟩ := hob
        obtain ⟨_, _, A1, N, c1, A', q1, q2, q3, q4⟩ := hv
        rw [h1] at q1
        injection q1 with q1 q5 q6
        subst q1; subst q5; subst q6
        exact ⟨hid, q2, A, A', c, h1, q3, q4, h2⟩
      · simp at hx
    · simp at hx
  · simp at hx

theorem view_rows {hp : Nat → Obj} {v : V} {vw : Vw} (hx : viewOf hp v = some vw) : rowsOf hp v = some (vw.e, (vw.rows.drop vw.lo).take vw.n) := by
  unfold viewOf at hx
  split at hx
  · split at hx
    · rename_i hid
      injection hx with hx; subst hx
      simp [rowsOf, hid]
    · simp at hx
  · split at hx
    · rename_i hid
      split at hx
      · rename_i hee
        injection hx with hx; subst hx
        simp only [rowsOf, hid, hee]
      · simp at hx
    · simp at hx
  · simp at hx

theorem arr_size {rows : List (List D)} {e : Nat} {us : Array Value} {p : D → Value → Prop} (hrow : ∀ (i : Nat) (r : List D), rows[i]? = some r → r.length = e)
    (hc : ∀ (i : Nat) (r : List D), rows[i]? = some r → ∀ (j : Nat) (x : D), r[j]? = some x → ∃ u, us[i * e + j]? = some u ∧ p x u) : rows.length * e ≤ us.size := by
  rcases Nat.eq_zero_or_pos e with he | he
  · subst he; simp
  rcases Nat.eq_zero_or_pos rows.length with hr | hr
  · rw [hr]; simp
  have hi : rows.length - 1 < rows.length := by omega
  have hl := hrow _ _ (List.getElem?_eq_getElem hi)
  have hj : e - 1 < rows[rows.length - 1].length := by omega
  obtain ⟨u, hu, _⟩ := hc _ _ (List.getElem?_eq_getElem hi) _ _ (List.getElem?_eq_getElem hj)
  have := (Array.getElem?_eq_some_iff.1 hu).1
  have h2 : rows.length * e = (rows.length - 1) * e + e := by rw [← Nat.succ_mul]; congr 1; omega
  omega

/-- Rows are written into an array of the call's own. -/
theorem rel_splice (h : Rel E s a w g) {vw : Vw} {b : Nat} {us : Array Value} {tt : TypeId} (hid : s.hp vw.id = .arr vw.full vw.e vw.rows) (hb : g.blk vw.id = some b) (hheap : w.heap[b]? = some (.cells us tt (0, 0)))
    {at_ : Nat} {rows2 : List (List D)} {news : List Value} (hl : news.length = rows2.length * vw.e) (hfit : at_ + rows2.length ≤ vw.rows.length)
    (hnews : ∀ (i : Nat) r, rows2[i]? = some r → r.length = vw.e ∧ ∀ (j : Nat) x, r[j]? = some x → ∃ y, news[i * vw.e + j]? = some y ∧ RepD w g.imm x y) :
    at_ * vw.e + news.length ≤ us.size ∧ Rel E ⟨s.sl, upd s.hp vw.id (vw.splice at_ rows2)⟩ a (w.setRow b (us.toList.take (at_ * vw.e) ++ news ++ us.toList.drop (at_ * vw.e + news.length)).toArray) g := by
  have hob := h.objs vw.id
  rw [hid] at hob
  obtain ⟨A, c, h1, h2, h3, h4, h5, h6, h7⟩ := hob
  obtain ⟨h8, h9, us', t, h10, hcz, h11⟩ := h7 b hb
  rw [hheap] at h10
  injection h10 with h10
  injection h10 with h10 h12
  subst h10; subst h12
  have hsz := arr_size h5 h11
  have hle : at_ * vw.e + news.length ≤ us.size := by
    have : (at_ + rows2.length) * vw.e ≤ vw.rows.length * vw.e := Nat.mul_le_mul_right _ hfit
    rw [hl, ← Nat.add_mul]; omega
  refine ⟨hle, ?_⟩
  have hlen : (vw.rows.take at_ ++ rows2 ++ vw.rows.drop (at_ + rows2.length)).length = vw.rows.length := by simp; omega
  have htk : (us.toList.take (at_ * vw.e)).length = at_ * vw.e := by simp; omega
  refine rel_write h (by rw [hid]; rfl) rfl (by intro e n hh; simp [Vw.splice] at hh) hb (by simp) (fun b' hb' => setRow_other w b b' _ hb') h9 (fun e' => ?_)
  have hcell : ∀ (i : Nat) r, (vw.rows.take at_ ++ rows2 ++ vw.rows.drop (at_ + rows2.length))[i]? = some r → r.length = vw.e ∧ ∀ (j : Nat) x, r[j]? = some x →
      ∃ u, ((us.toList.take (at_ * vw.e) ++ news ++ us.toList.drop (at_ * vw.e + news.length)).toArray)[i * vw.e + j]? = some u ∧ RepD w g.imm x u := by
    intro i r hi
    simp only [List.getElem?_toArray]
    have htr : (vw.rows.take at_).length = at_ := by simp; omega
    rcases Nat.lt_or_ge i at_ with hi1 | hi1
    · rw [List.append_assoc, List.getElem?_append_left (by omega), List.getElem?_take, if_pos hi1] at hi
      refine ⟨h5 i r hi, fun j x hj => ?_⟩
      obtain ⟨u, hu, hr⟩ := h11 i r hi j x hj
      have hjl : j < vw.e := by have := (List.getElem?_eq_some_iff.1 hj).1; have := h5 i r hi; omega
      have hlt : i * vw.e + j < at_ * vw.e := by
        have : i * vw.e + vw.e ≤ at_ * vw.e := by rw [← Nat.succ_mul]; exact Nat.mul_le_mul_right _ hi1
        omega
      refine ⟨u, ?_, hr⟩
      rw [List.append_assoc, List.getElem?_append_left (by omega), List.getElem?_take, if_pos hlt, Array.getElem?_toList]
      exact hu
    · rw [List.append_assoc, List.getElem?_append_right (by omega), htr] at hi
      rcases Nat.lt_or_ge (i - at_) rows2.length with hi2 | hi2
      · rw [List.getElem?_append_left hi2] at hi
        obtain ⟨q1, q2⟩ := hnews _ r hi
        refine ⟨q1, fun j x hj => ?_⟩
        obtain ⟨u, hu, hr⟩ := q2 j x hj
        have hjl := (List.getElem?_eq_some_iff.1 hu).1
        have hmul : i * vw.e = at_ * vw.e + (i - at_) * vw.e := by rw [← Nat.add_mul]; congr 1; omega
        refine ⟨u, ?_, hr⟩
        rw [List.append_assoc, List.getElem?_append_right (by rw [htk]; omega), List.getElem?_append_left (by rw [htk]; omega), htk]
        rw [show i * vw.e + j - at_ * vw.e = (i - at_) * vw.e + j by omega]
        exact hu
      · rw [List.getElem?_append_right hi2, List.getElem?_drop] at hi
        rw [show at_ + rows2.length + (i - at_ - rows2.length) = i by omega] at hi
        refine ⟨h5 i r hi, fun j x hj => ?_⟩
        obtain ⟨u, hu, hr⟩ := h11 i r hi j x hj
        have hmul : at_ * vw.e + news.length ≤ i * vw.e := by rw [hl, ← Nat.add_mul]; exact Nat.mul_le_mul_right _ (by omega)
        refine ⟨u, ?_, hr⟩
        rw [List.getElem?_append_right (by simp only [List.length_append, htk]; omega), List.getElem?_drop, Array.getElem?_toList]
        simp only [List.length_append, htk]
        rw [show at_ * vw.e + news.length + (i * vw.e + j - (at_ * vw.e + news.length)) = i * vw.e + j by omega]
        exact hu
  refine ⟨A, c, by rw [hlen]; exact h1, by rw [hlen]; exact h2, by rw [hlen]; exact h3, by rw [hlen]; exact h4, fun i r hi => (hcell i r hi).1, fun hn => by rw [hb] at hn; simp at hn, fun b' hb' => ?_⟩
  rw [hb] at hb'
  injection hb' with hb'
  subst hb'
  refine ⟨h8, h9, _, tt, setRow_heap w b us _ tt _ hheap, by simp; omega, fun i r hi j x hj => ?_⟩
  obtain ⟨u, hu, hr⟩ := (hcell i r hi).2 j x hj
  exact ⟨u, hu, hr.ext e'.ext⟩

theorem splice_nil (vw : Vw) (at_ : Nat) : vw.splice at_ [] = .arr vw.full vw.e vw.rows := by
  simp [Vw.splice]
theorem upd_self (hp : Nat → Obj) {id : Nat} {ob : Obj} (h : hp id = ob) : upd hp id ob = hp := by
  funext i
  rw [upd_eq]
  split
  · rename_i hi; subst hi; exact h.symm
  · rfl

section runs
variable {P : Program} {t ty e : TypeId} {i : TypeInfo}
theorem run_firstCells_n {w' : World} (hh : w'.heap = w.heap) {A : Option Addr} {m k c size : Nat} {news : List Value} (hl : news.length = m * size)
    (hA : news ≠ [] → ∃ b off, A = some ⟨b, off, none⟩ ∧ ∀ (j : Nat) x, news[j]? = some x → w.cell? ⟨b, off + j, none⟩ = some x) :
    (Builtin.firstCells size m (.slice A k c)).run P w' = .ok news.toArray w' := by
  have := run_firstCells_row (P := P) hh (c := c) hl hA
  cases A <;> exact this
theorem run_copy_rows (ht : P.underlying t = some (.slice e)) (hi : P.info? e = some i) {t2 : TypeId} {b off dLen dCap : Nat} {cur : Array Value} {tt : TypeId} (hg : w.heap[b]? = some (.cells cur tt (0, 0)))
    {A : Option Addr} {m c : Nat} {news : List Value} (hl : news.length = Nat.min m dLen * i.size) (hA : news ≠ [] → ∃ b off, A = some ⟨b, off, none⟩ ∧ ∀ (j : Nat) x, news[j]? = some x → w.cell? ⟨b, off + j, none⟩ = some x)
    (h1 : ∀ u ∈ news, u.oneCell' = true) (hfit : off + news.length ≤ cur.size) :
    (Builtin.copy_ #[t, t2] ty #[.slice (some ⟨b, off, none⟩) dLen dCap, .slice A m c]).run P w =
      .ok (goInt (Nat.min m dLen)) (w.setRow b (cur.toList.take off ++ news ++ cur.toList.drop (off + news.length)).toArray) := by
  have hf := run_firstCells_n (P := P) (w := w) (w' := w) rfl (A := A) (m := Nat.min m dLen) (k := m) (c := c) (size := i.size) hl hA
  have hst := run_storeCells_at P b off tt news 0 cur w hg (by simpa using hfit) h1
  simp only [Nat.add_zero] at hst
  simp [Builtin.copy_, run_underlying ht, sizeOf, typeInfo, hi, Builtin.lenOf, hf, hst]
theorem run_copy_zero (ht : P.underlying t = some (.slice e)) (hi : P.info? e = some i) {t2 : TypeId} {B : Option Addr} {dLen dCap : Nat} {A : Option Addr} {m c : Nat} (h0 : Nat.min m dLen = 0) (w : World) :
    (Builtin.copy_ #[t, t2] ty #[.slice B dLen dCap, .slice A m c]).run P w = .ok (goInt 0) w := by
  have hf := run_firstCells_n (P := P) (w := w) (w' := w) rfl (A := A) (m := 0) (k := m) (c := c) (size := i.size) (news := []) (by simp) (by simp)
  cases B with
  | none => simp [Builtin.copy_, run_underlying ht, sizeOf, typeInfo, hi, Builtin.lenOf, h0, hf]
  | some b => simp [Builtin.copy_, run_underlying ht, sizeOf, typeInfo, hi, Builtin.lenOf, h0, hf, storeCells]
theorem run_clear_rows (ht : P.underlying t = some (.slice e)) (hi : P.info? e = some i) {z : Value} (hz : i.zero = some z) {b off n c : Nat} {cur : Array Value} {tt : TypeId} (hg : w.heap[b]? = some (.cells cur tt (0, 0)))
    (h1 : ∀ u ∈ (Builtin.zeroCells z.cells n).toList, u.oneCell' = true) (hfit : off + (Builtin.zeroCells z.cells n).toList.length ≤ cur.size) (hn : n ≠ 0) :
    (Builtin.clear_ #[t] ty #[.slice (some ⟨b, off, none⟩) n c]).run P w =
      .ok (.tuple #[]) (w.setRow b (cur.toList.take off ++ (Builtin.zeroCells z.cells n).toList ++ cur.toList.drop (off + (Builtin.zeroCells z.cells n).toList.length)).toArray) := by
  have hst := run_storeCells_at P b off tt (Builtin.zeroCells z.cells n).toList 0 cur w hg (by simpa using hfit) h1
  simp only [Nat.add_zero] at hst
  obtain ⟨m, rfl⟩ : ∃ m, n = m + 1 := ⟨n - 1, by omega⟩
  simp only [Builtin.clear_, zeroValue, typeInfo]
  simp only [Array.size_singleton, List.getElem?_toArray, List.getElem?_cons_zero, Sem.run_bind, run_underlying ht, Result.andThen_ok, hi, hz]
  simp [run_underlying ht, hi, hz, hst, typeInfo]
theorem run_clear_zero (ht : P.underlying t = some (.slice e)) {B : Option Addr} {c : Nat} (w : World) :
    (Builtin.clear_ #[t] ty #[.slice B 0 c]).run P w = .ok (.tuple #[]) w := by
  cases B <;> simp [Builtin.clear_, run_underlying ht]
end runs

theorem zero_rows {n e : Nat} {ez : List D} {zc : Array Value} (he : e ≠ 0) (hzc : zc.size = e) (hez : ez.length = e) (hz : zerosB ez zc.toList = true) (w : World) (imm : Imm) :
    (Builtin.zeroCells zc n).toList.length = (List.replicate n ez).length * e ∧
    (∀ (i : Nat) r, (List.replicate n ez)[i]? = some r → r.length = e ∧ ∀ (j : Nat) x, r[j]? = some x → ∃ y, (Builtin.zeroCells zc n).toList[i * e + j]? = some y ∧ RepD w imm x y) ∧
    ∀ u ∈ (Builtin.zeroCells zc n).toList, u.oneCell' = true := by
  have hzr := zerosB_reps w (gh0 imm) (fun _ => .none) _ _ hz
  have hget : ∀ k, k < n * e → ∃ hk : k % e < zc.size, (Builtin.zeroCells zc n).toList[k]? = some zc[k % e] := by
    intro k hk
    have hm : k % e < e := Nat.mod_lt _ (by omega)
    refine ⟨by omega, ?_⟩
    simp only [Builtin.zeroCells, Array.getElem?_toList, Array.getElem?_map, hzc, Array.getElem?_range, hk, if_true, Option.map_some, getElem!_pos zc (k % e) (by omega)]
  have hrep : ∀ j x, ez[j]? = some x → ∃ hj : j < zc.size, RepD w imm x zc[j] := by
    intro j x hj
    obtain ⟨u, hu, hr⟩ := hzr.get (i := j) (c := .d x) (by rw [List.getElem?_map, hj]; rfl)
    rw [Array.getElem?_toList] at hu
    obtain ⟨hjz, hu⟩ := Array.getElem?_eq_some_iff.1 hu
    exact ⟨hjz, by rw [hu]; simpa only [RepV, gh0] using hr⟩
  refine ⟨by simp [Builtin.zeroCells, hzc], fun i r hi => ?_, fun u hu => ?_⟩
  · rw [List.getElem?_replicate] at hi
    split at hi
    · rename_i hin
      injection hi with hi; subst hi
      refine ⟨hez, fun j x hj => ?_⟩
      have hjl := (List.getElem?_eq_some_iff.1 hj).1
      have hlt : i * e + j < n * e := by
        have : i * e + e ≤ n * e := by rw [← Nat.succ_mul]; exact Nat.mul_le_mul_right _ hin
        omega
      obtain ⟨hk, hg⟩ := hget _ hlt
      have hmod : (i * e + j) % e = j := by rw [Nat.mul_comm, Nat.mul_add_mod]; exact Nat.mod_eq_of_lt (by omega)
      obtain ⟨hjz, hr⟩ := hrep j x hj
      refine ⟨_, hg, ?_⟩
      simp only [hmod]
      exact hr
    · simp at hi
  · obtain ⟨k, hk, rfl⟩ := List.getElem_of_mem hu
    have hk' : k < n * e := by simpa [Builtin.zeroCells, hzc] using hk
    obtain ⟨hm, hg⟩ := hget k hk'
    rw [List.getElem?_eq_getElem hk] at hg
    injection hg with hg
    rw [hg]
    have hlt : k % e < ez.length := by omega
    obtain ⟨_, hr⟩ := hrep (k % e) _ (List.getElem?_eq_getElem hlt)
    exact RepV.one (g := gh0 imm) (hp := fun _ => .none) (v := .d ez[k % e]) (by simp only [RepV, gh0]; exact hr) rfl

/-- A new array of the call's own. -/
theorem sound_newarr {d : Nat} (hdst : o.dst = some d) (h : Rel E s a w g) (hd : ∀ d, o.dst = some d → d < E.nt) (hnone : s.hp d = .none) {rows : List (List D)} {e cap : Nat} {cells : Array Value} {et : TypeId}
    (hrun : (execOp a.eval o).run E.P w = .ok (.value (.slice (some ⟨w.heap.size, 0, none⟩) rows.length cap)) (w.drew.alloc (.cells cells et))) (hge : rows.length ≤ cap) (hcz : cap * e ≤ cells.size) (hn : rows.length ≤ 2 ^ 47)
    (hrows : ∀ (i : Nat) (r : List D), rows[i]? = some r → r.length = e ∧ ∀ (j : Nat) (x : D), r[j]? = some x → ∃ u, cells[i * e + j]? = some u ∧ RepD w g.imm x u)
    (hk : K ⟨upd s.sl d (.own d), upd s.hp d (.arr false e rows)⟩) : OpOk E o a w K := by
  obtain ⟨hR, hE⟩ := rel_fresh (ob := .arr false e rows) (g' := ⟨g.imm, upd g.blk d (some w.heap.size), upd g.val d (.slice (some ⟨w.heap.size, 0, none⟩) rows.length cap)⟩)
    (w' := w.drew.alloc (.cells cells et)) h hnone rfl (by simp) (fun b hb => heap_alloc_lt w.drew _ hb)
    (fun _ _ h => h) (fun b o hi => .inl hi)
    (fun b o hi => by have := h.bound b o hi; simp; omega)
    (fun i hi => upd_ne _ _ hi) (fun i hi => upd_ne _ _ hi) (fun b hb => by simp only [upd_same, Option.some.injEq] at hb; omega)
    (fun e' => ⟨some ⟨w.heap.size, 0, none⟩, cap, by simp [upd_same], hge, by omega, by simp, fun i r hi => (hrows i r hi).1, fun hn => by simp [upd_same] at hn, fun b hb => by
      simp only [upd_same, Option.some.injEq] at hb
      subst hb
      refine ⟨rfl, fun o hi => by have := h.bound _ _ hi; omega, cells, et, heap_alloc_new w.drew _, hcz, fun i r hi j x hj => ?_⟩
      obtain ⟨u, hu, hr⟩ := (hrows i r hi).2 j x hj
      exact ⟨u, hu, hr.ext e'.ext⟩⟩)
  refine op_value (u := .slice (some ⟨w.heap.size, 0, none⟩) rows.length cap) (w' := w.drew.alloc (.cells cells et)) hrun hk (g' := ⟨g.imm, upd g.blk d (some w.heap.size), upd g.val d (.slice (some ⟨w.heap.size, 0, none⟩) rows.length cap)⟩) ?_
  rw [hdst]
  refine rel_put (dst := some d) hR ?_ (by rintro d' ⟨⟩; exact hd d hdst)
  simp only [RepV, upd_same]
  exact ⟨by first | rfl | trivial, by first | rfl | trivial, by simp, _, _, _, rfl⟩

end Go.Proofs.YtdfneaponidfgaaDoor.Eng
/- The engine, part Vx: operations on slices of arrays of the call's own are sound. -/
set_option linter.unusedVariables false
set_option linter.unusedSimpArgs false
namespace Go.Proofs.YtdfneaponidfgaaDoor.Eng
open Go

variable {E : Env} {s : St} {a : Act} {w : World} {g : Gh} {T : Tab} {C : Ctr} {q : Bool} {o : Oper} {K : St → Prop}

theorem sound_vwSlice {t : TypeId} {x : Operand} {lo hi mx : Option Operand} {l hh m : Option Int} {ti : TI} (ho : o.op = .slice t x lo hi mx) (hT : TIok E.P t ti) (h : Rel E s a w g) (hd : ∀ d, o.dst = some d → d < E.nt)
    {v : Vw} (hx : viewOf s.hp (ev E.glob s x) = some v) (h1 : optInt E.glob s lo = some l) (h2 : optInt E.glob s hi = some hh) (h3 : optInt E.glob s mx = some m) (hg : ti.slc = true) (he : v.e = ti.esz)
    (hk : vwCut v l hh m fun L H => putK s o.dst (.view v.id v.e (v.lo + L) (H - L)) K) : OpOk E o a w K := by
  obtain ⟨hu, hz, ie, hi1, hi2, _⟩ := hT.slc hg
  have hsz : (sizeOf ti.elem).run E.P w = .ok ti.esz w := by unfold sizeOf typeInfo; simp [hi1, hi2]
  obtain ⟨hid, hfit, A, A', c, hval, hue, hA', hc, hn, hf, hrow, hnb, hb⟩ := view_rep h (rel_ev h x) hx
  have key : ∀ (L H M : Nat), (m = none ∨ hh ≠ none) → M = (m.getD ((c - v.lo : Nat) : Int)).toNat → M = c - v.lo → H = (hh.getD (v.n : Int)).toNat → L = (l.getD 0).toNat →
      (∀ x, l = some x → 0 ≤ x) → (∀ x, hh = some x → 0 ≤ x) → (∀ x, m = some x → 0 ≤ x) → L ≤ H → v.lo + H ≤ v.rows.length →
      putK s o.dst (.view v.id v.e (v.lo + L) (H - L)) K → OpOk E o a w K := by
    intro L H M q1 q2 q2' q3 q4 q5 q6 q7 q8 q9 hk
    have hbd := run_bounds (P := E.P) h h1 h2 h3 true v.n (c - v.lo) q1 L H M q2 q3 q4 q5 q6 q7 q8 (by omega) (by omega)
    refine op_put h hd (u := .slice (if M = L then A' else A'.map (·.add (L * ti.esz))) (H - L) (M - L)) ?_ ?_ hk
    · unfold execOp
      rw [ho]
      simp only [Instr.sliceAt, hue, Sem.run_bind, run_underlying hu, Result.andThen_ok, Instr.slice, hbd, hsz, Sem.run_pure]
    · simp only [RepV]
      refine ⟨by rw [hid]; rfl, by rw [hid]; simp, A, _, c, _, hval, by omega, by rw [show M - L = c - (v.lo + L) by omega], fun hne => ?_⟩
      rw [if_neg (by omega), hA' (by omega), he]
      cases A with
      | none => rfl
      | some ad => simp only [Option.map_some, Addr.add_add, Nat.add_mul]
  unfold vwCut at hk
  split at hk
  · obtain ⟨a1, a2, a3, hk⟩ := hk
    refine key (l.getD 0).toNat (hh.getD (v.n : Int)).toNat (c - v.lo) (.inl rfl) (by simp) rfl rfl rfl (fun x hx => by subst hx; simpa using a1) (fun x hx => by subst hx; simp only [Option.getD_some] at a2; omega) (by simp) (by omega) a3 hk
  · rename_i mm
    split at hk
    · rename_i hh' hfull
      obtain ⟨a0, a0', a1, a2, a3, hk⟩ := hk
      have hcf := hf hfull
      refine key (l.getD 0).toNat hh'.toNat (c - v.lo) (.inr (by simp)) (by simp only [Option.getD_some]; omega) rfl (by simp) rfl (fun x hx => by subst hx; simpa using a1) (fun x hx => by injection hx with hx; subst hx; omega) (fun x hx => by injection hx with hx; subst hx; omega) (by omega) a3 hk
    · exact hk.elim

section runs
variable {P : Program} {t ty e : TypeId} {i : TypeInfo}
theorem run_app_room_at (ht : P.underlying t = some (.slice e)) (hi : P.info? e = some i) {b off sLen sCap : Nat} {cur : Array Value} {tt : TypeId} (hg : w.heap[b]? = some (.cells cur tt (0, 0)))
    {A : Option Addr} {m c : Nat} {news : List Value} (hl : news.length = m * i.size) (hA : news ≠ [] → ∃ b off, A = some ⟨b, off, none⟩ ∧ ∀ (j : Nat) x, news[j]? = some x → w.cell? ⟨b, off + j, none⟩ = some x)
    (h1 : ∀ u ∈ news, u.oneCell' = true) (hroom : sLen + m ≤ sCap) (hfit : off + sLen * i.size + news.length ≤ cur.size) :
    (Builtin.append_ #[t, t] ty #[.slice (some ⟨b, off, none⟩) sLen sCap, .slice A m c]).run P w =
      .ok (.slice (some ⟨b, off, none⟩) (sLen + m) sCap) (w.setRow b (cur.toList.take (off + sLen * i.size) ++ news ++ cur.toList.drop (off + sLen * i.size + news.length)).toArray) := by
  have hf := run_firstCells_row (P := P) (w := w) (w' := w) rfl (A := A) (m := m) (c := c) (size := i.size) hl hA
  have hst := run_storeCells_at P b (off + sLen * i.size) tt news 0 cur w hg (by simpa using hfit) h1
  simp only [Nat.add_zero] at hst
  simp [Builtin.append_, run_underlying ht, sizeOf, typeInfo, hi, Builtin.lenOf, hroom, hf, Addr.add_lit, hst]
end runs

/-- The block of a view that has room. -/
theorem view_room (h : Rel E s a w g) {u : Value} {x : V} {v : Vw} (hv : RepV w g s.hp x u) (hx : viewOf s.hp x = some v) {k : Nat} (hk : 0 < k) (hfit : v.lo + k ≤ v.rows.length) :
    ∃ b c us tt, g.blk v.id = some b ∧ w.heap[b]? = some (.cells us tt (0, 0)) ∧ u = .slice (some ⟨b, v.lo * v.e, none⟩) v.n (c - v.lo) ∧ v.rows.length ≤ c ∧ g.val v.id = .slice (some ⟨b, 0, none⟩) v.rows.length c := by
  obtain ⟨hid, _, A, A', c, hval, hue, hA', hc, hn, hf, hrow, hnb, hb⟩ := view_rep h hv hx
  cases hblk : g.blk v.id with
  | none => have := (hnb hblk).1; rw [this] at hfit; simp at hfit; omega
  | some b =>
    obtain ⟨q1, _, us, tt, q3, _, _⟩ := hb b hblk
    refine ⟨b, c, us, tt, rfl, q3, ?_, hc, by rw [hval, q1]⟩
    rw [hue, hA' (by omega), q1]
    simp [Addr.add_lit]

/-- An append onto a slice that has room, in place. -/
theorem sound_vwRoom {c : Call} {x y : Operand} {t : TypeId} {d : Nat} {ti : TI} (ho : o.op = .call c) (hb : c.callee = .builtin .append) (hx : c.args.toList = [x, y]) (ht : c.argTypes.toList = [t, t]) (hdst : o.dst = some d)
    (hT : TIok E.P t ti) (hg : ti.slc = true) (h : Rel E s a w g) (hd : ∀ d, o.dst = some d → d < E.nt) {v : Vw} {rows2 : List (List D)}
    (hxe : viewOf s.hp (ev E.glob s x) = some v) (he : v.e = ti.esz) (hy : rowsOf s.hp (ev E.glob s y) = some (ti.esz, rows2)) (hroom : v.lo + v.n + rows2.length ≤ v.rows.length)
    (hk : K ⟨upd s.sl d (.view v.id v.e v.lo (v.n + rows2.length)), upd s.hp v.id (v.splice (v.lo + v.n) rows2)⟩) : OpOk E o a w K := by
  obtain ⟨hu, hz, ie, hi, hsz, hby, z, hz1, hz2, hzc⟩ := hT.slc hg
  obtain ⟨ha1, ha2⟩ := append_args (a := a) hx ht
  obtain ⟨cs, hex⟩ := exec_builtin (o := o) (a := a) ho hb
  rw [ha1, ha2] at hex
  obtain ⟨A2, c2, news2, e2, _, _, l2, p2, r2, o2⟩ := rows_cells hz h.objs (rel_ev h y) hy
  by_cases hm : rows2.length = 0
  · have hr2 : rows2 = [] := List.length_eq_zero_iff.1 hm
    subst hr2
    obtain ⟨hid, hfit, A, A', c0, hval, hue, hA', hc, _⟩ := view_rep h (rel_ev h x) hxe
    have hrun := run_app_keep (P := E.P) (ty := o.type) hu hi (B := A') (n := v.n) (c := c0 - v.lo) (A := A2) (k := c2) (by omega) w
    rw [splice_nil, upd_self s.hp hid] at hk
    refine op_value (u := a.eval x) (w' := w) (g' := g) ?_ hk ?_
    · rw [hex, e2, hue]
      simp only [builtin, List.length_nil, hrun, Sem.run_bind, Result.andThen_ok, Sem.run_pure]
    · rw [hdst]
      refine rel_put (dst := some d) h ?_ (by rintro d' ⟨⟩; exact hd d hdst)
      simp only [RepV, List.length_nil, Nat.add_zero]
      exact ⟨by rw [hid]; rfl, by rw [hid]; simp, A, _, c0, A', hval, hfit, hue, hA'⟩
  · obtain ⟨b, c0, us, tt, hblk, hheap, hue, hc0, hval⟩ := view_room h (rel_ev h x) hxe (k := v.n + rows2.length) (by omega) (by omega)
    have hid := (view_rep h (rel_ev h x) hxe).1
    obtain ⟨hsize, hR⟩ := rel_splice h hid hblk hheap (at_ := v.lo + v.n) (rows2 := rows2) (news := news2) (by rw [l2, he]) hroom (by rw [he]; exact r2)
    have hat : v.lo * v.e + v.n * ti.esz = (v.lo + v.n) * v.e := by rw [← he, Nat.add_mul]
    have hrun := run_app_room_at (P := E.P) (ty := o.type) (w := w) hu hi hheap (off := v.lo * v.e) (sLen := v.n) (sCap := c0 - v.lo) (A := A2) (m := rows2.length) (c := c2) (news := news2) (by rw [l2, hsz]) (fun hne => p2 (by rintro rfl; simp at hm)) o2 (by omega)
      (by rw [hsz, hat]; exact hsize)
    rw [hsz, hat] at hrun
    refine op_value (u := .slice (some ⟨b, v.lo * v.e, none⟩) (v.n + rows2.length) (c0 - v.lo)) (w' := w.setRow b (us.toList.take ((v.lo + v.n) * v.e) ++ news2 ++ us.toList.drop ((v.lo + v.n) * v.e + news2.length)).toArray) (g' := g) ?_ hk ?_
    · rw [hex, e2, hue]
      simp only [builtin, hrun, Sem.run_bind, Result.andThen_ok, Sem.run_pure]
    · rw [hdst]
      refine rel_put (dst := some d) hR ?_ (by rintro d' ⟨⟩; exact hd d hdst)
      simp only [RepV, upd_same, Vw.splice]
      exact ⟨rfl, by simp, some ⟨b, 0, none⟩, _, c0, _, hval, by omega, rfl, fun _ => by simp [Addr.add_lit]⟩

/-- Rows behind rows, in a new row of cells. -/
theorem rows_behind {rows1 rows2 : List (List D)} {e : Nat} {news1 news2 : List Value} {tail : Array Value} {w : World} {imm : Imm} (l1 : news1.length = rows1.length * e)
    (r1 : ∀ (i : Nat) r, rows1[i]? = some r → r.length = e ∧ ∀ (j : Nat) x, r[j]? = some x → ∃ y, news1[i * e + j]? = some y ∧ RepD w imm x y)
    (r2 : ∀ (i : Nat) r, rows2[i]? = some r → r.length = e ∧ ∀ (j : Nat) x, r[j]? = some x → ∃ y, news2[i * e + j]? = some y ∧ RepD w imm x y) :
    ∀ (i : Nat) (r : List D), (rows1 ++ rows2)[i]? = some r → r.length = e ∧ ∀ (j : Nat) (x : D), r[j]? = some x →
        ∃ u, (news1.toArray ++ news2.toArray ++ tail)[i * e + j]? = some u ∧ RepD w imm x u := by
  intro i r hi
  rcases Nat.lt_or_ge i rows1.length with hlt | hge'
  · rw [List.getElem?_append_left hlt] at hi
    obtain ⟨q1, q2⟩ := r1 i r hi
    refine ⟨q1, fun j x hj => ?_⟩
    obtain ⟨u, hu1, hu2⟩ := q2 j x hj
    refine ⟨u, ?_, hu2⟩
    have hb := (List.getElem?_eq_some_iff.1 hu1).1
    rw [Array.append_assoc, Array.getElem?_append_left (by simpa using hb)]
    simpa using hu1
  · rw [List.getElem?_append_right hge'] at hi
    obtain ⟨q1, q2⟩ := r2 _ r hi
    refine ⟨q1, fun j x hj => ?_⟩
    obtain ⟨u, hu1, hu2⟩ := q2 j x hj
    refine ⟨u, ?_, hu2⟩
    have hb := (List.getElem?_eq_some_iff.1 hu1).1
    have hmul : i * e = rows1.length * e + (i - rows1.length) * e := by rw [← Nat.add_mul]; congr 1; omega
    rw [Array.append_assoc, Array.getElem?_append_right (by simp; omega), Array.getElem?_append_left (by simp; omega)]
    rw [show i * e + j - news1.toArray.size = (i - rows1.length) * e + j by simp; omega]
    simpa using hu1

/-- An append onto a slice that has no room: a new array of the call's own. -/
theorem sound_vwGrow {c : Call} {x y : Operand} {t ty' : TypeId} {d : Nat} {ti : TI} (ho : o.op = .call c) (hb : c.callee = .builtin .append) (hx : c.args.toList = [x, y]) (ht : c.argTypes.toList = [t, ty']) (hdst : o.dst = some d)
    (hTs : ∀ {t ti}, T.get t = some ti → TIok E.P t ti) (hti : T.get t = some ti) (hg : ti.slc = true) (h : Rel E s a w g) (hd : ∀ d, o.dst = some d → d < E.nt) {v : Vw} {rows2 : List (List D)} (hnone : s.hp d = .none)
    (hxe : viewOf s.hp (ev E.glob s x) = some v) (he : v.e = ti.esz) (hy : newRows T s.hp ti t ty' (ev E.glob s y) = some rows2) (hf : v.full = true) (hroom : v.rows.length < v.lo + v.n + rows2.length) (hlo : v.lo ≤ v.rows.length)
    (hb1 : (v.n + rows2.length) * ti.ebytes ≤ 2 ^ 47) (hb2 : v.n + rows2.length ≤ 2 ^ 47)
    (hk : K ⟨upd s.sl d (.own d), upd s.hp d (.arr false v.e ((v.rows.drop v.lo).take v.n ++ rows2))⟩) : OpOk E o a w K := by
  have hT := hTs hti
  obtain ⟨hu, hz, ie, hi, hsz, hby, z, hz1, hz2, hzc⟩ := hT.slc hg
  have ha1 : c.args.map a.eval = #[a.eval x, a.eval y] := Array.ext' (by simp [hx])
  have ha2 : c.argTypes = #[t, ty'] := Array.ext' (by simp [ht])
  obtain ⟨cs, hex⟩ := exec_builtin (o := o) (a := a) ho hb
  rw [ha1, ha2] at hex
  obtain ⟨hid, hfit, A, A', c0, hval, hue, hA', hc, hn, hfull, hrow, hnb, hbb⟩ := view_rep h (rel_ev h x) hxe
  have hc0 := hfull hf
  have hlen : ((v.rows.drop v.lo).take v.n).length = v.n := by simp; omega
  obtain ⟨A1, c1, news1, e1, hc1, hn1, l1, p1, r1, o1⟩ := rows_cells hz h.objs (rel_ev h x) (by rw [view_rows hxe, he])
  rw [hlen] at e1 l1
  rw [hue] at e1
  injection e1 with q1 _ q2
  subst q1
  have hge := grownCap_ge w (v.n + rows2.length) (c0 - v.lo) ti.elem
  have hlen2 : ((v.rows.drop v.lo).take v.n ++ rows2).length = v.n + rows2.length := by rw [List.length_append, hlen]
  have hp1 : news1 ≠ [] → ∃ b off, A' = some ⟨b, off, none⟩ ∧ ∀ (j : Nat) x, news1[j]? = some x → w.cell? ⟨b, off + j, none⟩ = some x := fun hne => p1 (by
    intro h0
    rw [h0] at hlen
    simp at hlen
    rw [← hlen] at l1
    simp at l1
    exact hne l1)
  have fin : ∀ (news2 : List Value) (tail : Array Value), news2.length = rows2.length * ti.esz → tail.size = (grownCap w (v.n + rows2.length) (c0 - v.lo) ti.elem - (v.n + rows2.length)) * ti.esz → (∀ (i : Nat) r, rows2[i]? = some r → r.length = ti.esz ∧ ∀ (j : Nat) x, r[j]? = some x → ∃ y, news2[i * ti.esz + j]? = some y ∧ RepD w g.imm x y) →
      (Builtin.append_ #[t, ty'] o.type #[.slice A' v.n (c0 - v.lo), a.eval y]).run E.P w = .ok (.slice (some ⟨w.heap.size, 0, none⟩) (v.n + rows2.length) (grownCap w (v.n + rows2.length) (c0 - v.lo) ti.elem))
        (w.drew.alloc (.cells (news1.toArray ++ news2.toArray ++ tail) ti.elem)) → OpOk E o a w K := by
    intro news2 tail hl2 htl r2 hrun
    refine sound_newarr hdst h hd hnone (rows := (v.rows.drop v.lo).take v.n ++ rows2) (e := v.e) (cap := grownCap w (v.n + rows2.length) (c0 - v.lo) ti.elem) (cells := news1.toArray ++ news2.toArray ++ tail) (et := ti.elem) ?_ (by rw [hlen2]; exact hge) (by simp only [Array.size_append, List.size_toArray, hl2, htl, l1, he, ← Nat.add_mul]; exact Nat.mul_le_mul_right _ (by omega)) (by rw [hlen2]; exact hb2) ?_ hk
    · rw [hex, hue, hlen2]
      simp only [builtin, hrun, Sem.run_bind, Result.andThen_ok, Sem.run_pure]
    · rw [he]
      exact rows_behind (by rw [hlen]; exact l1) r1 r2
  unfold newRows at hy
  split at hy
  · rename_i kq m hye
    split at hy
    · rename_i tj htj
      split at hy
      · rename_i kn hkn
        injection hy with hy; subst hy
        simp only [List.length_replicate] at *
        have hvy := rel_ev h y
        rw [hye] at hvy
        have hyv := repV_int hvy
        have hm : 0 < m.toNat := by omega
        have hmm : ((m.toNat : Nat) : Int) = m := by omega
        have hez : ti.ezero.length = ti.esz := by
          have := (zerosB_reps w g s.hp _ _ hz2).len
          simp at this; omega
        obtain ⟨z1, z2, _⟩ := zero_rows (n := m.toNat) (e := ti.esz) hz hzc hez hz2 w g.imm
        have hfo := run_firstCells_row (P := E.P) (w := w) (w' := w.drew) rfl (A := A') (m := v.n) (c := c0 - v.lo) (size := ie.size) (news := news1) (by rw [l1, hsz]) hp1
        have hfits := growslice_fits (old := c0 - v.lo) (need := v.n + m.toNat) (bytes := ie.bytes) (by omega) (by rw [hby]; exact hb1)
        have hk48 : m.toNat * ie.bytes ≤ 281474976710656 := by
          have : m.toNat * ie.bytes ≤ (v.n + m.toNat) * ie.bytes := Nat.mul_le_mul_right _ (by omega)
          rw [hby] at this ⊢; omega
        have hrun := Lib.run_append_grow_zeros (P := E.P) w t ty' o.type ti.elem ie z kq kn hu ((hTs htj).kind _ hkn) hi hz1 A' v.n (c0 - v.lo) news1 hfo m.toNat hm (by rw [hsz]; omega) (by omega) (by omega) hk48 hfits
        rw [hmm] at hrun
        refine fin (Builtin.zeroCells z.cells m.toNat).toList (Builtin.zeroCells z.cells (grownCap w (v.n + m.toNat) (c0 - v.lo) ti.elem - (v.n + m.toNat))) (by rw [z1, List.length_replicate]) (by rw [size_zeroCells, hzc]) z2 ?_
        rw [hyv, hrun]
      · simp at hy
    · simp at hy
  · split at hy
    · rename_i e rows heq hrows
      obtain rfl := Nat.eq_of_beq_eq_true heq
      split at hy
      · rename_i hee
        obtain rfl := Nat.eq_of_beq_eq_true hee
        injection hy with hy; subst hy
        obtain ⟨A2, c2, news2, e2, _, _, l2, p2, r2, o2⟩ := rows_cells hz h.objs (rel_ev h y) hrows
        refine fin news2 (Builtin.zeroCells z.cells (grownCap w (v.n + rows.length) (c0 - v.lo) ti.elem - (v.n + rows.length))) l2 (by rw [size_zeroCells, hzc]) r2 ?_
        rw [e2]
        exact run_app_grow (P := E.P) (ty := o.type) (w := w) hu hi hz1 (B := A') (sLen := v.n) (sCap := c0 - v.lo) (olds := news1) (by rw [l1, hsz]) hp1
          (A := A2) (m := rows.length) (c := c2) (news := news2) (by rw [l2, hsz]) (fun hne => p2 (by rintro rfl; simp at l2; exact hne l2)) (by omega) hb2 (by rw [hby]; exact hb1)
      · simp at hy
    · simp at hy

/-- An array goes on under another number, and in another world. -/
theorem rel_move (h : Rel E s a w g) {id d : Nat} {full : Bool} {e : Nat} {rows : List (List D)} (hid : s.hp id = .arr full e rows) (hnone : s.hp d = .none) {ob : Obj} (hl : ob.live = true) {w' : World} {v' : Value} (hsz : w'.heap.size = w.heap.size)
    (hheap : ∀ b', (∀ b, g.blk id = some b → b' ≠ b) → w'.heap[b']? = w.heap[b']?) (hno : ∀ b o, g.blk id = some b → ¬ g.imm b o) (hio : SameIO w w')
    (hob : Ext w g.imm w' g.imm → ObjRep w' ⟨g.imm, upd g.blk d (g.blk id), upd g.val d v'⟩ (upd (upd s.hp id .dead) d ob) d ob) :
    Rel E ⟨s.sl, upd (upd s.hp id .dead) d ob⟩ a w' ⟨g.imm, upd g.blk d (g.blk id), upd g.val d v'⟩ := by
  have hne : ∀ i, (s.hp i).used = true → i ≠ d := by rintro i hi rfl; rw [hnone] at hi; simp [Obj.used] at hi
  have hp2e : ∀ i, upd (upd s.hp id .dead) d ob i = if i = d then ob else if i = id then .dead else s.hp i := fun i => by simp only [upd_eq]
  have hext : Ext w g.imm w' g.imm := ⟨fun _ _ h => h, fun b o hi => cell_heap (hheap b (fun b' hb' e => by subst e; exact hno _ _ hb' hi)) o⟩
  have e : GExt w g s.hp w' ⟨g.imm, upd g.blk d (g.blk id), upd g.val d v'⟩ (upd (upd s.hp id .dead) d ob) := by
    refine ⟨hext, fun i hi => ?_, fun i hi _ => upd_ne _ _ (hne i hi), fun i hi _ => upd_ne _ _ (hne i hi), fun i hi hgr => ?_, fun i ee n hi hgr => ?_⟩
    · rw [hp2e, if_neg (hne i hi)]; split
      · rfl
      · exact hi
    · rw [hp2e, if_neg (hne i hi)]; split
      · simp
      · exact hgr
    · rw [hp2e, if_neg (hne i hi)] at hgr
      split at hgr
      · simp at hgr
      · exact ⟨n, hgr, Nat.le_refl _, fun _ => upd_ne _ _ (hne i hi)⟩
  have hlv : ∀ i, (upd (upd s.hp id .dead) d ob i).live = true → i ≠ d → (s.hp i).live = true ∧ i ≠ id := fun i hi hid => by
    rw [hp2e, if_neg hid] at hi
    split at hi
    · simp [Obj.live] at hi
    · exact ⟨hi, by assumption⟩
  have hidl : (s.hp id).live = true := by rw [hid]; rfl
  refine ⟨fun t => RepV.ext e _ _ (h.slots t), fun i => ?_, fun i j b hij hi hj hb => ?_, fun b o hi => by rw [hsz]; exact h.bound b o hi, fun k => RepP.ext hext (h.globs k), fun i b hi hb => ?_, fun b hb hn => ?_, by rw [hsz]; exact h.size, h.start.trans hext, h.fresh, h.nt, h.defers, h.old.trans e, h.io.trans hio⟩
  · show ObjRep w' _ _ i (upd (upd s.hp id .dead) d ob i)
    by_cases hd : i = d
    · subst hd
      rw [hp2e, if_pos rfl]
      exact hob hext
    · rw [hp2e, if_neg hd]
      split
      · trivial
      · rename_i hii
        cases hlive : (s.hp i).live with
        | true => exact ObjRep.ext e hlive (upd_ne _ _ hd) (upd_ne _ _ hd) (fun b hb => hheap b (fun b2 hb2 e2 => by subst e2; exact h.dist i id b hii hlive hidl hb hb2)) (fun _ _ _ h => h) (h.objs i)
        | false => cases hh : s.hp i <;> simp_all [Obj.live, ObjRep]
  · have hb2 : upd g.blk d (g.blk id) i = some b := hb
    show upd g.blk d (g.blk id) j ≠ some b
    by_cases hid : i = d
    · subst hid
      have hjd : j ≠ i := fun e => hij e.symm
      obtain ⟨q1, q2⟩ := hlv j hj hjd
      rw [upd_same] at hb2
      rw [upd_ne _ _ hjd]
      exact h.dist id j b (fun e => q2 e.symm) hidl q1 hb2
    · obtain ⟨p1, p2⟩ := hlv i hi hid
      rw [upd_ne _ _ hid] at hb2
      by_cases hjd : j = d
      · subst hjd
        rw [upd_same]
        exact h.dist i id b p2 p1 hidl hb2
      · obtain ⟨q1, q2⟩ := hlv j hj hjd
        rw [upd_ne _ _ hjd]
        exact h.dist i j b hij p1 q1 hb2
  · have hb : upd g.blk d (g.blk id) i = some b := hb
    by_cases hid : i = d
    · subst hid
      rw [upd_same] at hb
      exact h.low id b hidl hb
    · rw [upd_ne _ _ hid] at hb
      exact h.low i b (hlv i hi hid).1 hb
  · rw [hheap b (fun b2 hb2 e2 => by
      subst e2
      rcases h.low id b hidl hb2 with h' | h'
      · omega
      · exact hn h')]
    exact h.frame b hb hn

/-- An object is forgotten. -/
theorem rel_drop (h : Rel E s a w g) {id : Nat} (hus : (s.hp id).used = true) (hng : ∀ e n, s.hp id ≠ .grow e n) : Rel E ⟨s.sl, upd s.hp id .dead⟩ a w g := by
  have hlv : ∀ i, (upd s.hp id .dead i).live = true → (s.hp i).live = true := fun i hi => by
    rw [upd_eq] at hi
    split at hi
    · simp [Obj.live] at hi
    · exact hi
  have e : GExt w g s.hp w g (upd s.hp id .dead) := by
    refine ⟨Ext.refl _ _, fun i hi => ?_, fun _ _ _ => rfl, fun _ _ _ => rfl, fun i hi hgr => ?_, fun i ee n hi hgr => ?_⟩
    · rw [upd_eq]; split
      · rfl
      · exact hi
    · rw [upd_eq]; split
      · simp
      · exact hgr
    · rw [upd_eq] at hgr; split at hgr
      · simp at hgr
      · exact ⟨n, hgr, Nat.le_refl _, fun _ => rfl⟩
  refine ⟨fun t => RepV.ext e _ _ (h.slots t), fun i => ?_, fun i j b hij hi hj => h.dist i j b hij (hlv i hi) (hlv j hj), h.bound, h.globs, fun i b hi => h.low i b (hlv i hi), h.frame, h.size, h.start, h.fresh, h.nt, h.defers, h.old.trans e, h.io⟩
  show ObjRep w g _ i (upd s.hp id .dead i)
  rw [upd_eq]
  split
  · trivial
  · cases hlive : (s.hp i).live with
    | true => exact ObjRep.ext e hlive rfl rfl (fun _ _ => rfl) (fun _ _ _ h => h) (h.objs i)
    | false => cases hh : s.hp i <;> simp_all [Obj.live, ObjRep]

/-- An append onto an array that may have room: it goes on under another number. -/
theorem sound_vwMove {c : Call} {x y : Operand} {t : TypeId} {d d2 : Nat} {ti : TI} (ho : o.op = .call c) (hb : c.callee = .builtin .append) (hx : c.args.toList = [x, y]) (ht : c.argTypes.toList = [t, t]) (hdst : o.dst = some d)
    (hT : TIok E.P t ti) (hg : ti.slc = true) (h : Rel E s a w g) (hd : ∀ d, o.dst = some d → d < E.nt) {v : Vw} {rows2 : List (List D)} (hnone : s.hp d2 = .none) {id : Nat}
    (hxo : ev E.glob s x = .own id) (hxe : viewOf s.hp (ev E.glob s x) = some v) (he : v.e = ti.esz) (hy : rowsOf s.hp (ev E.glob s y) = some (ti.esz, rows2))
    (hb1 : (v.n + rows2.length) * ti.ebytes ≤ 2 ^ 47) (hb2 : v.n + rows2.length ≤ 2 ^ 47)
    (hk : K ⟨upd s.sl d (.own d2), upd (upd s.hp v.id .dead) d2 (.arr false v.e (v.rows ++ rows2))⟩) : OpOk E o a w K := by
  obtain ⟨hu, hz, ie, hi, hsz, hby, z, hz1, hz2, hzc⟩ := hT.slc hg
  obtain ⟨ha1, ha2⟩ := append_args (a := a) hx ht
  obtain ⟨cs, hex⟩ := exec_builtin (o := o) (a := a) ho hb
  rw [ha1, ha2] at hex
  obtain ⟨A2, c2, news2, e2, _, _, l2, p2, r2, o2⟩ := rows_cells hz h.objs (rel_ev h y) hy
  obtain ⟨A1, c1, news1, e1, hc1, hn1, l1, p1, r1, o1⟩ := rows_cells hz h.objs (rel_ev h x) (by rw [view_rows hxe, he])
  have hxv := rel_ev h x
  rw [hxo] at hxv hxe
  simp only [RepV] at hxv
  obtain ⟨_, hue, _, _⟩ := hxv
  have hv : s.hp v.id = .arr v.full v.e v.rows ∧ v.lo = 0 ∧ v.n = v.rows.length ∧ v.id = id := by
    unfold viewOf at hxe
    simp only at hxe
    split at hxe
    · rename_i hid; injection hxe with hxe; subst hxe; exact ⟨hid, rfl, rfl, rfl⟩
    · simp at hxe
  obtain ⟨hid, hlo, hvn, hvid⟩ := hv
  have hob := h.objs v.id
  rw [hid] at hob
  obtain ⟨A, c, hval, hc, hn, hf, hrow, hnb, hbb⟩ := hob
  rw [← hvid, hval] at hue
  have hrows : (v.rows.drop v.lo).take v.n = v.rows := by rw [hlo, hvn]; simp
  rw [hrows] at e1 l1 p1 r1
  rw [hue] at e1
  injection e1 with q1 _ q2
  subst q1; subst q2
  have hd2 : d2 ≠ v.id := by rintro rfl; rw [hid] at hnone; simp at hnone
  have hlen : (v.rows ++ rows2).length = v.rows.length + rows2.length := List.length_append
  rw [hvn] at hb1 hb2
  have fin : ∀ (w' : World) (g2 : Gh), (∃ A c, g2.val d2 = .slice A (v.rows.length + rows2.length) c) → (Builtin.append_ #[t, t] o.type #[a.eval x, a.eval y]).run E.P w = .ok (g2.val d2) w' →
      Rel E ⟨s.sl, upd (upd s.hp v.id .dead) d2 (.arr false v.e (v.rows ++ rows2))⟩ a w' g2 → OpOk E o a w K := by
    rintro w' g2 ⟨A3, c3, hv'⟩ hrun hR
    refine op_value (u := g2.val d2) (w' := w') ?_ hk (g' := g2) ?_
    · rw [hex]
      simp only [builtin, hrun, Sem.run_bind, Result.andThen_ok, Sem.run_pure]
    · rw [hdst]
      refine rel_put (dst := some d) hR ?_ (by rintro d' ⟨⟩; exact hd d hdst)
      simp only [RepV, upd_same]
      exact ⟨by first | rfl | trivial, by first | rfl | trivial, by simp, A3, _, c3, hv'⟩
  by_cases hm : rows2.length = 0
  · have hr2 : rows2 = [] := List.length_eq_zero_iff.1 hm
    subst hr2
    have hrun := run_app_keep (P := E.P) (ty := o.type) hu hi (B := A) (n := v.rows.length) (c := c) (A := A2) (k := c2) hc w
    refine fin w ⟨g.imm, upd g.blk d2 (g.blk v.id), upd g.val d2 (.slice A v.rows.length c)⟩ ⟨A, c, by simp [upd_same]⟩ (by rw [hue, e2]; simp only [upd_same]; exact hrun) (rel_move h hid hnone rfl rfl (fun _ _ => rfl) (fun b o hb => (hbb b hb).2.1 o) ⟨rfl, rfl⟩ fun e' => ?_)
    rw [List.append_nil]
    exact ⟨A, c, by simp [upd_same], hc, hn, by simp, hrow, fun hb => by simp only [upd_same] at hb; exact hnb hb, fun b hb => by simp only [upd_same] at hb; exact hbb b hb⟩
  by_cases hroom : v.rows.length + rows2.length ≤ c
  · cases hblk : g.blk v.id with
    | none => have := (hnb hblk).2; omega
    | some b =>
      obtain ⟨hA, hno, us, tt, hheap, hcz, hcell⟩ := hbb b hblk
      subst hA
      have hfit : v.rows.length * v.e + news2.length ≤ us.size := by
        have : (v.rows.length + rows2.length) * v.e ≤ c * v.e := Nat.mul_le_mul_right _ hroom
        rw [Nat.add_mul] at this
        rw [l2, ← he]; omega
      have hrun := run_app_room (P := E.P) (ty := o.type) (w := w) hu hi hheap (sLen := v.rows.length) (sCap := c) (A := A2) (m := rows2.length) (c := c2) (news := news2) (by rw [l2, hsz]) (fun hne => p2 (by rintro rfl; simp at hm)) o2 hroom (by rw [hsz, ← he]; exact hfit)
      rw [hsz, ← he] at hrun
      refine fin _ ⟨g.imm, upd g.blk d2 (g.blk v.id), upd g.val d2 (.slice (some ⟨b, 0, none⟩) (v.rows.length + rows2.length) c)⟩ ⟨some ⟨b, 0, none⟩, c, by simp only [upd_same]⟩ (by rw [hue, e2]; simp only [upd_same]; exact hrun)
        (rel_move h hid hnone rfl (w' := w.setRow b (us.toList.take (v.rows.length * v.e) ++ news2 ++ us.toList.drop (v.rows.length * v.e + news2.length)).toArray) (by simp) (fun b' hb' => setRow_other w b b' _ (hb' b hblk)) (fun b' o hb' => (hbb b' hb').2.1 o) ⟨rfl, rfl⟩ fun e' => ?_)
      refine ⟨some ⟨b, 0, none⟩, c, by simp only [upd_same, hlen], by rw [hlen]; exact hroom, by rw [hlen]; omega, by simp, fun i r hi => ?_, fun hb => by simp only [upd_same, hblk] at hb; simp at hb, fun b' hb' => ?_⟩
      · rcases Nat.lt_or_ge i v.rows.length with hlt | hge
        · rw [List.getElem?_append_left hlt] at hi; exact hrow i r hi
        · rw [List.getElem?_append_right hge] at hi; rw [he]; exact (r2 _ r hi).1
      · simp only [upd_same, hblk, Option.some.injEq] at hb'
        subst hb'
        refine ⟨rfl, hno, _, tt, setRow_heap w b us _ tt _ hheap, by simp; omega, fun i r hi j x hj => ?_⟩
        simp only [List.getElem?_toArray]
        have htk : (us.toList.take (v.rows.length * v.e)).length = v.rows.length * v.e := by simp; omega
        rcases Nat.lt_or_ge i v.rows.length with hlt | hge
        · rw [List.getElem?_append_left hlt] at hi
          obtain ⟨u, hu, hr⟩ := hcell i r hi j x hj
          have hjl : j < v.e := by have := (List.getElem?_eq_some_iff.1 hj).1; have := hrow i r hi; omega
          have hk2 : i * v.e + j < v.rows.length * v.e := by
            have : i * v.e + v.e ≤ v.rows.length * v.e := by rw [← Nat.succ_mul]; exact Nat.mul_le_mul_right _ hlt
            omega
          refine ⟨u, ?_, hr.ext e'⟩
          rw [List.append_assoc, List.getElem?_append_left (by omega), List.getElem?_take, if_pos hk2, Array.getElem?_toList]
          exact hu
        · rw [List.getElem?_append_right hge] at hi
          obtain ⟨q1, q2⟩ := r2 _ r hi
          obtain ⟨u, hu1, hr⟩ := q2 j x hj
          have hjl := (List.getElem?_eq_some_iff.1 hu1).1
          have hmul : i * v.e = v.rows.length * v.e + (i - v.rows.length) * v.e := by rw [← Nat.add_mul]; congr 1; omega
          rw [← he] at hu1 hjl
          refine ⟨u, ?_, hr.ext e'⟩
          rw [List.append_assoc, List.getElem?_append_right (by rw [htk]; omega), List.getElem?_append_left (by rw [htk]; omega), htk]
          rw [show i * v.e + j - v.rows.length * v.e = (i - v.rows.length) * v.e + j by omega]
          exact hu1
  · have hge := grownCap_ge w (v.rows.length + rows2.length) c ti.elem
    have hrun := run_app_grow (P := E.P) (ty := o.type) (w := w) hu hi hz1 (B := A) (sLen := v.rows.length) (sCap := c) (olds := news1) (by rw [l1, hsz]) (fun hne => p1 (by rintro h0; rw [h0] at l1; simp at l1; exact hne l1))
      (A := A2) (m := rows2.length) (c := c2) (news := news2) (by rw [l2, hsz]) (fun hne => p2 (by rintro rfl; simp at hm)) (by omega) hb2 (by rw [hby]; exact hb1)
    have hcsz : (news1.toArray ++ news2.toArray ++ Builtin.zeroCells z.cells (grownCap w (v.rows.length + rows2.length) c ti.elem - (v.rows.length + rows2.length))).size = grownCap w (v.rows.length + rows2.length) c ti.elem * ti.esz := by
      simp only [Array.size_append, List.size_toArray, size_zeroCells, hzc, l1, l2, ← Nat.add_mul]
      congr 1
      omega
    have hcells := rows_behind (tail := Builtin.zeroCells z.cells (grownCap w (v.rows.length + rows2.length) c ti.elem - (v.rows.length + rows2.length))) l1 r1 r2
    generalize (news1.toArray ++ news2.toArray ++ Builtin.zeroCells z.cells (grownCap w (v.rows.length + rows2.length) c ti.elem - (v.rows.length + rows2.length))) = cells at hrun hcsz hcells
    generalize grownCap w (v.rows.length + rows2.length) c ti.elem = cap at *
    obtain ⟨hR, hE⟩ := rel_fresh (ob := .arr false v.e (v.rows ++ rows2)) (g' := ⟨g.imm, upd g.blk d2 (some w.heap.size), upd g.val d2 (.slice (some ⟨w.heap.size, 0, none⟩) (v.rows.length + rows2.length) cap)⟩)
      (w' := w.drew.alloc (.cells cells ti.elem)) h hnone rfl (by simp) (fun b hb => heap_alloc_lt w.drew _ hb)
      (fun _ _ h => h) (fun b o hi => .inl hi)
      (fun b o hi => by have := h.bound b o hi; simp; omega)
      (fun i hi => upd_ne _ _ hi) (fun i hi => upd_ne _ _ hi) (fun b hb => by simp only [upd_same, Option.some.injEq] at hb; omega)
      (fun e' => ⟨some ⟨w.heap.size, 0, none⟩, cap, by simp only [upd_same, hlen], by rw [hlen]; exact hge, by rw [hlen]; omega, by simp, fun i r hi => by rw [he]; exact (hcells i r hi).1, fun hn => by simp [upd_same] at hn, fun b hb => by
        simp only [upd_same, Option.some.injEq] at hb
        subst hb
        refine ⟨rfl, fun o hi => by have := h.bound _ _ hi; omega, cells, ti.elem, heap_alloc_new w.drew _, by rw [he, hcsz]; exact Nat.le_refl _, fun i r hi j x hj => ?_⟩
        obtain ⟨u, hu, hr⟩ := (hcells i r hi).2 j x hj
        exact ⟨u, by rw [he]; exact hu, hr.ext e'.ext⟩⟩)
    have hR2 := rel_drop (id := v.id) hR (by show (upd s.hp d2 _ v.id).used = true; rw [upd_ne _ _ (fun e => hd2 e.symm), hid]; rfl) (by show ∀ e n, upd s.hp d2 _ v.id ≠ _; rw [upd_ne _ _ (fun e => hd2 e.symm), hid]; simp)
    have hcomm : upd (upd s.hp d2 (.arr false v.e (v.rows ++ rows2))) v.id .dead = upd (upd s.hp v.id .dead) d2 (.arr false v.e (v.rows ++ rows2)) := upd_comm _ _ _ hd2
    refine fin (w.drew.alloc (.cells cells ti.elem)) ⟨g.imm, upd g.blk d2 (some w.heap.size), upd g.val d2 (.slice (some ⟨w.heap.size, 0, none⟩) (v.rows.length + rows2.length) cap)⟩ ⟨some ⟨w.heap.size, 0, none⟩, cap, by simp only [upd_same]⟩ (by rw [hue, e2]; simp only [upd_same]; exact hrun) ?_
    rw [← hcomm]
    exact hR2

theorem sound_vwCap {c : Call} {x : Operand} {t : TypeId} {ts : List TypeId} {ti : TI} (ho : o.op = .call c) (hb : c.callee = .builtin .cap) (hx : c.args.toList = [x]) (ht : c.argTypes.toList = t :: ts)
    (hT : TIok E.P t ti) (hg : ti.slc = true) (h : Rel E s a w g) (hd : ∀ d, o.dst = some d → d < E.nt) {v : Vw} (hxe : viewOf s.hp (ev E.glob s x) = some v) (hf : v.full = true) (hlo : v.lo ≤ v.rows.length)
    (hk : putK s o.dst (.d (.int .i64 (v.rows.length - v.lo))) K) : OpOk E o a w K := by
  have ha : c.args.map a.eval = #[a.eval x] := by
    apply Array.ext'
    simp [hx]
  have h0 : c.argTypes[0]? = some t := by rw [← Array.getElem?_toList, ht]; rfl
  obtain ⟨cs, hex⟩ := exec_builtin (o := o) (a := a) ho hb
  rw [ha] at hex
  obtain ⟨hid, hfit, A, A', c0, hval, hue, hA', hc, hn, hfull, _⟩ := view_rep h (rel_ev h x) hxe
  have hc0 := hfull hf
  refine op_put h hd (u := .int .i64 (v.rows.length - v.lo)) ?_ (repV_mkint _ _ _) hk
  rw [hex, hue]
  have : ((c0 - v.lo : Nat) : Int) = (v.rows.length : Int) - v.lo := by omega
  simp [builtin, Builtin.cap_, h0, run_underlying (hT.slc hg).1, goInt, this]

theorem sound_vwCopy {c : Call} {x y : Operand} {t t2 : TypeId} {ti : TI} (ho : o.op = .call c) (hb : c.callee = .builtin .copy) (hx : c.args.toList = [x, y]) (ht : c.argTypes.toList = [t, t2])
    (hT : TIok E.P t ti) (hg : ti.slc = true) (h : Rel E s a w g) (hd : ∀ d, o.dst = some d → d < E.nt) {v : Vw} {rows2 : List (List D)}
    (hxe : viewOf s.hp (ev E.glob s x) = some v) (he : v.e = ti.esz) (hy : rowsOf s.hp (ev E.glob s y) = some (ti.esz, rows2))
    (hk : putK ⟨s.sl, upd s.hp v.id (v.splice v.lo (rows2.take v.n))⟩ o.dst .undef K) : OpOk E o a w K := by
  obtain ⟨hu, hz, ie, hi, hsz, hby, z, hz1, hz2, hzc⟩ := hT.slc hg
  have ha1 : c.args.map a.eval = #[a.eval x, a.eval y] := Array.ext' (by simp [hx])
  have ha2 : c.argTypes = #[t, t2] := Array.ext' (by simp [ht])
  obtain ⟨cs, hex⟩ := exec_builtin (o := o) (a := a) ho hb
  rw [ha1, ha2] at hex
  rw [putK_eq] at hk
  obtain ⟨A2, c2, news2, e2, _, _, l2, p2, r2, o2⟩ := rows_cells hz h.objs (rel_ev h y) hy
  obtain ⟨hid, hfit, A, A', c0, hval, hue, hA', hc, _⟩ := view_rep h (rel_ev h x) hxe
  by_cases hm : Nat.min rows2.length v.n = 0
  · have hr2 : rows2.take v.n = [] := List.length_eq_zero_iff.1 (by rw [List.length_take]; rw [Nat.min_comm]; exact hm)
    rw [hr2, splice_nil, upd_self s.hp hid] at hk
    have hrun := run_copy_zero (P := E.P) (ty := o.type) hu hi (t2 := t2) (B := A') (dLen := v.n) (dCap := c0 - v.lo) (A := A2) (m := rows2.length) (c := c2) hm w
    refine op_value (u := goInt 0) (w' := w) (g' := g) ?_ hk ?_
    · rw [hex, e2, hue]
      simp only [builtin, hrun, Sem.run_bind, Result.andThen_ok, Sem.run_pure]
    · exact rel_put h (by simp [RepV]) hd
  · have hmin : Nat.min rows2.length v.n ≤ v.n := Nat.min_le_right _ _
    have hmin2 : Nat.min rows2.length v.n ≤ rows2.length := Nat.min_le_left _ _
    have hlt : (rows2.take v.n).length = Nat.min rows2.length v.n := by rw [List.length_take]; exact Nat.min_comm _ _
    obtain ⟨b, c1, us, tt, hblk, hheap, hue, hc1, hval⟩ := view_room h (rel_ev h x) hxe (k := v.n) (by omega) hfit
    have hln : (news2.take (Nat.min rows2.length v.n * ti.esz)).length = Nat.min rows2.length v.n * ti.esz := by
      rw [List.length_take, l2]
      exact Nat.min_eq_left (Nat.mul_le_mul_right _ hmin2)
    have hcells : ∀ (i : Nat) r, (rows2.take v.n)[i]? = some r → r.length = v.e ∧ ∀ (j : Nat) x, r[j]? = some x → ∃ y, (news2.take (Nat.min rows2.length v.n * ti.esz))[i * v.e + j]? = some y ∧ RepD w g.imm x y := by
      intro i r hir
      have hil := (List.getElem?_eq_some_iff.1 hir).1
      rw [hlt] at hil
      rw [List.getElem?_take, if_pos (by omega)] at hir
      obtain ⟨q1, q2⟩ := r2 i r hir
      refine ⟨by rw [he]; exact q1, fun j x hj => ?_⟩
      obtain ⟨y, hy1, hy2⟩ := q2 j x hj
      have hjl := (List.getElem?_eq_some_iff.1 hj).1
      have : i * ti.esz + ti.esz ≤ Nat.min rows2.length v.n * ti.esz := by rw [← Nat.succ_mul]; exact Nat.mul_le_mul_right _ hil
      refine ⟨y, ?_, hy2⟩
      rw [he, List.getElem?_take, if_pos (by omega)]
      exact hy1
    obtain ⟨hsize, hR⟩ := rel_splice h hid hblk hheap (at_ := v.lo) (rows2 := rows2.take v.n) (news := news2.take (Nat.min rows2.length v.n * ti.esz)) (by rw [hln, hlt, he]) (by rw [hlt]; omega) hcells
    have hrun := run_copy_rows (P := E.P) (ty := o.type) (w := w) hu hi (t2 := t2) (off := v.lo * v.e) (dLen := v.n) (dCap := c1 - v.lo) hheap (A := A2) (m := rows2.length) (c := c2) (news := news2.take (Nat.min rows2.length v.n * ti.esz)) (by rw [hln, hsz])
      (fun hne => by
        obtain ⟨b', off', hA2, hcc⟩ := p2 (by rintro rfl; simp at hm)
        refine ⟨b', off', hA2, fun j x hj => hcc j x ?_⟩
        rw [List.getElem?_take] at hj
        split at hj
        · exact hj
        · simp at hj) (fun u hu => o2 u (List.mem_of_mem_take hu)) hsize
    refine op_value (u := goInt (Nat.min rows2.length v.n)) (w' := w.setRow b (us.toList.take (v.lo * v.e) ++ news2.take (Nat.min rows2.length v.n * ti.esz) ++ us.toList.drop (v.lo * v.e + (news2.take (Nat.min rows2.length v.n * ti.esz)).length)).toArray) (g' := g) ?_ hk ?_
    · rw [hex, e2, hue]
      simp only [builtin, hrun, Sem.run_bind, Result.andThen_ok, Sem.run_pure]
    · exact rel_put hR (by simp [RepV]) hd

theorem sound_vwClear {c : Call} {x : Operand} {t : TypeId} {ti : TI} (ho : o.op = .call c) (hb : c.callee = .builtin .clear) (hx : c.args.toList = [x]) (ht : c.argTypes.toList = [t])
    (hT : TIok E.P t ti) (hg : ti.slc = true) (h : Rel E s a w g) (hd : ∀ d, o.dst = some d → d < E.nt) {v : Vw}
    (hxe : viewOf s.hp (ev E.glob s x) = some v) (he : v.e = ti.esz)
    (hk : putK ⟨s.sl, upd s.hp v.id (v.splice v.lo (List.replicate v.n ti.ezero))⟩ o.dst .undef K) : OpOk E o a w K := by
  obtain ⟨hu, hz, ie, hi, hsz, hby, z, hz1, hz2, hzc⟩ := hT.slc hg
  have ha1 : c.args.map a.eval = #[a.eval x] := Array.ext' (by simp [hx])
  have ha2 : c.argTypes = #[t] := Array.ext' (by simp [ht])
  obtain ⟨cs, hex⟩ := exec_builtin (o := o) (a := a) ho hb
  rw [ha1, ha2] at hex
  rw [putK_eq] at hk
  obtain ⟨hid, hfit, A, A', c0, hval, hue, hA', hc, _⟩ := view_rep h (rel_ev h x) hxe
  by_cases hm : v.n = 0
  · rw [hm, List.replicate_zero, splice_nil, upd_self s.hp hid] at hk
    have hrun := run_clear_zero (P := E.P) (ty := o.type) hu (B := A') (c := c0 - v.lo) w
    refine op_value (u := .tuple #[]) (w' := w) (g' := g) ?_ hk ?_
    · rw [hex, hue, hm]
      simp only [builtin, hrun, Sem.run_bind, Result.andThen_ok, Sem.run_pure]
    · exact rel_put h (by simp [RepV]) hd
  · obtain ⟨b, c1, us, tt, hblk, hheap, hue, hc1, hval⟩ := view_room h (rel_ev h x) hxe (k := v.n) (by omega) hfit
    have hez : ti.ezero.length = ti.esz := by
      have := (zerosB_reps w g s.hp _ _ hz2).len
      simp at this; omega
    obtain ⟨z1, z2, z3⟩ := zero_rows (n := v.n) (e := ti.esz) hz hzc hez hz2 w g.imm
    obtain ⟨hsize, hR⟩ := rel_splice h hid hblk hheap (at_ := v.lo) (rows2 := List.replicate v.n ti.ezero) (news := (Builtin.zeroCells z.cells v.n).toList) (by rw [z1, he]) (by rw [List.length_replicate]; exact hfit) (by rw [he]; exact z2)
    have hrun := run_clear_rows (P := E.P) (ty := o.type) (w := w) hu hi hz1 (off := v.lo * v.e) (n := v.n) (c := c1 - v.lo) hheap z3 hsize hm
    refine op_value (u := .tuple #[]) (w' := w.setRow b (us.toList.take (v.lo * v.e) ++ (Builtin.zeroCells z.cells v.n).toList ++ us.toList.drop (v.lo * v.e + (Builtin.zeroCells z.cells v.n).toList.length)).toArray) (g' := g) ?_ hk ?_
    · rw [hex, hue]
      simp only [builtin, hrun, Sem.run_bind, Result.andThen_ok, Sem.run_pure]
    · exact rel_put hR (by simp [RepV]) hd

theorem foldl_push8 : ∀ (l : List UInt8) (ns : List Int) (b : ByteArray), ns.map (fun n => UInt8.ofNat n.toNat) = l → ns.foldl (fun r n => r.push (UInt8.ofNat n.toNat)) b = ⟨(b.data.toList ++ l).toArray⟩
  | _, [], b, h => by simp at h; subst h; simp
  | l, n :: ns, b, h => by
    simp only [List.map_cons] at h
    subst h
    simp only [List.foldl_cons]
    rw [foldl_push8 _ ns _ rfl]
    congr 1
    apply Array.ext'
    simp [ByteArray.push]
theorem u8s_rows : ∀ {rows : List (List D)} {l : List UInt8}, u8s rows = some l → ∃ ns : List Int, rows = ns.map (fun n => [.int .u8 n]) ∧ ns.map (fun n => UInt8.ofNat n.toNat) = l
  | [], l, h => by simp [u8s] at h; subst h; exact ⟨[], rfl, rfl⟩
  | r :: rows, l, h => by
    unfold u8s at h
    split at h
    · rename_i h0; simp at h0
    · rename_i n r' h0
      split at h
      · rename_i l' hl
        injection h0 with h1 h2
        subst h1; subst h2
        injection h with h; subst h
        obtain ⟨ns, h3, h4⟩ := u8s_rows hl
        exact ⟨n :: ns, by simp [h3], by simp [h4]⟩
      · simp at h
    · simp at h
theorem sound_bytesStr {src dst : TypeId} {x : Operand} {ti si te : TI} (ho : o.op = .convert src dst x) (hT : ∀ {t ti}, T.get t = some ti → TIok E.P t ti) (h1 : T.get dst = some ti) (h2 : T.get src = some si) (h3 : T.get si.elem = some te)
    (h : Rel E s a w g) (hd : ∀ d, o.dst = some d → d < E.nt) (g1 : ti.str = true) (g2 : si.slc = true) (g3 : te.kind = some .u8) (he : si.esz = 1) {rows : List (List D)} {l : List UInt8} (hr : rowsOf s.hp (ev E.glob s x) = some (1, rows)) (hl : u8s rows = some l)
    (hk : putK s o.dst (.d (.str ⟨l.toArray⟩)) K) : OpOk E o a w K := by
  have hex : execOp a.eval o = (do pure (.value (← convert src dst (a.eval x)))) := by unfold execOp; rw [ho]
  obtain ⟨A, c, news, e1, _, _, l1, p1, r1, _⟩ := rows_cells (by decide) h.objs (rel_ev h x) hr
  obtain ⟨ns, rfl, hns⟩ := u8s_rows hl
  refine op_put h hd (u := .string ⟨l.toArray⟩) ?_ (repV_mkstr _ _) hk
  rw [hex, e1]
  have hsl := ((hT h2).slc g2).1
  have hu8 := (hT h3).kind _ g3
  have hstr := (hT h1).str g1
  have hcv : (convert src dst (.slice A (ns.map fun n => ([D.int .u8 n] : List D)).length c)).run E.P w = .ok (.string ⟨l.toArray⟩) w := by
    cases A with
    | none =>
      have hn : ns = [] := by
        apply Classical.byContradiction
        intro hne
        obtain ⟨b, off, hb, _⟩ := p1 (by simpa using hne)
        simp at hb
      subst hn
      simp at hns
      subst hns
      simp [convert, run_underlying hsl, run_underlying hstr, run_underlying hu8, Conv.bytesToString]
      rfl
    | some ad =>
      have hcell : ∀ j n, ns[j]? = some n → w.cell? (ad.add j) = some (.int .u8 n) := fun j n hj => by
        have hrow : (ns.map fun n => ([D.int .u8 n] : List D))[j]? = some [.int .u8 n] := by rw [List.getElem?_map, hj]; rfl
        obtain ⟨y, hy, hrep⟩ := (r1 j _ hrow).2 0 _ rfl
        obtain ⟨b, off, hb, hcc⟩ := p1 (by rintro h0; rw [h0] at hrow; simp at hrow)
        injection hb with hb
        subst hb
        have := hcc _ y hy
        rw [Nat.mul_one, Nat.add_zero] at this
        rw [Addr.add_lit, this]
        cases hrep
        rfl
      have hld := run_loadCells_list (P := E.P) (w := w) ad (ns.map (Value.int .u8)) (fun j v hj => by
        rw [List.getElem?_map] at hj
        cases hn : ns[j]? with
        | none => rw [hn] at hj; simp at hj
        | some n => rw [hn] at hj; simp at hj; subst hj; exact hcell j n hn)
      rw [List.length_map] at hld
      have hbs := run_bytesToString (P := E.P) w ad ns.length c ns hld
      rw [foldl_push8 l ns _ hns] at hbs
      rw [List.length_map, run_convert_bytes_string w src dst si.elem _ _ _ hsl hu8 hstr, hbs]
      rfl
  simp only [Sem.run_bind, hcv, Result.andThen_ok, Sem.run_pure]

theorem altK_some {hp : Nat → Obj} {d : Nat} {K : Nat → Prop} (h : altK hp d K) : ∃ d2, K d2 := by
  unfold altK at h
  split at h
  · exact ⟨_, h⟩
  · exact ⟨_, h⟩

theorem aVw_sound (hT : ∀ {t ti}, T.get t = some ti → TIok E.P t ti) (h : Rel E s a w g) (hd : ∀ d, o.dst = some d → d < E.nt) (hk : aVw T E.glob C q o s K) : OpOk E o a w K := by
  unfold aVw at hk
  split at hk
  · rename_i t x lo hi mx ho
    split at hk
    · rename_i ti v hti hv
      split at hk
      · rename_i l hh m h1 h2 h3
        split at hk
        · rename_i hg he
          exact sound_vwSlice ho (hT hti) h hd hv h1 h2 h3 hg (Nat.eq_of_beq_eq_true he) hk
        · exact hk.elim
      · exact hk.elim
    · exact hk.elim
  · rename_i c ho
    split at hk
    · rename_i x y tx ty hb hx ht
      split at hk
      · rename_i ti v d hti hv hdst
        split at hk
        · rename_i hg he
          split at hk
          · rename_i e rows2 heq hy
            obtain rfl := Nat.eq_of_beq_eq_true heq
            split at hk
            · rename_i hee
              obtain rfl := Nat.eq_of_beq_eq_true hee
              exact sound_vwRoom ho hb hx ht hdst (hT hti) hg h hd hv (Nat.eq_of_beq_eq_true he) hy hk.1 hk.2
            · exact hk.elim
          · exact hk.elim
        · rename_i hg he
          split at hk
          · rename_i hf
            split at hk
            · rename_i rows2 hn hy
              exact sound_vwGrow ho hb hx ht hdst hT hti hg h hd hn hv (Nat.eq_of_beq_eq_true he) hy hf hk.1 hk.2.1 hk.2.2.1 hk.2.2.2.1 hk.2.2.2.2
            · exact hk.elim
          · split at hk
            · rename_i id e2 rows2 hxo heq hy
              obtain rfl := Nat.eq_of_beq_eq_true heq
              split at hk
              · rename_i hee
                obtain rfl := Nat.eq_of_beq_eq_true hee
                obtain ⟨k1, k2, hk⟩ := hk
                obtain ⟨d2, hk⟩ := altK_some hk
                split at hk
                · rename_i hn
                  rw [withS_eq] at hk
                  exact sound_vwMove ho hb hx ht hdst (hT hti) hg h hd hn hxo hv (Nat.eq_of_beq_eq_true he) hy k1 k2 hk
                · exact hk.elim
              · exact hk.elim
            · exact hk.elim
        · exact hk.elim
      · exact hk.elim
    · rename_i x t ts hb hx ht
      split at hk
      · rename_i ti v hti hv
        split at hk
        · rename_i hg hf
          exact sound_vwCap ho hb hx ht (hT hti) hg h hd hv hf hk.1 hk.2
        · exact hk.elim
      · exact hk.elim
    · rename_i x y tx tx2 hb hx ht
      split at hk
      · rename_i ti v e rows2 hti hv hy
        split at hk
        · rename_i hg he hee
          obtain rfl := Nat.eq_of_beq_eq_true hee
          exact sound_vwCopy ho hb hx ht (hT hti) hg h hd hv (Nat.eq_of_beq_eq_true he) hy hk
        · exact hk.elim
      · exact hk.elim
    · rename_i x t hb hx ht
      split at hk
      · rename_i ti v hti hv
        split at hk
        · rename_i hg he
          exact sound_vwClear ho hb hx ht (hT hti) hg h hd hv (Nat.eq_of_beq_eq_true he) hk
        · exact hk.elim
      · exact hk.elim
    · exact hk.elim
  · rename_i src dst x ho
    split at hk
    · rename_i ti si e rows h1 h2 hr
      split at hk
      · rename_i te l h3 hl
        split at hk
        · rename_i g1 g2 g3 he he1
          have he := Nat.eq_of_beq_eq_true he
          have he1 := Nat.eq_of_beq_eq_true he1
          subst he1
          exact sound_bytesStr ho hT h1 h2 h3 h hd g1 g2 g3 he.symm hr hl hk
        · exact hk.elim
      · exact hk.elim
    · exact hk.elim
  · exact hk.elim

end Go.Proofs.YtdfneaponidfgaaDoor.Eng
/- The engine, part O: each operation is sound; regions in the text's order. -/
set_option linter.unusedVariables false
set_option linter.unusedSimpArgs false
namespace Go.Proofs.YtdfneaponidfgaaDoor.Eng
open Go

variable {E : Env} {s : St} {a : Act} {w : World} {g : Gh} {T : Tab} {C : Ctr} {q : Bool} {o : Oper} {K : St → Prop}

mutual
theorem plain_ok : ∀ (v : V), v.plain = true → ∀ ids, okV ids v = true
  | .undef, h, _ => by simp [V.plain] at h
  | .d _, _, _ => rfl
  | .ref .., h, _ => by simp [V.plain] at h
  | .own _, h, _ => by simp [V.plain] at h
  | .osl .., h, _ => by simp [V.plain] at h
  | .view .., h, _ => by simp [V.plain] at h
  | .any, h, _ => by simp [V.plain] at h
  | .agg cs, h, ids => by simp only [V.plain] at h; simp only [okV]; exact plains_ok cs h ids
  | .tup cs, h, ids => by simp only [V.plain] at h; simp only [okV]; exact plains_ok cs h ids
  | .clo .., h, _ => by simp [V.plain] at h
theorem plains_ok : ∀ (vs : List V), plains vs = true → ∀ ids, okVs ids vs = true
  | [], _, _ => rfl
  | c :: cs, h, ids => by
    unfold plains at h
    split at h
    · rename_i hc; simp only [okVs, plain_ok c hc ids, plains_ok cs h ids, Bool.and_true]
    · simp at h
end

theorem freshHp_self {s : St} {l : HP} : freshHp s (l.map (·.1)) l := by
  have : ∀ (ids : List Nat) (l : HP), (∀ p, p ∈ l → p.1 ∈ ids) → freshHp s ids l := by
    intro ids l
    induction l with
    | nil => intro _; trivial
    | cons p l ih =>
      intro h
      refine ⟨?_, ih fun q hq => h q (List.mem_cons_of_mem _ hq)⟩
      have : ids.contains p.1 = true := by simpa using h p List.mem_cons_self
      rw [this]; trivial
  exact this _ _ fun p hp => List.mem_map.2 ⟨p, hp, rfl⟩
theorem overlay_self {s : St} {l : HP} (h : weakHp s (l.map (·.1)) l) : overlay s.hp l = s.hp := by
  funext i
  by_cases hm : i ∈ l.map (·.1)
  · rw [overlay_in hm, ← (hpOf_in h i hm).1]
  · exact (overlay_out hm).1
/-- What the engine stands on. -/
structure Base (E : Env) (T : Tab) (C : Ctr) : Prop where
  tab : tabB E.P T = true
  cmp : ∀ t ti, T.get t = some ti → ti.cmp = true → CmpOk E.P t ti.zero
  ctr : ∀ f args φ, C.pure f args φ → ACalls E.P E.glob f args φ
  hctr : ∀ f hp0 args φ, C.heap f hp0 args φ → HCalls E.P E.glob f hp0 args φ
  keep : ∀ id, (E.hp0 id).used = true → id ∈ C.keep

theorem aOp0_sound (B : Base E T C) (h : Rel E s a w g) (hd : ∀ d, o.dst = some d → d < E.nt) (hk : aOp0 T E.glob C q o s K) : OpOk E o a w K := by
  have hT : ∀ {t ti}, T.get t = some ti → TIok E.P t ti := fun h => tab_ok B.tab h
  unfold aOp0 at hk
  cases ho : o.op with
  | move x => simp only [ho] at hk; exact sound_move (.inl ho) h hd hk
  | assign x => simp only [ho] at hk; exact sound_assign ho h hd hk
  | pick c x y => simp only [ho] at hk; exact sound_pick ho h hd hk
  | alloc t =>
    simp only [ho] at hk
    split at hk
    · rename_i d ti hdst hti
      split at hk
      · rename_i hn hz
        exact sound_alloc ho hdst (hT hti) (by rw [hz]; simp) h hd hn (by simpa [hz, withS_eq] using hk)
      · exact hk.elim
    · exact hk.elim
  | box t x =>
    simp only [ho] at hk
    split at hk
    · rename_i d hdst
      split at hk
      · exact hk.elim
      · exact hk.elim
      · rename_i hn h1 h2
        exact sound_box ho hdst h hd hn (fun e => h1 e) (fun vs e => h2 vs e) hk
      · exact hk.elim
    · exact hk.elim
  | build t parts =>
    simp only [ho] at hk
    split at hk
    · rename_i ti hti
      exact sound_build ho (hT hti) h hd hk
    · exact hk.elim
  | load t x =>
    simp only [ho] at hk
    split at hk
    · rename_i ti hti
      exact sound_load ho (hT hti) h hd hk
    · exact hk.elim
  | store t p x =>
    simp only [ho] at hk
    split at hk
    · rename_i ti hti
      exact sound_store ho (hT hti) h hd hk
    · exact hk.elim
  | nilCheck x => simp only [ho] at hk; exact sound_nilCheck ho h hd hk
  | binOp op t x y t' =>
    simp only [ho] at hk
    split at hk
    · rename_i ti hti
      split at hk
      · rename_i e rows hn
        split at hk
        · rename_i hg he
          have he := Nat.eq_of_beq_eq_true he
          subst he
          exact sound_nilCmp ho (hT hti) h hd hg hn hk
        · exact hk.elim
      · exact sound_binOp ho (hT hti) (B.cmp _ _ hti) h hd hk
    · exact hk.elim
  | unOp op t x => simp only [ho] at hk; exact sound_unOp ho h hd hk
  | convert src dst x =>
    simp only [ho] at hk
    split at hk
    · rename_i ti si hti hsi
      exact sound_convert ho (hT hti) (hT hsi) h hd hk
    · exact hk.elim
  | makeFunc fn first captured =>
    cases fn with
    | func f => simp only [ho] at hk; exact sound_makeFunc ho h hd hk
    | _ => simp only [ho] at hk
  | fieldAddr t x f =>
    simp only [ho] at hk
    split at hk
    · rename_i ti hti
      exact sound_fieldAddr ho (hT hti) h hd hk
    · exact hk.elim
  | indexAddr t x i =>
    simp only [ho] at hk
    split at hk
    · rename_i ti hti
      exact sound_indexAddr ho (hT hti) h hd hk
    · exact hk.elim
  | index t x i =>
    simp only [ho] at hk
    split at hk
    · rename_i b k n hx hi
      split at hk
      · rename_i ti hti
        split at hk
        · rename_i hs
          exact sound_index ho (hT hti) h hd hx hi hs hk
        · exact hk.elim
      · exact hk.elim
    · exact hk.elim
  | extract x i => simp only [ho] at hk; exact sound_extract ho h hd hk
  | buildSlice t len parts =>
    simp only [ho] at hk
    split at hk
    · rename_i ti hti
      split at hk
      · rename_i rows hg hr
        split at hk
        · rename_i h1 h2 h3 h4
          split at hk
          · exact sound_buildSlice ho (hT hti) h hd (by simp only [hg, hr, h1, h2, h3, h4]; exact hk)
          · split at hk
            · rename_i d hdst
              split at hk
              · rename_i hn
                exact sound_buildSlice_own ho hdst (hT hti) h hd hn (by simp only [hg, hr, h1, h2, h3, h4]; exact hk)
              · exact hk.elim
            · exact hk.elim
        · exact hk.elim
      · exact hk.elim
    · exact hk.elim
  | makeSlice t l c =>
    simp only [ho] at hk
    split at hk
    · rename_i ti hti
      split at hk
      · rename_i k1 n k2 m d hg hl hc hdst
        split at hk
        · rename_i hn
          have hTi := hT hti
          obtain ⟨_, _, _, _, _, _, z, _, hz2, hz3⟩ := hTi.slc hg
          have := (zerosB_reps w g s.hp _ _ hz2).len
          exact sound_makeSlice ho hdst hTi h hd hg hl hc hn (by simp at this; omega) hk
        · exact hk.elim
      · exact hk.elim
    · exact hk.elim
  | slice t x lo hi mx =>
    simp only [ho] at hk
    split at hk
    · exact sound_clip hT ho h hd hk
    split at hk
    · rename_i s2 hf
      obtain ⟨g2, h2⟩ := rel_frz h hf
      unfold aSlice at hk
      split at hk
      · rename_i ti hti
        exact sound_slice ho (hT hti) h2 hd hk
      · exact hk.elim
    · unfold aSlice at hk
      split at hk
      · rename_i ti hti
        exact sound_slice ho (hT hti) h hd hk
      · exact hk.elim
  | call c =>
    simp only [ho] at hk
    split at hk
    · rename_i hb
      split at hk
      · rename_i x t ts hx ht
        split at hk
        · rename_i ti hti
          exact sound_len ho hb hx ht (hT hti) h hd hk
        · exact hk.elim
      · exact hk.elim
    · rename_i hb
      split at hk
      · rename_i x t ts hx ht
        split at hk
        · rename_i ti hti
          exact sound_cap ho hb hx ht (hT hti) h hd hk
        · exact hk.elim
      · exact hk.elim
    · rename_i hb
      split at hk
      · rename_i x y hx
        split at hk
        · rename_i k n k2 m h1 h2
          exact sound_min ho hb hx h hd h1 h2 hk
        · exact hk.elim
      · exact hk.elim
    · rename_i hb
      split at hk
      · rename_i x y tx ty d hx ht hdst
        split at hk
        · rename_i ti tj hti htj
          split at hk
          · rename_i e2 rows2 hg _ hy
            split at hk
            · rename_i e rows heq hxe
              simp only [Bool.and_eq_true] at heq
              obtain ⟨h1, h2⟩ := heq
              have h1 := Nat.eq_of_beq_eq_true h1
              have h2 := Nat.eq_of_beq_eq_true h2
              subst h1; subst h2
              split at hk
              · rename_i hn he
                have he := Nat.eq_of_beq_eq_true he
                subst he
                split at hk
                · exact sound_append_own ho hb hx ht hdst (hT hti) hg h hd hxe hy hn hk.1 hk.2.1 hk.2.2
                · exact sound_append_new ho hb hx ht hdst (hT hti) hg h hd hxe hy hn hk.1 hk.2.1 hk.2.2
              · exact hk.elim
            · rename_i tok e rows heq hxe
              simp only [Bool.and_eq_true] at heq
              obtain ⟨h1, h2⟩ := heq
              have h1 := Nat.eq_of_beq_eq_true h1
              have h2 := Nat.eq_of_beq_eq_true h2
              subst h1; subst h2
              split at hk
              · rename_i e0 n hn he
                have he := Nat.eq_of_beq_eq_true he
                subst he
                exact sound_append_grow ho hb hx ht hdst (hT hti) hg h hd hxe hy hn hk.1 hk.2.1 hk.2.2.1 hk.2.2.2
              · exact hk.elim
            · exact hk.elim
          · exact hk.elim
        · exact hk.elim
      · exact hk.elim
    · rename_i f hb
      split at hk
      · rename_i fid caps hev
        split at hk
        · split at hk
          · split at hk
            · split at hk
              · rename_i d hdst
                split at hk
                · rename_i hn hpl
                  obtain ⟨ob, hc, hk⟩ := hk
                  split at hk
                  · rename_i full e rows
                    refine sound_hcall (hin := []) ho hb h hd hev trivial (plains_ok _ hpl _) (B.hctr _ _ _ _ hc) ?_
                    rintro r' l ⟨rfl, rfl⟩
                    refine ⟨⟨hn, trivial⟩, ?_⟩
                    rw [hdst, putK_eq]
                    exact hk
                  · exact hk.elim
                · exact hk.elim
              · exact hk.elim
            split at hk
            · obtain ⟨hin, r, hc, h1, h2, h3, h4, hk⟩ := hk
              refine sound_hcall ho hb h hd hev h1 h2 (B.hctr _ _ _ _ hc) ?_
              rintro r' l ⟨rfl, rfl⟩
              refine ⟨freshHp_self, ?_⟩
              rw [overlay_self h1]
              exact hk
            split at hk
            · rename_i f' id as hargs
              split at hk
              · rename_i cells hid
                obtain ⟨r, cells', hc, hk⟩ := hk
                split at hk
                · rename_i h1 h2 h3 h4
                  have hok : ∀ l : List V, plains l = true → ∀ ids, okVs ids l = true := plains_ok
                  refine sound_hcall (hin := [(id, .box cells)]) ho hb h hd hev ⟨hid, by simpa [okO] using hok _ h2 _, trivial⟩ ?_ (by rw [hargs]; exact B.hctr _ _ _ _ hc) ?_
                  · rw [hargs]; simp [okVs, okV, hok _ h1]
                  · rintro r' l ⟨rfl, rfl⟩
                    refine ⟨⟨by simp, trivial⟩, ?_⟩
                    exact hk
                · exact hk.elim
              · exact hk.elim
            · rename_i f' id as hargs
              split at hk
              · rename_i fl e rows hid
                obtain ⟨r, hc, hk⟩ := hk
                split at hk
                · rename_i h1 h2
                  have hok : ∀ l : List V, plains l = true → ∀ ids, okVs ids l = true := plains_ok
                  refine sound_hcall (hin := [(id, .arr fl e rows)]) ho hb h hd hev ⟨hid, rfl, trivial⟩ ?_ (by rw [hargs]; exact B.hctr _ _ _ _ hc) ?_
                  · rw [hargs]; simp [okVs, okV, hok _ h1]
                  · rintro r' l ⟨rfl, rfl⟩
                    refine ⟨⟨by simp, trivial⟩, ?_⟩
                    exact hk
                · exact hk.elim
              · exact hk.elim
            · exact hk.elim
          · obtain ⟨hin, φ, hc, h1, h2, hk⟩ := hk
            exact sound_hcall ho hb h hd hev h1 h2 (B.hctr _ _ _ _ hc) hk
        · split at hk
          · rename_i args hargs
            split at hk
            · obtain ⟨r, hc, hk⟩ := hk
              refine sound_call (lend := false) ho hb h hd hev hargs (B.ctr _ _ _ hc) fun r' hr' => ?_
              subst hr'
              split at hk
              · rename_i hs; simp only [hs]; exact hk
              · rename_i hs
                simp only [hs]
                split at hk
                · rename_i hids _
                  rw [hids]
                  exact hk
                · exact hk.elim
            · obtain ⟨φ, hc, hk⟩ := hk
              simp only [forceN_eq] at hk
              exact sound_call (lend := C.lend fid) ho hb h hd hev hargs (B.ctr _ _ _ hc) hk
          · exact hk.elim
      · exact hk.elim
    · exact hk.elim
  | _ => simp only [ho] at hk

theorem aOp_sound (B : Base E T C) (h : Rel E s a w g) (hd : ∀ d, o.dst = some d → d < E.nt) (hk : aOp T E.glob C q o s K) : OpOk E o a w K := by
  unfold aOp at hk
  split at hk
  · exact aVw_sound (fun h => tab_ok B.tab h) h hd hk
  · exact aOp0_sound B h hd hk

def chkOps (nt : Nat) (ops : List Oper) : Bool := ops.all fun o => match o.dst with | some d => Nat.blt d nt | none => true

theorem chkOps_ok {nt : Nat} {ops : List Oper} (h : chkOps nt ops = true) {o : Oper} (ho : o ∈ ops) : ∀ d, o.dst = some d → d < nt := by
  intro d hd
  have := List.all_eq_true.1 h o ho
  rw [hd] at this
  exact Nat.le_of_ble_eq_true this

theorem guard_val {ops : Array Oper} {j gs : Nat} {b : Bool} (h : Rel E s a w g) (hg : (ops[j]?).bind (·.dst) = some gs) (hs : s.sl gs = .d (.bool b)) : yielded ops a.tmps j = some b := by
  have hv := h.slots gs
  rw [hs] at hv
  have hv := repV_bool hv
  unfold yielded
  rw [hg]
  cases ht : a.tmps[gs]? with
  | none => simp [Array.getD_eq_getD_getElem?, ht, Go.undef] at hv
  | some v =>
    simp only [Array.getD_eq_getD_getElem?, ht, Option.getD_some] at hv
    subst hv
    simp [ht]

theorem repV_gone {hp : Nat → Obj} : RepV w g hp (.tup []) Go.undef := by simp only [RepV]; exact ⟨#[], rfl, by simp [RepVs]⟩
theorem guard_gone {ops : Array Oper} {j gs : Nat} (h : Rel E s a w g) (hg : (ops[j]?).bind (·.dst) = some gs) (hs : s.sl gs = .tup []) : yielded ops a.tmps j = none := by
  have hv := h.slots gs
  rw [hs] at hv
  simp only [RepV] at hv
  obtain ⟨us, hv, _⟩ := hv
  unfold yielded
  rw [hg]
  cases ht : a.tmps[gs]? with
  | none => simp [ht]
  | some v =>
    simp only [Array.getD_eq_getD_getElem?, ht, Option.getD_some] at hv
    subst hv
    simp [ht]

theorem aStep_sound {ops : Array Oper} {P' : List Oper} {Q : Exit → Act → World → Prop} {next : Act → World → Prop} (B : Base E T C) (h : Rel E s a w g) (hd : ∀ d, o.dst = some d → d < E.nt)
    (hk : aStep T E.glob C q ops o s K) (hn : ∀ s' a' w' g', K s' → Rel E s' a' w' g' → next a' w') :
    if Region.wanted o (yielded ops a.tmps) then o.wp E.P a w next Q else next (a.put o.dst Go.undef) w := by
  unfold aStep at hk
  split at hk
  · rename_i hg
    rw [if_pos (by simp [Region.wanted, hg])]
    exact aOp_sound B h hd hk next Q hn
  · rename_i j want hg
    split at hk
    · rename_i gs hgs
      split at hk
      · rename_i b hb
        have hy := guard_val h hgs hb
        have hw : Region.wanted o (yielded ops a.tmps) = (b == want) := by
          simp only [Region.wanted, hg, hy]; cases b <;> cases want <;> rfl
        rw [hw]
        cases b <;> cases want <;> simp only [aIf] at hk
        · exact aOp_sound B h hd hk next Q hn
        · rw [putK_eq] at hk
          exact hn _ _ _ _ hk (rel_put h repV_gone hd)
        · rw [putK_eq] at hk
          exact hn _ _ _ _ hk (rel_put h repV_gone hd)
        · exact aOp_sound B h hd hk next Q hn
      · rename_i hb
        have hy := guard_gone h hgs hb
        have hw : Region.wanted o (yielded ops a.tmps) = false := by
          simp only [Region.wanted, hg, hy]; rfl
        rw [hw]
        rw [putK_eq] at hk
        exact hn _ _ _ _ hk (rel_put h repV_gone hd)
      · exact hk.elim
    · exact hk.elim

theorem aOps_sound {ops : Array Oper} {Q : Exit → Act → World → Prop} (B : Base E T C) : ∀ (l : List Oper) (s : St) (a : Act) (w : World) (g : Gh) (K : St → Prop), chkOps E.nt l = true → Rel E s a w g → aOps T E.glob C q ops l s K →
    (∀ s' a' w' g', K s' → Rel E s' a' w' g' → Q .normal a' w') → wpList E.P ops Q l a w
  | [], s, a, w, g, K, _, h, hk, hn => hn _ _ _ _ hk h
  | o :: l, s, a, w, g, K, hc, h, hk, hn => by
    simp only [aOps] at hk
    refine wpList_step fun K' hK' => ?_
    have hc' : chkOps E.nt l = true := by simp only [chkOps, List.all_cons, Bool.and_eq_true] at hc ⊢; exact hc.2
    exact aStep_sound (P' := l) B h (chkOps_ok hc List.mem_cons_self) hk fun s' a' w' g' hk' h' => hK' _ _ (aOps_sound B l s' a' w' g' K hc' h' hk' hn)

end Go.Proofs.YtdfneaponidfgaaDoor.Eng
/- The engine, part P: the code of a function. -/
set_option linter.unusedVariables false
set_option linter.unusedSimpArgs false
namespace Go.Proofs.YtdfneaponidfgaaDoor.Eng
open Go

variable {E : Env} {s : St} {a : Act} {w : World} {g : Gh} {T : Tab} {C : Ctr} {q : Bool} {o : Oper} {K : St → Prop}

def QQ (Q : Ex → St → Prop) : Exit → St → Prop
  | .normal, s => Q .normal s
  | .exit i, s => Q (.exit i) s
  | .ret, s => Q .ret s
  | _, _ => False

/-- The concrete side of a post. -/
def Lift (E : Env) (Q : Ex → St → Prop) (e : Exit) (a : Act) (w : World) : Prop := ∃ s g, Rel E s a w g ∧ QQ Q e s

section weak
theorem look_mem {α : Type} {d : α} : ∀ {l : List (Nat × α)} {t : Nat}, look d l t = d ∨ (t, look d l t) ∈ l
  | [], t => .inl rfl
  | (k, v) :: r, t => by
    unfold look
    split
    · rename_i h
      have := Nat.eq_of_beq_eq_true h
      subst this
      exact .inr List.mem_cons_self
    · rcases look_mem (l := r) (t := t) with h | h
      · exact .inl h
      · exact .inr (List.mem_cons_of_mem _ h)
theorem look_key {α : Type} {d : α} : ∀ {l : List (Nat × α)} {t : Nat}, t ∈ l.map (·.1) → (t, look d l t) ∈ l
  | [], t, h => by simp at h
  | (k, v) :: r, t, h => by
    unfold look
    split
    · rename_i h'
      have := Nat.eq_of_beq_eq_true h'
      subst this
      exact List.mem_cons_self
    · rename_i h'
      simp only [List.map_cons, List.mem_cons] at h
      rcases h with rfl | h
      · rw [Nat.beq_refl] at h'; simp at h'
      · exact List.mem_cons_of_mem _ (look_key h)
theorem weakSl_mem {ids : List Nat} : ∀ {l : List (Nat × V)}, weakSl s ids l → ∀ k v, (k, v) ∈ l → s.sl k = v ∧ okV ids v = true
  | [], _, k, v, h => by simp at h
  | (k', v') :: r, hw, k, v, h => by
    simp only [weakSl] at hw
    rcases List.mem_cons.1 h with h | h
    · injection h with h1 h2; subst h1; subst h2; exact ⟨hw.1, hw.2.1⟩
    · exact weakSl_mem hw.2.2 k v h
theorem weakHp_mem {ids : List Nat} : ∀ {l : List (Nat × Obj)}, weakHp s ids l → ∀ k v, (k, v) ∈ l → s.hp k = v ∧ okO ids v = true
  | [], _, k, v, h => by simp at h
  | (k', v') :: r, hw, k, v, h => by
    simp only [weakHp] at hw
    rcases List.mem_cons.1 h with h | h
    · injection h with h1 h2; subst h1; subst h2; exact ⟨hw.1, hw.2.1⟩
    · exact weakHp_mem hw.2.2 k v h

theorem gext_weak {w0 : World} {g0 : Gh} {hp0 hp hp' : Nat → Obj} (hk : ∀ id, (hp0 id).used = true → hp' id = hp id) (h : GExt w0 g0 hp0 w g hp) : GExt w0 g0 hp0 w g hp' where
  ext := h.ext
  used := fun id hu => by rw [hk id hu]; exact h.used id hu
  blk := h.blk
  val := h.val
  nogrow := fun id hu hn e n => by rw [hk id hu]; exact h.nogrow id hu hn e n
  grow := fun id e n hu hg => h.grow id e n hu (by rw [← hk id hu]; exact hg)

theorem rel_weak {kp : List Nat} {l : SL} (hkp : ∀ id, (E.hp0 id).used = true → id ∈ kp) (hw : Weak kp s l) (h : Rel E s a w g) : Rel E l.st a w g := by
  obtain ⟨h1, h2, h3⟩ := hw
  have hids : ∀ id, id ∈ l.hp.map (·.1) → l.st.hp id = s.hp id := fun id hi => ((weakHp_mem h2 _ _ (look_key (d := Obj.none) hi)).1).symm
  have hno : ∀ id, l.st.hp id = .none ∨ (l.st.hp id = s.hp id ∧ okO (l.hp.map (·.1)) (l.st.hp id) = true) := fun id => by
    rcases look_mem (d := Obj.none) (l := l.hp) (t := id) with h' | h'
    · exact .inl h'
    · have := weakHp_mem h2 _ _ h'
      exact .inr ⟨this.1.symm, this.2⟩
  have hlv : ∀ id, (l.st.hp id).live = true → (s.hp id).live = true := fun id hi => by
    rcases hno id with h' | h'
    · rw [h'] at hi; simp [Obj.live] at hi
    · rw [← h'.1]; exact hi
  refine ⟨fun t => ?_, fun id => ?_, fun i j b hij hi hj => h.dist i j b hij (hlv i hi) (hlv j hj), h.bound, h.globs, fun id b hi => h.low id b (hlv id hi), h.frame, h.size, h.start, h.fresh, h.nt, h.defers, gext_weak (fun id hu => hids id (by have := List.all_eq_true.1 h3 id (hkp id hu); simpa using this)) h.old, h.io⟩
  · rcases look_mem (d := V.undef) (l := l.sl) (t := t) with h' | h'
    · show RepV w g l.st.hp (look .undef l.sl t) _
      rw [h']; simp [RepV]
    · obtain ⟨h3, h4⟩ := weakSl_mem h1 _ _ h'
      show RepV w g l.st.hp (look .undef l.sl t) _
      refine RepV.weak hids _ _ h4 ?_
      rw [← h3]; exact h.slots t
  · rcases hno id with h' | ⟨h', h''⟩
    · rw [h']; trivial
    · have hob := h.objs id
      rw [← h'] at hob
      cases ho : l.st.hp id with
      | none => trivial
      | dead => trivial
      | box cells =>
        rw [ho] at hob h''
        obtain ⟨b, us, e, q1, q2, q3, q4⟩ := hob
        exact ⟨b, us, e, q1, q2, RepVs.weak hids _ _ h'' q3, q4⟩
      | arr full e rows => rw [ho] at hob; exact hob
      | grow e n => rw [ho] at hob; exact hob
end weak

/-- A region that draws its order is sound: shown apart. -/
def DrawOk (E : Env) (T : Tab) (C : Ctr) (ops : Array Oper) : Prop :=
  ∀ (id : Nat) (s : St) (a : Act) (w : World) (g : Gh) (K : St → Prop) (Q : Exit → Act → World → Prop), Rel E s a w g → aDraw T E.glob C ops s K →
    (∀ s' a' w' g', K s' → Rel E s' a' w' g' → Q .normal a' w') → (Code.region id ops true).wp E.P Q a w

def CodeOk (E : Env) (T : Tab) (C : Ctr) : Code → Prop
  | .region _ ops draw => match draw with | true => DrawOk E T C ops | false => chkOps E.nt ops.toList = true
  | .seq a b => CodeOk E T C a ∧ CodeOk E T C b
  | .cond _ a b => CodeOk E T C a ∧ CodeOk E T C b
  | .block _ b => CodeOk E T C b
  | .loop b => CodeOk E T C b
  | _ => True

theorem least {m : Nat → Prop} (h : ∃ n, m n) : ∃ n, m n ∧ ∀ k, m k → n ≤ k := by
  obtain ⟨n, hn⟩ := h
  induction n using Nat.strongRecOn with
  | _ n ih =>
    by_cases hk : ∃ k, k < n ∧ m k
    · obtain ⟨k, h1, h2⟩ := hk; exact ih k h1 h2
    · exact ⟨n, hn, fun k hm => Nat.le_of_not_lt fun h => hk ⟨k, h, hm⟩⟩

theorem rel_drawn (h : Rel E s a w g) (n : Nat) : Rel E s a { w with drawn := n } g := by
  obtain ⟨hR, _⟩ := rel_on (w' := { w with drawn := n }) (imm' := g.imm) h (Nat.le_refl _) (fun _ _ => rfl) (fun _ _ h => h) (fun _ _ h _ _ _ => h) h.bound (fun _ _ h _ => h)
  exact hR

theorem aWp_sound (B : Base E T C) : ∀ (c : Code) (Q : Ex → St → Prop) (s : St) (a : Act) (w : World) (g : Gh), CodeOk E T C c → Rel E s a w g → aWp T E.glob C c Q s → c.wp E.P (Lift E Q) a w
  | .skip, Q, s, a, w, g, _, h, hk => wp_skip ⟨s, g, h, hk⟩
  | .region id ops draw, Q, s, a, w, g, hc, h, hk => by
    cases draw with
    | true => exact hc id s a w g (Q .normal) _ h hk (fun s' a' w' g' hq hr => ⟨s', g', hr, hq⟩)
    | false => exact wp_region_list (aOps_sound B ops.toList s a w g (Q .normal) hc h hk (fun s' a' w' g' hq hr => ⟨s', g', hr, hq⟩))
  | .seq x y, Q, s, a, w, g, hc, h, hk => by
    refine wp_seq (Code.wp_mono ?_ (aWp_sound B x _ s a w g hc.1 h hk))
    rintro e a' w' ⟨s', g', hr, hq⟩
    cases e with
    | normal => exact aWp_sound B y Q s' a' w' g' hc.2 hr hq
    | exit i => exact ⟨s', g', hr, hq⟩
    | ret => exact ⟨s', g', hr, hq⟩
    | goto l => exact hq.elim
    | panic c => exact hq.elim
    | outgrown => exact hq.elim
  | .cond c x y, Q, s, a, w, g, hc, h, hk => by
    unfold aWp at hk
    split at hk
    · rename_i b hb
      have hv := rel_ev h c
      rw [hb] at hv
      refine wp_cond_split (repV_bool hv) (fun ht => ?_) (fun ht => ?_)
      · subst ht; exact aWp_sound B x Q s a w g hc.1 h hk
      · subst ht; exact aWp_sound B y Q s a w g hc.2 h hk
    · exact hk.elim
  | .block id b, Q, s, a, w, g, hc, h, hk => by
    refine wp_block (Code.wp_mono ?_ (aWp_sound B b _ s a w g hc h hk))
    rintro e a' w' ⟨s', g', hr, hq⟩
    cases e with
    | normal => exact ⟨s', g', hr, hq⟩
    | exit i =>
      by_cases hi : i = id
      · subst hi
        simp only [Exit.inBlock, if_true]
        refine ⟨s', g', hr, ?_⟩
        simpa [QQ, Ex.block] using hq
      · simp only [Exit.inBlock, hi, if_false]
        refine ⟨s', g', hr, ?_⟩
        have : Nat.beq i id = false := by
          cases hb : Nat.beq i id with
          | true => exact absurd (Nat.eq_of_beq_eq_true hb) hi
          | false => rfl
        simpa [QQ, Ex.block, this] using hq
    | ret => exact ⟨s', g', hr, hq⟩
    | goto l => exact hq.elim
    | panic c => exact hq.elim
    | outgrown => exact hq.elim
  | .loop b, Q, s, a, w, g, hc, h, hk => by
    obtain ⟨ι, I, m, x0, hw0, hround⟩ := hk
    let M (a : Act) (w : World) (n : Nat) : Prop := ∃ x g, m x = n ∧ Rel E (I x).st a w g
    have hleast : ∀ a w, (∃ n, M a w n) → ∃ n, M a w n ∧ ∀ k, M a w k → n ≤ k := fun a w h => least h
    classical
    let μ (a : Act) (w : World) : Nat := if hh : ∃ n, M a w n then Classical.choose (hleast a w hh) else 0
    refine wp_loop (fun a w => ∃ n, M a w n) μ ⟨m x0, x0, g, rfl, rel_weak B.keep hw0 h⟩ fun a w hI => ?_
    have hμ : μ a w = Classical.choose (hleast a w hI) := dif_pos hI
    obtain ⟨hM, hmin⟩ := Classical.choose_spec (hleast a w hI)
    rw [← hμ] at hM hmin
    obtain ⟨x, g', hx, hr⟩ := hM
    refine Code.wp_mono ?_ (aWp_sound B b _ (I x).st a w g' hc hr (hround x))
    rintro e a' w' ⟨s', g'', hr', hq⟩
    cases e with
    | normal =>
      obtain ⟨y, hlt, hwk⟩ := hq
      have hI' : ∃ n, M a' w' n := ⟨m y, y, g'', rfl, rel_weak B.keep hwk hr'⟩
      refine ⟨hI', ?_⟩
      have hμ' : μ a' w' = Classical.choose (hleast a' w' hI') := dif_pos hI'
      obtain ⟨_, hmin'⟩ := Classical.choose_spec (hleast a' w' hI')
      have := hmin' (m y) ⟨y, g'', rfl, rel_weak B.keep hwk hr'⟩
      rw [hμ', ← hx]
      omega
    | exit i => exact ⟨s', g'', hr', hq⟩
    | ret => exact ⟨s', g'', hr', hq⟩
    | goto l => exact hq.elim
    | panic c => exact hq.elim
    | outgrown => exact hq.elim
  | .exit id, Q, s, a, w, g, _, h, hk => wp_exit ⟨s, g, h, hk⟩
  | .ret, Q, s, a, w, g, _, h, hk => wp_ret ⟨s, g, h, hk⟩
  | .scope b, Q, s, a, w, g, _, h, hk => hk.elim
  | .label l, Q, s, a, w, g, _, h, hk => hk.elim
  | .goto l, Q, s, a, w, g, _, h, hk => hk.elim
  | .refuse l, Q, s, a, w, g, _, h, hk => hk.elim
  | .rangeFunc .., Q, s, a, w, g, _, h, hk => hk.elim

end Go.Proofs.YtdfneaponidfgaaDoor.Eng
/- The engine, part Q: a function's call. -/
set_option linter.unusedVariables false
set_option linter.unusedSimpArgs false
namespace Go.Proofs.YtdfneaponidfgaaDoor.Eng
open Go

variable {E : Env} {s : St} {a : Act} {w : World} {g : Gh} {T : Tab} {C : Ctr} {q : Bool} {o : Oper} {K : St → Prop}

def nthV : List V → Nat → V
  | [], _ => .undef
  | v :: _, 0 => v
  | _ :: r, t + 1 => nthV r t
def initSt (args : List V) : St := ⟨nthV args, fun _ => .none⟩
theorem nthV_eq : ∀ (vs : List V) (t : Nat), nthV vs t = (vs[t]?).getD .undef
  | [], t => by simp [nthV]
  | v :: vs, 0 => by simp [nthV]
  | v :: vs, t + 1 => by simp [nthV, nthV_eq vs t]

/-- What a result variable holds. -/
def rawV (T : Tab) (s : St) : ResultVar → V
  | .tmp t => s.sl t
  | .cell t ty => match s.sl t, T.get ty with
    | .ref id 0 _ 0, some ti => match s.hp id with
      | .box cells => match Nat.ble ti.size cells.length with
        | true => mkV ti.agg (cells.take ti.size)
        | false => .undef
      | _ => .undef
    | _, _ => .undef
def outVs (T : Tab) (s : St) (rs : List ResultVar) : Option (List V) := pureVs s.hp (rs.map (rawV T s))
def outK (T : Tab) (rs : List ResultVar) (s : St) (φ : V → Prop) : Prop :=
  match outVs T s rs with
  | some [v] => force v φ
  | some vs => forceL vs fun vs => φ (.tup vs)
  | none => False
def finQ (T : Tab) (rs : List ResultVar) (φ : V → Prop) : Ex → St → Prop
  | .normal, s => outK T rs s φ
  | .ret, s => outK T rs s φ
  | _, _ => False

def rawOk : V → Bool
  | .undef => false
  | _ => true

theorem pureV_undef {hp : Nat → Obj} {v : V} {x : V} (h : pureV hp v = some x) : v ≠ .undef := by
  rintro rfl; simp [pureV, leaf2, leaf1, leaf0] at h

def resF (tmps : Array Value) : ResultVar → Sem Value
  | .tmp t => pure (tmps.getD t Go.undef)
  | .cell p t => do loadVar t (← asAddr (tmps.getD p Go.undef))
theorem results_eq (fn : Func) (tmps : Array Value) : results fn tmps = (do
    let vs ← fn.results.mapM (resF tmps)
    pure (if h : vs.size = 1 then vs[0] else .tuple vs)) := by
  unfold results
  have : (fun x => (match x with | .tmp t => pure (tmps.getD t Go.undef) | .cell p t => do loadVar t (← asAddr (tmps.getD p Go.undef)) : Sem Value)) = resF tmps := by
    funext r; cases r <;> rfl
  exact congrArg (fun F => (do
    let vs ← fn.results.mapM F
    pure (if h : vs.size = 1 then vs[0] else .tuple vs) : Sem Value)) this

theorem run_results (hT : tabB E.P T = true) (h : Rel E s a w g) : ∀ (rs : List ResultVar) (vs : List V), pureVs s.hp (rs.map (rawV T s)) = some vs →
    ∃ us : List Value, (rs.mapM (resF a.tmps)).run E.P w = .ok us w ∧ RepVs w g s.hp (rs.map (rawV T s)) us
  | [], vs, _ => ⟨[], by simp, by simp [RepVs]⟩
  | r :: rs, vs, hx => by
    simp only [List.map_cons] at hx
    unfold pureVs at hx
    split at hx
    · rename_i x xs hx1 hx2
      obtain ⟨us, h1, h2⟩ := run_results hT h rs xs hx2
      have hne := pureV_undef hx1
      have : ∃ u, (resF a.tmps r).run E.P w = .ok u w ∧ RepV w g s.hp (rawV T s r) u := by
        cases r with
        | tmp t => exact ⟨_, rfl, h.slots t⟩
        | cell t ty =>
          simp only [rawV] at hne ⊢
          have hs := h.slots t
          split at hne
          · rename_i id e ti hsl hti
            rw [hsl] at hs
            simp only [RepV] at hs
            obtain ⟨hu, hng, b, hb, hv⟩ := hs
            have hob := h.objs id
            split at hne
            · rename_i cells hid
              rw [hid] at hob
              obtain ⟨b', us', tt, q1, q2, q3, q4⟩ := hob
              rw [hb] at q1; injection q1 with q1; subst q1
              split at hne
              · rename_i hle
                have hle' := Nat.le_of_ble_eq_true hle
                have hlen := q3.len
                have hr := q3.take ti.size
                have hld := run_loadVarT (tab_ok hT hti) w b 0 (us'.toList.take ti.size) (by simp at hlen ⊢; omega) (fun j v hj => by
                  rw [cell_of q2, Nat.zero_add]
                  rw [List.getElem?_take] at hj
                  split at hj
                  · simpa using hj
                  · simp at hj)
                refine ⟨_, ?_, repV_mkV hr ti.agg⟩
                show (do loadVar ty (← asAddr (a.tmps.getD t Go.undef)) : Sem Value).run E.P w = _
                rw [hv]
                simp only [Nat.zero_mul, asAddr, Sem.run_bind, Sem.run_pure, Result.andThen_ok, hld]
              · exact absurd rfl hne
            · exact absurd rfl hne
          · exact absurd rfl hne
      obtain ⟨u, h3, h4⟩ := this
      refine ⟨u :: us, ?_, by simp only [List.map_cons, RepVs]; exact ⟨u, us, rfl, h4, h2⟩⟩
      simp only [List.mapM_cons, Sem.run_bind, h3, h1, Result.andThen_ok, Sem.run_pure]
    · simp at hx

/-- A function's contract, by its code. -/
theorem acalls_intro {P : Program} {G : Nat → V} {T : Tab} {C : Ctr} {f : FuncId} {fn : Func} {c : Code} (hf : P.funcs[f]? = some fn) (hb : fn.body = some c) (hn : (fn.name == "runtime.NumGoroutine") = false)
    (hT : tabB P T = true) (hcmp : ∀ t ti, T.get t = some ti → ti.cmp = true → CmpOk P t ti.zero) (hC : ∀ f args φ, C.pure f args φ → ACalls P G f args φ) (hH : ∀ f hp0 args φ, C.heap f hp0 args φ → HCalls P G f hp0 args φ) {args : List V} {φ : V → Prop} (hnt : args.length ≤ fn.ntmps)
    (hc : ∀ E : Env, E.P = P → E.nt = fn.ntmps → E.glob = G → E.hp0 = (fun _ => .none) → CodeOk E T C c)
    (hk : aWp T G C c (finQ T fn.results.toList φ) (initSt args)) : ACalls P G f args φ := by
  refine ⟨⟨fn, c, hf, hb, hn⟩, fun w imm us hbd hG hargs => ?_⟩
  let E : Env := { P := P, nt := fn.ntmps, n0 := w.heap.size, own0 := fun _ => False, w0 := w, i0 := imm, glob := G, g0 := gh0 imm, hp0 := fun _ => .none }
  have hlen := RepVs.len hargs
  refine calls_of_wp hf hb ?_
  have hrel : Rel E (initSt args) { tmps := us.toArray ++ Array.replicate (fn.ntmps - us.toArray.size) Go.undef, defers := [] } w (gh0 imm) := by
    refine ⟨fun t => ?_, fun id => trivial, fun i j b hij hi => by simp [initSt, Obj.live] at hi, hbd, hG, fun id b hi => by simp [initSt, Obj.live] at hi, fun b hb _ => rfl, Nat.le_refl _, Ext.refl _ _, fun b o hi hb => .inl hi, ?_, rfl, GExt.refl _ _ _, ⟨rfl, rfl⟩⟩
    · show RepV w (gh0 imm) (fun _ => .none) (nthV args t) _
      rw [nthV_eq]
      cases ht : args[t]? with
      | none => simp [RepV]
      | some v =>
        obtain ⟨u, hu, hr⟩ := RepVs.get hargs ht
        have htl := (List.getElem?_eq_some_iff.1 hu).1
        have : (us.toArray ++ Array.replicate (fn.ntmps - us.toArray.size) Go.undef).getD t Go.undef = u := by
          rw [Array.getD_eq_getD_getElem?, Array.getElem?_append_left (by simpa using htl)]
          simp [hu]
        rw [this]
        exact hr
    · show (us.toArray ++ Array.replicate (fn.ntmps - us.toArray.size) Go.undef).size = fn.ntmps
      simp; omega
  have hB : Base E T C := ⟨hT, hcmp, hC, hH, fun id hu => by simp [E, Obj.used] at hu⟩
  refine Code.wp_mono ?_ (aWp_sound hB c _ _ _ w _ (hc E rfl rfl rfl rfl) hrel hk)
  rintro e a' w' ⟨s', g', hr, hq⟩
  have key : outK T fn.results.toList s' φ → a'.defers = [] ∧ ∃ v, (results fn a'.tmps).run P w' = .ok v w' ∧ AOut w imm φ (.returned v) w' := by
    intro ho
    refine ⟨hr.defers, ?_⟩
    unfold outK outVs at ho
    cases hv : pureVs s'.hp (fn.results.toList.map (rawV T s')) with
    | none => simp [hv] at ho
    | some vs =>
      simp only [hv] at ho
      obtain ⟨us', h1, h2⟩ := run_results (E := E) hT hr fn.results.toList vs hv
      generalize hids : (fn.results.toList.map (rawV T s')).flatMap (idsV s'.hp) = ids
      have hus := idss_used hr (fun v u => idsV_used hr v u) h2
      rw [hids] at hus
      obtain ⟨hK, _⟩ := rel_kill hr ids hus
      have hp := pureVs_ok (ids := ids) hr h2 hv (fun id hi => by rw [← hids]; exact hi)
      have hres : (results fn a'.tmps).run P w' = .ok (if h : us'.toArray.size = 1 then us'.toArray[0] else .tuple us'.toArray) w' := by
        rw [results_eq, Array.mapM_eq_mapM_toList]
        have h1' : (fn.results.toList.mapM (resF a'.tmps)).run P w' = .ok us' w' := h1
        simp only [Sem.run_bind, Sem.run_map, h1', Result.andThen_ok, Sem.run_pure]
      have hbound := hK.bound
      have hfin : ∀ (v : Value) (r : V), φ r → RepP w' (immK s' g' ids) r v → AOut w imm φ (.returned v) w' := fun v r hφ hrv =>
        ⟨v, r, immK s' g' ids, rfl, hφ, hrv, hr.size, fun b hb => hr.frame b hb (fun h => h), fun b o hi => hK.start.sub b o hi, hbound, fun b o hi hb => (hK.fresh b o hi hb).resolve_right (fun h => h), hr.io⟩
      have hul := RepVs.len hp
      have hvl := RepVs.len h2
      split at ho
      · rename_i v hvs
        injection hvs with hvs
        subst hvs
        rw [force_eq] at ho
        unfold RepPs at hp
        simp only [RepVs] at hp
        obtain ⟨u, us'', rfl, hpu, rfl⟩ := hp
        exact ⟨u, by rw [hres]; simp, hfin u v ho hpu⟩
      · rename_i vs' hne hvs
        injection hvs with hvs
        subst hvs
        rw [forceL_eq] at ho
        have hsz : us'.toArray.size ≠ 1 := by
          intro h1
          simp at h1
          have : vs.length = 1 := by omega
          obtain ⟨v, hv⟩ := List.length_eq_one_iff.1 this
          exact hne v (by rw [hv])
        refine ⟨.tuple us'.toArray, by rw [hres, dif_neg hsz], hfin _ _ ho ?_⟩
        unfold RepP
        simp only [RepV]
        exact ⟨_, rfl, hp⟩
      · rename_i hvs; simp at hvs
  cases e with
  | normal => exact key hq
  | ret => exact key hq
  | exit i => exact hq.elim
  | goto l => exact hq.elim
  | panic c => exact hq.elim
  | outgrown => exact hq.elim

end Go.Proofs.YtdfneaponidfgaaDoor.Eng
/- The engine, part R: what an operation reads and writes. -/
set_option linter.unusedVariables false
set_option linter.unusedSimpArgs false
namespace Go.Proofs.YtdfneaponidfgaaDoor.Eng
open Go

variable {T : Tab} {G : Nat → V} {C : Ctr} {o : Oper} {s t : St}

mutual
def WFv (hp : Nat → Obj) : V → Prop
  | .undef => True
  | .d _ => True
  | .ref id _ _ _ => (hp id).used = true
  | .own id => (hp id).used = true
  | .osl tok _ _ => (hp tok).used = true
  | .view id _ _ _ => (hp id).used = true
  | .any => True
  | .agg cs => WFvs hp cs
  | .tup cs => WFvs hp cs
  | .clo _ cs => WFvs hp cs
def WFvs (hp : Nat → Obj) : List V → Prop
  | [] => True
  | c :: cs => WFv hp c ∧ WFvs hp cs
end
theorem WFvs_mem {hp : Nat → Obj} : ∀ {cs : List V}, WFvs hp cs ↔ ∀ c ∈ cs, WFv hp c
  | [] => by simp [WFvs]
  | c :: cs => by simp [WFvs, WFvs_mem (cs := cs)]
structure WF (G : Nat → V) (s : St) : Prop where
  sl : ∀ i, WFv s.hp (s.sl i)
  hp : ∀ i cells, s.hp i = .box cells → WFvs s.hp cells
  gl : ∀ k, WFv s.hp (G k)

mutual
theorem WFv.mono {hp hp' : Nat → Obj} (h : ∀ i, (hp i).used = true → (hp' i).used = true) : ∀ (v : V), WFv hp v → WFv hp' v
  | .undef, _ => trivial
  | .d _, _ => trivial
  | .ref .., w => by simp only [WFv] at w ⊢; exact h _ w
  | .own _, w => by simp only [WFv] at w ⊢; exact h _ w
  | .osl .., w => by simp only [WFv] at w ⊢; exact h _ w
  | .view .., w => by simp only [WFv] at w ⊢; exact h _ w
  | .any, w => by simp only [WFv]
  | .agg cs, w => by simp only [WFv] at w ⊢; exact WFvs.mono h cs w
  | .tup cs, w => by simp only [WFv] at w ⊢; exact WFvs.mono h cs w
  | .clo _ cs, w => by simp only [WFv] at w ⊢; exact WFvs.mono h cs w
theorem WFvs.mono {hp hp' : Nat → Obj} (h : ∀ i, (hp i).used = true → (hp' i).used = true) : ∀ (vs : List V), WFvs hp vs → WFvs hp' vs
  | [], _ => trivial
  | c :: cs, w => by simp only [WFvs] at w ⊢; exact ⟨WFv.mono h c w.1, WFvs.mono h cs w.2⟩
end

theorem WFv_cv (hp : Nat → Obj) (v : Value) : WFv hp (cv v) := by unfold cv; split <;> simp [WFv]
theorem WF.ev (h : WF G s) (x : Operand) : WFv s.hp (ev G s x) := by
  cases x with
  | tmp t => exact h.sl t
  | const v => exact WFv_cv _ v
  | global k => exact h.gl k
  | func f => simp [Eng.ev, WFv]

mutual
theorem plain_wf (hp : Nat → Obj) : ∀ (v : V), v.plain = true → WFv hp v
  | .undef, h => by simp [V.plain] at h
  | .d _, _ => trivial
  | .ref .., h => by simp [V.plain] at h
  | .own _, h => by simp [V.plain] at h
  | .osl .., h => by simp [V.plain] at h
  | .view .., h => by simp [V.plain] at h
  | .any, h => by simp [V.plain] at h
  | .agg cs, h => by simp only [V.plain] at h; simp only [WFv]; exact plains_wf hp cs h
  | .tup cs, h => by simp only [V.plain] at h; simp only [WFv]; exact plains_wf hp cs h
  | .clo .., h => by simp [V.plain] at h
theorem plains_wf (hp : Nat → Obj) : ∀ (vs : List V), plains vs = true → WFvs hp vs
  | [], _ => trivial
  | c :: cs, h => by
    unfold plains at h
    split at h
    · rename_i hc; simp only [WFvs]; exact ⟨plain_wf hp c hc, plains_wf hp cs h⟩
    · simp at h
end
mutual
theorem scalar_plain : ∀ (v : V), v.scalar = true → v.plain = true
  | .undef, h => by simp [V.scalar] at h
  | .d _, _ => rfl
  | .ref .., h => by simp [V.scalar] at h
  | .own _, h => by simp [V.scalar] at h
  | .osl .., h => by simp [V.scalar] at h
  | .view .., h => by simp [V.scalar] at h
  | .any, h => by simp [V.scalar] at h
  | .agg cs, h => by simp only [V.scalar] at h; simp only [V.plain]; exact scalars_plain cs h
  | .tup cs, h => by simp only [V.scalar] at h; simp only [V.plain]; exact scalars_plain cs h
  | .clo .., h => by simp [V.scalar] at h
theorem scalars_plain : ∀ (vs : List V), scalars vs = true → plains vs = true
  | [], _ => rfl
  | c :: cs, h => by
    unfold scalars at h
    split at h
    · rename_i hc; unfold plains; rw [scalar_plain c hc]; exact scalars_plain cs h
    · simp at h
end

/-- What is written. -/
structure Delta where
  dst : Option Nat
  v : V
  h : Option (Nat × Obj)
def Delta.app (δ : Delta) (s : St) : St :=
  ⟨match δ.dst with | some d => upd s.sl d δ.v | none => s.sl, match δ.h with | some (i, ob) => upd s.hp i ob | none => s.hp⟩

/-- Two states that an operation can't tell apart. -/
structure Agree (G : Nat → V) (o : Oper) (s t : St) : Prop where
  ev : ∀ x, x ∈ o.op.operands.toList → Eng.ev G t x = Eng.ev G s x
  hp : heedless o.op = false → ∀ x, x ∈ o.op.operands.toList → ∀ id, id ∈ idsT s.hp (Eng.ev G s x) → t.hp id = s.hp id
  fresh : ∀ d, o.dst = some d → s.hp d = .none → t.hp d = .none

theorem leaf0_agree {hp hp' : Nat → Obj} {v : V} (h : ∀ id, id ∈ ids0 v → hp' id = hp id) : leaf0 hp' v = leaf0 hp v := by
  cases v <;> simp only [leaf0]
  · rw [h _ (by simp [ids0])]
  · rw [h _ (by simp [ids0])]
theorem leafs_agree {f f' : V → Option D} : ∀ {cs : List V}, (∀ c, c ∈ cs → f' c = f c) → leafs f' cs = leafs f cs
  | [], _ => rfl
  | c :: cs, h => by
    simp only [leafs]
    rw [h c List.mem_cons_self, leafs_agree (fun c hc => h c (List.mem_cons_of_mem _ hc))]
theorem leaf1_agree {hp hp' : Nat → Obj} {v : V} (h : ∀ id, id ∈ ids1 hp v → hp' id = hp id) : leaf1 hp' v = leaf1 hp v ∧ ids1 hp' v = ids1 hp v := by
  cases v with
  | ref id r e off =>
    have h1 := h id (by simp [ids1])
    refine ⟨?_, by simp only [ids1, h1]⟩
    cases r with
    | zero =>
      cases e with
      | zero =>
        simp only [leaf1, h1]
        cases hh : hp id with
        | box cells =>
          simp only
          rw [leafs_agree (fun c hc => leaf0_agree (fun id' hid' => h id' (by
            simp only [ids1, hh, List.mem_cons, List.mem_flatMap]
            exact .inr ⟨c, hc, hid'⟩)))]
        | _ => rfl
      | succ e => simp [leaf1, leaf0]
    | succ r => simp [leaf1, leaf0]
  | undef => exact ⟨rfl, rfl⟩
  | d x => exact ⟨rfl, rfl⟩
  | own i => exact ⟨leaf0_agree (v := .own i) h, rfl⟩
  | view i e lo n => exact ⟨leaf0_agree (v := .view i e lo n) h, rfl⟩
  | any => exact ⟨rfl, rfl⟩
  | osl t e rows => exact ⟨rfl, rfl⟩
  | agg cs => exact ⟨rfl, rfl⟩
  | tup cs => exact ⟨rfl, rfl⟩
  | clo f cs => exact ⟨rfl, rfl⟩
theorem pureV_agree {hp hp' : Nat → Obj} {v : V} (h : ∀ id, id ∈ idsV hp v → hp' id = hp id) : pureV hp' v = pureV hp v ∧ idsV hp' v = idsV hp v := by
  cases v with
  | agg cs =>
    refine ⟨?_, rfl⟩
    simp only [pureV]
    rw [leafs_agree (fun c hc => leaf0_agree (fun id hid => h id (by simp only [idsV, List.mem_flatMap]; exact ⟨c, hc, hid⟩)))]
  | tup cs => exact ⟨rfl, rfl⟩
  | clo f caps =>
    have hc : ∀ c, c ∈ caps → leaf1 hp' c = leaf1 hp c ∧ ids1 hp' c = ids1 hp c := fun c hc => leaf1_agree (fun id hid => h id (by simp only [idsV, List.mem_flatMap]; exact ⟨c, hc, hid⟩))
    refine ⟨?_, ?_⟩
    · simp only [pureV, leaf2]
      rw [leafs_agree (fun c hcm => (hc c hcm).1)]
    · simp only [idsV]
      have : ∀ (l : List V), (∀ c, c ∈ l → ids1 hp' c = ids1 hp c) → l.flatMap (ids1 hp') = l.flatMap (ids1 hp) := by
        intro l
        induction l with
        | nil => intro _; rfl
        | cons c l ih => intro hl; simp only [List.flatMap_cons]; rw [hl c List.mem_cons_self, ih (fun c hc => hl c (List.mem_cons_of_mem _ hc))]
      exact this caps (fun c hcm => (hc c hcm).2)
  | undef => exact ⟨rfl, rfl⟩
  | d x => exact ⟨rfl, rfl⟩
  | osl t e rows => exact ⟨rfl, rfl⟩
  | any => exact ⟨rfl, rfl⟩
  | own i =>
    have := leaf1_agree (v := .own i) (hp := hp) (hp' := hp') h
    refine ⟨?_, this.2⟩
    simp only [pureV, leaf2]
    rw [this.1]
  | view i e lo n =>
    have := leaf1_agree (v := .view i e lo n) (hp := hp) (hp' := hp') h
    refine ⟨?_, this.2⟩
    simp only [pureV, leaf2]
    rw [this.1]
  | ref i r e off =>
    have := leaf1_agree (v := .ref i r e off) (hp := hp) (hp' := hp') h
    refine ⟨?_, this.2⟩
    simp only [pureV, leaf2]
    rw [this.1]
theorem pureVs_agree {hp hp' : Nat → Obj} : ∀ {vs : List V}, (∀ v, v ∈ vs → ∀ id, id ∈ idsV hp v → hp' id = hp id) → pureVs hp' vs = pureVs hp vs ∧ vs.flatMap (idsV hp') = vs.flatMap (idsV hp)
  | [], _ => ⟨rfl, rfl⟩
  | v :: vs, h => by
    have h1 := pureV_agree (h v List.mem_cons_self)
    have h2 := pureVs_agree (fun v hv => h v (List.mem_cons_of_mem _ hv))
    simp only [pureVs, List.flatMap_cons]
    rw [h1.1, h1.2, h2.1, h2.2]
    exact ⟨rfl, rfl⟩
theorem rowsOf_agree {hp hp' : Nat → Obj} {v : V} (h : ∀ id, id ∈ idsV hp v → hp' id = hp id) : rowsOf hp' v = rowsOf hp v := by
  cases v with
  | d x => cases x <;> rfl
  | own i =>
    simp only [rowsOf]
    rw [h _ (by simp [idsV, ids1, ids0])]
  | view i e lo n =>
    simp only [rowsOf]
    rw [h _ (by simp [idsV, ids1, ids0])]
  | _ => rfl

/-- What a told operation writes, wherever it is done. -/
structure Local (F : St → (St → Prop) → Prop) (G : Nat → V) (C : Ctr) (o : Oper) (s : St) (K : St → Prop) (δ : Delta) : Prop where
  dst : δ.dst = o.dst
  k : K (δ.app s)
  wf : WF G (δ.app s)
  h : ∀ i ob, δ.h = some (i, ob) → ob.used = true ∧ ((True ∧ o.dst = some i ∧ s.hp i = .none) ∨ (isW C.wr o.op = true ∧ ∃ x, x ∈ o.op.operands.toList ∧ i ∈ idsT s.hp (ev G s x)))
  again : ∀ t, Agree G o s t → ∀ K' : St → Prop, K' (δ.app t) → F t K'

theorem wf_put (hwf : WF G s) {v : V} (hv : WFv s.hp v) (dst : Option Nat) : WF G (Delta.app ⟨dst, v, none⟩ s) := by
  refine ⟨fun i => ?_, hwf.hp, hwf.gl⟩
  cases dst with
  | none => exact hwf.sl i
  | some d =>
    simp only [Delta.app, upd_eq]
    split
    · exact hv
    · exact hwf.sl i

theorem app_put (dst : Option Nat) (v : V) (s : St) : Delta.app ⟨dst, v, none⟩ s = s.app dst v := by cases dst <;> rfl

theorem put_local {F : St → (St → Prop) → Prop} {K : St → Prop} (hwf : WF G s) {v : V} (hv : WFv s.hp v) (hk : putK s o.dst v K) (hre : ∀ t, Agree G o s t → ∀ K' : St → Prop, putK t o.dst v K' → F t K') :
    ∃ δ, Local F G C o s K δ := by
  rw [putK_eq] at hk
  refine ⟨⟨o.dst, v, none⟩, rfl, by rw [app_put]; exact hk, wf_put hwf hv _, by simp, fun t hA K' hK' => hre t hA K' ?_⟩
  rw [putK_eq, ← app_put]; exact hK'

theorem new_local {F : St → (St → Prop) → Prop} {K : St → Prop} (hwf : WF G s) {d : Nat} {v : V} {ob : Obj} (hdst : o.dst = some d) (hst : True ∨ isW C.wr o.op = false) (hnone : s.hp d = .none) (hu : ob.used = true)
    (hv : WFv (upd s.hp d ob) v) (hob : ∀ cells, ob = .box cells → WFvs s.hp cells) (hk : K ⟨upd s.sl d v, upd s.hp d ob⟩)
    (hre : ∀ t, Agree G o s t → t.hp d = .none → ∀ K' : St → Prop, K' ⟨upd t.sl d v, upd t.hp d ob⟩ → F t K') : ∃ δ, Local F G C o s K δ := by
  have hm : ∀ i, (s.hp i).used = true → (upd s.hp d ob i).used = true := fun i hi => by
    rw [upd_eq]; split
    · exact hu
    · exact hi
  refine ⟨⟨some d, v, some (d, ob)⟩, hdst.symm, hk, ⟨fun i => ?_, fun i cells hi => ?_, fun k => WFv.mono hm _ (hwf.gl k)⟩, fun i ob' hi => ?_, fun t hA K' hK' => hre t hA (hA.fresh d hdst hnone) K' hK'⟩
  · simp only [Delta.app, upd_eq]
    split
    · exact hv
    · exact WFv.mono hm _ (hwf.sl i)
  · simp only [Delta.app, upd_eq] at hi
    split at hi
    · exact WFvs.mono hm _ (hob cells hi)
    · exact WFvs.mono hm _ (hwf.hp i cells hi)
  · simp only [Option.some.injEq, Prod.mk.injEq] at hi
    obtain ⟨rfl, rfl⟩ := hi
    exact ⟨hu, .inl ⟨trivial, hdst, hnone⟩⟩

theorem wf_ds (hp : Nat → Obj) : ∀ (l : List D), WFvs hp (l.map .d)
  | [] => trivial
  | x :: l => by simp only [List.map_cons, WFvs]; exact ⟨trivial, wf_ds hp l⟩
theorem wf_mkV {hp : Nat → Obj} {agg : Bool} {cs : List V} (h : WFvs hp cs) : WFv hp (mkV agg cs) := by
  cases agg with
  | true => exact h
  | false => cases cs with
    | nil => trivial
    | cons c cs => exact h.1
theorem wf_sub {hp : Nat → Obj} {cs cs' : List V} (h : WFvs hp cs) (hs : ∀ c, c ∈ cs' → c ∈ cs) : WFvs hp cs' := WFvs_mem.2 fun c hc => WFvs_mem.1 h c (hs c hc)
theorem wf_cells {hp : Nat → Obj} {v : V} (h : WFv hp v) : WFvs hp v.cells := by
  cases v with
  | agg cs => exact h
  | _ => exact ⟨h, trivial⟩
theorem wf_setCells {hp : Nat → Obj} : ∀ {xs cs : List V} (off : Nat), WFvs hp cs → WFvs hp xs → WFvs hp (setCells cs off xs)
  | [], cs, off, h, _ => h
  | x :: xs, cs, off, h, hx => by
    simp only [setCells]
    refine wf_setCells (off + 1) (WFvs_mem.2 fun c hc => ?_) hx.2
    rcases List.mem_or_eq_of_mem_set hc with hc | rfl
    · exact WFvs_mem.1 h c hc
    · exact hx.1
theorem wf_evs (hwf : WF G s) (xs : List Operand) : WFvs s.hp (xs.map (ev G s)) := WFvs_mem.2 fun c hc => by
  obtain ⟨x, _, rfl⟩ := List.mem_map.1 hc
  exact hwf.ev x
theorem wf_fill {hp : Nat → Obj} : ∀ {ps : List (Nat × V)} {flds : List (Nat × Nat)} {zero cs : List V}, WFvs hp zero → (∀ p, p ∈ ps → WFv hp p.2) → fillFlds flds zero ps = some cs → WFvs hp cs
  | [], flds, zero, cs, hz, _, hf => by simp only [fillFlds, Option.some.injEq] at hf; subst hf; exact hz
  | (i, v) :: ps, flds, zero, cs, hz, hp', hf => by
    have h1 : v ≠ .undef := by rintro rfl; simp [fillFlds] at hf
    have h2 : ∀ vs, v ≠ .tup vs := by rintro vs rfl; simp [fillFlds] at hf
    rw [fillFlds_cons _ _ _ _ _ h1 h2] at hf
    split at hf
    · split at hf
      · exact wf_fill (wf_setCells _ hz (wf_cells (hp' _ List.mem_cons_self))) (fun p hp => hp' p (List.mem_cons_of_mem _ hp)) hf
      · simp at hf
    · simp at hf

theorem aP_local {p : Prop} {K : V → Prop} (h : aP p K) : ∃ x', K (.d x') ∧ ∀ K' : V → Prop, K' (.d x') → aP p K' := by
  classical
  exact ⟨_, aP_iff.1 h, fun K' hK' => aP_iff.2 hK'⟩
theorem aB_local {b : Bool} {K : V → Prop} (h : aB b K) : ∃ x', K (.d x') ∧ ∀ K' : V → Prop, K' (.d x') → aB b K' := ⟨_, aB_iff.1 h, fun K' hK' => aB_iff.2 hK'⟩
theorem binV_local {cmp bl : Bool} {z : List D} {op : BinOp} {x y : V} {K : V → Prop} (h : binV cmp bl z op x y K) : ∃ x', K (.d x') ∧ ∀ K' : V → Prop, K' (.d x') → binV cmp bl z op x y K' := by
  unfold binV at h ⊢
  split at h
  · split at h
    · exact ⟨_, h.2, fun K' hK' => ⟨h.1, hK'⟩⟩
    · exact ⟨_, h.2, fun K' hK' => ⟨h.1, hK'⟩⟩
    · split at h
      · unfold intOp at h ⊢
        split at h <;> first
          | exact h.elim
          | exact aP_local h
          | exact ⟨_, h.2, fun K' hK' => ⟨h.1, hK'⟩⟩
          | exact ⟨_, h, fun K' hK' => hK'⟩
      · exact h.elim
  · split at h
    · exact ⟨_, h, fun K' hK' => hK'⟩
    · exact ⟨_, h, fun K' hK' => hK'⟩
    · exact h.elim
  · split at h
    · exact ⟨_, h.2, fun K' hK' => ⟨h.1, hK'⟩⟩
    · exact aB_local h
    · exact aB_local h
    · exact h.elim
  · split at h
    · exact aB_local h
    · exact aB_local h
    · exact h.elim
  · exact h.elim

end Go.Proofs.YtdfneaponidfgaaDoor.Eng
/- The engine, part S: each operation is local. -/
set_option linter.unusedVariables false
set_option linter.unusedSimpArgs false
namespace Go.Proofs.YtdfneaponidfgaaDoor.Eng
open Go

variable {T : Tab} {G : Nat → V} {C : Ctr} {o : Oper} {s t : St} {K : St → Prop}

theorem optInt_agree {lo : Option Operand} (h : ∀ y, lo = some y → ev G t y = ev G s y) : optInt G t lo = optInt G s lo := by
  cases lo with
  | none => rfl
  | some y => simp only [optInt]; rw [h y rfl]
theorem cutRows_local {full : Bool} {rows : List (List D)} {lo hi mx : Option Int} {K : Bool → List (List D) → Prop} (h : cutRows full rows lo hi mx K) :
    ∃ f r, K f r ∧ ∀ K' : Bool → List (List D) → Prop, K' f r → cutRows full rows lo hi mx K' := by
  unfold cutRows at h ⊢
  split at h
  · exact ⟨_, _, h, fun K' hK' => hK'⟩
  · exact ⟨_, _, h.2.2, fun K' hK' => ⟨h.1, h.2.1, hK'⟩⟩
  · exact ⟨_, _, h.2.2, fun K' hK' => ⟨h.1, h.2.1, hK'⟩⟩
  · exact ⟨_, _, h.2.2.2, fun K' hK' => ⟨h.1, h.2.1, h.2.2.1, hK'⟩⟩
  · exact ⟨_, _, h.2.2.2, fun K' hK' => ⟨h.1, h.2.1, h.2.2.1, hK'⟩⟩
  · exact ⟨_, _, h.2.2.2.2, fun K' hK' => ⟨h.1, h.2.1, h.2.2.1, h.2.2.2.1, hK'⟩⟩
  · exact h.elim

theorem idsT_of {hp : Nat → Obj} {v : V} {id : Nat} (h : id ∈ idsV hp v) : id ∈ idsT hp v := List.mem_append_right _ h
mutual
theorem okV_wf {hp : Nat → Obj} {ids : List Nat} (hu : ∀ id, id ∈ ids → (hp id).used = true) : ∀ (v : V), okV ids v = true → WFv hp v
  | .undef, _ => trivial
  | .d _, _ => trivial
  | .ref id _ _ _, h => by simp only [okV, List.contains_iff_mem] at h; simp only [WFv]; exact hu id h
  | .own id, h => by simp only [okV, List.contains_iff_mem] at h; simp only [WFv]; exact hu id h
  | .osl id _ _, h => by simp only [okV, List.contains_iff_mem] at h; simp only [WFv]; exact hu id h
  | .view id _ _ _, h => by simp only [okV, List.contains_iff_mem] at h; simp only [WFv]; exact hu id h
  | .any, _ => trivial
  | .agg cs, h => by simp only [okV] at h; simp only [WFv]; exact okVs_wf hu cs h
  | .tup cs, h => by simp only [okV] at h; simp only [WFv]; exact okVs_wf hu cs h
  | .clo _ cs, h => by simp only [okV] at h; simp only [WFv]; exact okVs_wf hu cs h
theorem okVs_wf {hp : Nat → Obj} {ids : List Nat} (hu : ∀ id, id ∈ ids → (hp id).used = true) : ∀ (vs : List V), okVs ids vs = true → WFvs hp vs
  | [], _ => trivial
  | c :: cs, h => by
    simp only [okVs, Bool.and_eq_true] at h
    exact ⟨okV_wf hu c h.1, okVs_wf hu cs h.2⟩
end
theorem weakHp_same {s t : St} {ids : List Nat} : ∀ {l : HP}, weakHp s ids l → (∀ p, p ∈ l → t.hp p.1 = s.hp p.1) → weakHp t ids l
  | [], _, _ => trivial
  | p :: l, h, he => ⟨(he p List.mem_cons_self).trans h.1, h.2.1, weakHp_same h.2.2 fun q hq => he q (List.mem_cons_of_mem _ hq)⟩
theorem wf_asg {hp : Nat → Obj} {ty : TypeId} {x : Operand} {v : V} (h : WFv hp v) : WFv hp (asgV T ty x v) := by
  unfold asgV
  split
  · split
    · trivial
    · exact h
  · exact h
theorem aOp0_local (hwf : WF G s) (hk : aOp0 T G C true o s K) : ∃ δ, Local (aOp0 T G C true o) G C o s K δ := by
  have hev := fun x => hwf.ev x
  unfold aOp0 at hk
  cases ho : o.op with
  | move x =>
    simp only [ho] at hk
    exact put_local hwf (hev x) hk fun t hA K' hK' => by
      unfold aOp0; simp only [ho]; rw [hA.ev x (by simp [ho, Op.operands])]; exact hK'
  | assign x =>
    simp only [ho] at hk
    exact put_local hwf (wf_asg (hev x)) hk fun t hA K' hK' => by
      unfold aOp0; simp only [ho]; rw [hA.ev x (by simp [ho, Op.operands])]; exact hK'
  | pick c x y =>
    simp only [ho] at hk
    split at hk
    · rename_i b hb
      refine put_local hwf (v := if b then ev G s x else ev G s y) (by cases b <;> simp [hev]) (by cases b <;> simpa [aIf] using hk) fun t hA K' hK' => ?_
      unfold aOp0; simp only [ho]
      rw [hA.ev c (by simp [ho, Op.operands]), hA.ev x (by simp [ho, Op.operands]), hA.ev y (by simp [ho, Op.operands]), hb]
      cases b <;> simpa [aIf] using hK'
    · exact hk.elim
  | alloc ty =>
    simp only [ho] at hk
    split at hk
    · rename_i d ti hdst hti
      split at hk
      · rename_i hn hz
        rw [forceL_eq] at hk
        refine new_local hwf hdst (.inl trivial) hn rfl (v := .ref d 0 0 0) (ob := .box (ti.zero.map .d)) (by simp only [WFv, upd_same]; rfl) (fun cells hc => by injection hc with hc; subst hc; exact wf_ds _ _) (by simpa [hz, withS_eq] using hk) fun t hA hn' K' hK' => ?_
        unfold aOp0; simp only [ho, hdst, hti, hn', hz, forceL_eq]; simpa [hz, withS_eq] using hK'
      · exact hk.elim
    · exact hk.elim
  | box ty x =>
    simp only [ho] at hk
    split at hk
    · rename_i d hdst
      split at hk
      · exact hk.elim
      · exact hk.elim
      · rename_i hn h1 h2
        rw [forceL_eq] at hk
        refine new_local hwf hdst (.inl trivial) hn rfl (v := .ref d 0 0 0) (ob := .box (ev G s x).cells) (by simp only [WFv, upd_same]; rfl) (fun cells hc => by injection hc with hc; subst hc; exact wf_cells (hev x)) hk fun t hA hn' K' hK' => ?_
        unfold aOp0; simp only [ho, hdst, hn']; rw [hA.ev x (by simp [ho, Op.operands])]
        cases hx : ev G s x <;> simp_all [forceL_eq, withS_eq]
      · exact hk.elim
    · exact hk.elim
  | build ty parts =>
    simp only [ho] at hk
    split at hk
    · rename_i ti hti
      split at hk
      · rename_i cs hg hf
        refine put_local hwf (v := .agg cs) (by
          simp only [WFv]
          exact wf_fill (wf_ds _ _) (fun p hp => by obtain ⟨pp, _, rfl⟩ := List.mem_map.1 hp; exact hev _) hf) hk fun t hA K' hK' => ?_
        have : (parts.toList.map fun p => (p.1, ev G t p.2)) = parts.toList.map fun p => (p.1, ev G s p.2) := List.map_congr_left fun p hp => by
          rw [hA.ev p.2 (by simp only [ho, Op.operands]; exact List.mem_map.2 ⟨p, hp, rfl⟩)]
        unfold aOp0; simp only [ho, hti, hg, this, hf]; exact hK'
      · exact hk.elim
    · exact hk.elim
  | load ty x =>
    simp only [ho] at hk
    split at hk
    · rename_i ti hti
      split at hk
      · rename_i id row esz off he
        have hag : ∀ t, Agree G o s t → ev G t x = .ref id row esz off ∧ t.hp id = s.hp id := fun t hA => ⟨by rw [hA.ev x (by simp [ho, Op.operands]), he], hA.hp (by rw [ho]; rfl) x (by simp [ho, Op.operands]) id (by rw [he]; simp [idsT, toks, idsV, ids1])⟩
        split at hk
        · rename_i cells hid
          split at hk
          · rename_i hle
            refine put_local hwf (wf_mkV (wf_sub (hwf.hp _ _ hid) fun c hc => List.mem_of_mem_drop (List.mem_of_mem_take hc))) hk fun t hA K' hK' => ?_
            obtain ⟨h1, h2⟩ := hag t hA
            unfold aOp0; simp only [ho, hti, h1, h2, hid, hle]; exact hK'
          · exact hk.elim
        · rename_i full e rows hid
          split at hk
          · rename_i hee
            obtain ⟨r, hr, hk⟩ := hk
            split at hk
            · rename_i hle
              refine put_local hwf (wf_mkV (wf_ds _ _)) hk fun t hA K' hK' => ?_
              obtain ⟨h1, h2⟩ := hag t hA
              unfold aOp0; simp only [ho, hti, h1, h2, hid, hee]
              exact ⟨r, hr, by simp only [hle]; exact hK'⟩
            · exact hk.elim
          · exact hk.elim
        · exact hk.elim
      · rename_i cells he
        split at hk
        · rename_i hle
          refine put_local hwf (wf_mkV (wf_ds _ _)) hk fun t hA K' hK' => ?_
          unfold aOp0; simp only [ho, hti]; rw [hA.ev x (by simp [ho, Op.operands]), he]; simp only [hle]; exact hK'
        · exact hk.elim
      · exact hk.elim
    · exact hk.elim
  | store ty p x =>
    simp only [ho] at hk
    split at hk
    · rename_i ti hti
      split at hk
      · rename_i id row esz off he
        have hag : ∀ t, Agree G o s t → ev G t p = .ref id row esz off ∧ t.hp id = s.hp id ∧ ev G t x = ev G s x := fun t hA => ⟨by rw [hA.ev p (by simp [ho, Op.operands]), he], hA.hp (by rw [ho]; rfl) p (by simp [ho, Op.operands]) id (by rw [he]; simp [idsT, toks, idsV, ids1]), hA.ev x (by simp [ho, Op.operands])⟩
        have fin : ∀ ob : Obj, ob.used = true → (∀ cells, ob = .box cells → WFvs s.hp cells) → (s.hp id).used = true → putK ⟨s.sl, upd s.hp id ob⟩ o.dst .undef K →
            (∀ t, Agree G o s t → ∀ K' : St → Prop, putK ⟨t.sl, upd t.hp id ob⟩ o.dst .undef K' → aOp0 T G C true o t K') → ∃ δ, Local (aOp0 T G C true o) G C o s K δ := by
          intro ob hu hob hus hk hre
          rw [putK_eq] at hk
          have hm : ∀ i, (s.hp i).used = true → (upd s.hp id ob i).used = true := fun i hi => by
            rw [upd_eq]; split
            · exact hu
            · exact hi
          refine ⟨⟨o.dst, .undef, some (id, ob)⟩, rfl, ?_, ⟨fun i => ?_, fun i cells hi => ?_, fun k => WFv.mono hm _ (hwf.gl k)⟩, fun i ob' hi => ?_, fun t hA K' hK' => hre t hA K' ?_⟩
          · cases hd : o.dst <;> rw [hd] at hk <;> exact hk
          · cases hd : o.dst with
            | none => exact WFv.mono hm _ (hwf.sl i)
            | some d =>
              simp only [Delta.app, upd_eq]
              split
              · trivial
              · exact WFv.mono hm _ (hwf.sl i)
          · simp only [Delta.app, upd_eq] at hi
            split at hi
            · exact WFvs.mono hm _ (hob cells hi)
            · exact WFvs.mono hm _ (hwf.hp i cells hi)
          · simp only [Option.some.injEq, Prod.mk.injEq] at hi
            obtain ⟨rfl, rfl⟩ := hi
            exact ⟨hu, .inr ⟨by rw [ho]; rfl, p, by simp [ho, Op.operands], by rw [he]; simp [idsT, toks, idsV, ids1]⟩⟩
          · rw [putK_eq]
            cases hd : o.dst <;> rw [hd] at hK' <;> exact hK'
        split at hk
        · rename_i cells hid hlen
          split at hk
          · rename_i hle hlv
            rw [forceL_eq] at hk
            refine fin _ rfl (fun cells' hc => by injection hc with hc; subst hc; exact wf_setCells _ (hwf.hp _ _ hid) (wf_cells (hev x))) (by rw [hid]; rfl) hk fun t hA K' hK' => ?_
            obtain ⟨h1, h2, h3⟩ := hag t hA
            unfold aOp0; simp only [ho, hti, h1, h2, h3, hid, hlen, hle, hlv, forceL_eq]; exact hK'
          · exact hk.elim
        · rename_i full e rows hid hlen
          split at hk
          · rename_i l hee hl
            obtain ⟨r, hr, hk⟩ := hk
            split at hk
            · rename_i hle
              refine fin _ rfl (fun cells' hc => by simp at hc) (by rw [hid]; rfl) hk fun t hA K' hK' => ?_
              obtain ⟨h1, h2, h3⟩ := hag t hA
              unfold aOp0; simp only [ho, hti, h1, h2, h3, hid, hlen, hee, hl]
              exact ⟨r, hr, by simp only [hle]; exact hK'⟩
            · exact hk.elim
          · exact hk.elim
        · exact hk.elim
      · exact hk.elim
    · exact hk.elim
  | nilCheck x =>
    simp only [ho] at hk
    have hre : ∀ v, ev G s x = v → putK s o.dst v K → (∀ t, Agree G o s t → ∀ K' : St → Prop, putK t o.dst v K' → aOp0 T G C true o t K') → ∃ δ, Local (aOp0 T G C true o) G C o s K δ := fun v hv hk hre => put_local hwf (hv ▸ hev x) hk hre
    split at hk
    · rename_i he
      exact hre _ he hk fun t hA K' hK' => by unfold aOp0; simp only [ho]; rw [hA.ev x (by simp [ho, Op.operands]), he]; exact hK'
    · rename_i he
      exact hre _ he hk fun t hA K' hK' => by unfold aOp0; simp only [ho]; rw [hA.ev x (by simp [ho, Op.operands]), he]; exact hK'
    · rename_i he
      exact hre _ he hk fun t hA K' hK' => by unfold aOp0; simp only [ho]; rw [hA.ev x (by simp [ho, Op.operands]), he]; exact hK'
    · rename_i he
      exact hre _ he hk fun t hA K' hK' => by unfold aOp0; simp only [ho]; rw [hA.ev x (by simp [ho, Op.operands]), he]; exact hK'
    · exact hk.elim
  | binOp op ty x y ty' =>
    simp only [ho] at hk
    split at hk
    · rename_i ti hti
      obtain ⟨x', h1, h2⟩ := binV_local hk
      refine put_local hwf (v := .d x') trivial h1 fun t hA K' hK' => ?_
      unfold aOp0; simp only [ho, hti]; rw [hA.ev x (by simp [ho, Op.operands]), hA.ev y (by simp [ho, Op.operands])]
      exact h2 (fun v => putK t o.dst v K') hK'
    · exact hk.elim
  | unOp op ty x =>
    simp only [ho] at hk
    split at hk
    · rename_i b he
      exact put_local hwf (v := .d _) trivial hk fun t hA K' hK' => by unfold aOp0; simp only [ho]; rw [hA.ev x (by simp [ho, Op.operands]), he]; exact hK'
    · rename_i k n he
      exact put_local hwf (v := .d _) trivial hk fun t hA K' hK' => by unfold aOp0; simp only [ho]; rw [hA.ev x (by simp [ho, Op.operands]), he]; exact hK'
    · rename_i k n he
      exact put_local hwf (v := .d _) trivial hk fun t hA K' hK' => by unfold aOp0; simp only [ho]; rw [hA.ev x (by simp [ho, Op.operands]), he]; exact hK'
    · exact hk.elim
  | convert src dst x =>
    simp only [ho] at hk
    split at hk
    · rename_i ti si hti hsi
      split at hk
      · rename_i k0 n k k' he h1 h2
        exact put_local hwf (v := .d _) trivial hk fun t hA K' hK' => by unfold aOp0; simp only [ho, hti, hsi]; rw [hA.ev x (by simp [ho, Op.operands]), he]; simp only [h1, h2]; exact hK'
      · exact hk.elim
    · exact hk.elim
  | makeFunc fn first captured =>
    cases fn with
    | func f =>
      simp only [ho] at hk
      split at hk
      · rename_i hf
        refine put_local hwf (v := .clo f (captured.toList.map (ev G s))) (by simp only [WFv]; exact wf_evs hwf _) hk fun t hA K' hK' => ?_
        have : captured.toList.map (ev G t) = captured.toList.map (ev G s) := List.map_congr_left fun x hx => hA.ev x (by simp only [ho, Op.operands, Array.toList_append, List.mem_append]; exact .inr hx)
        unfold aOp0; simp only [ho, hf, this]; exact hK'
      · exact hk.elim
    | _ => simp only [ho] at hk
  | fieldAddr ty x f =>
    simp only [ho] at hk
    split at hk
    · rename_i ti hti
      split at hk
      · rename_i id row esz off fo n hg he hf
        have := hev x
        rw [he] at this
        exact put_local hwf (v := .ref id row esz (off + fo)) this hk fun t hA K' hK' => by unfold aOp0; simp only [ho, hti]; rw [hA.ev x (by simp [ho, Op.operands]), he]; simp only [hg, hf]; exact hK'
      · rename_i cells fo n hg he hf
        exact put_local hwf (v := .d _) trivial hk fun t hA K' hK' => by unfold aOp0; simp only [ho, hti]; rw [hA.ev x (by simp [ho, Op.operands]), he]; simp only [hg, hf]; exact hK'
      · exact hk.elim
    · exact hk.elim
  | indexAddr ty x i =>
    simp only [ho] at hk
    split at hk
    · rename_i ti hti
      split at hk
      · rename_i hg
        split at hk
        · rename_i id k n he hie
          split at hk
          · rename_i full e rows hid
            split at hk
            · rename_i hee
              have := hev x
              rw [he] at this
              refine put_local hwf (v := .ref id n.toNat e 0) this hk.2.2 fun t hA K' hK' => ?_
              have h2 := hA.hp (by rw [ho]; rfl) x (by simp [ho, Op.operands]) id (by rw [he]; simp [idsT, toks, idsV, ids1, ids0])
              unfold aOp0; simp only [ho, hti, hg]; rw [hA.ev x (by simp [ho, Op.operands]), hA.ev i (by simp [ho, Op.operands]), he, hie]; simp only [h2, hid, hee]
              exact ⟨hk.1, hk.2.1, hK'⟩
            · exact hk.elim
          · exact hk.elim
        · rename_i full e rows k n he hie
          split at hk
          · rename_i hee
            obtain ⟨h0, r, hr, hk⟩ := hk
            refine put_local hwf (v := .d _) trivial hk fun t hA K' hK' => ?_
            unfold aOp0; simp only [ho, hti, hg]; rw [hA.ev x (by simp [ho, Op.operands]), hA.ev i (by simp [ho, Op.operands]), he, hie]; simp only [hee]
            exact ⟨h0, r, hr, hK'⟩
          · exact hk.elim
        · rename_i tok e rows k n he hie
          split at hk
          · rename_i hee
            obtain ⟨h0, r, hr, hk⟩ := hk
            refine put_local hwf (v := .d _) trivial hk fun t hA K' hK' => ?_
            unfold aOp0; simp only [ho, hti, hg]; rw [hA.ev x (by simp [ho, Op.operands]), hA.ev i (by simp [ho, Op.operands]), he, hie]; simp only [hee]
            exact ⟨h0, r, hr, hK'⟩
          · exact hk.elim
        · exact hk.elim
      · exact hk.elim
    · exact hk.elim
  | index ty x i =>
    simp only [ho] at hk
    split at hk
    · rename_i b k n he hie
      split at hk
      · rename_i ti hti
        split at hk
        · rename_i hs
          refine put_local hwf (v := .d _) trivial hk.2.2 fun t hA K' hK' => ?_
          unfold aOp0; simp only [ho]; rw [hA.ev x (by simp [ho, Op.operands]), hA.ev i (by simp [ho, Op.operands]), he, hie]; simp only [hti, hs]
          exact ⟨hk.1, hk.2.1, hK'⟩
        · exact hk.elim
      · exact hk.elim
    · exact hk.elim
  | extract x i =>
    simp only [ho] at hk
    split at hk
    · rename_i vs he
      split at hk
      · rename_i v hv
        have := hev x
        rw [he] at this
        exact put_local hwf (WFvs_mem.1 this v (List.mem_of_getElem? hv)) hk fun t hA K' hK' => by unfold aOp0; simp only [ho]; rw [hA.ev x (by simp [ho, Op.operands]), he]; simp only [hv]; exact hK'
      · exact hk.elim
    · exact hk.elim
  | buildSlice ty len parts =>
    simp only [ho] at hk
    split at hk
    · rename_i ti hti
      split at hk
      · rename_i rows hg hf
        split at hk
        · rename_i h1 h2 h3 h4
          have hre : ∀ t, Agree G o s t → (parts.toList.map fun p => ev G t p.2) = parts.toList.map fun p => ev G s p.2 := fun t hA => List.map_congr_left fun p hp => hA.ev p.2 (by simp only [ho, Op.operands]; exact List.mem_map.2 ⟨p, hp, rfl⟩)
          split at hk
          · rename_i hown
            refine put_local hwf (v := .d _) trivial hk fun t hA K' hK' => ?_
            have := hre t hA
            unfold aOp0; simp only [ho, hti, hg, this, hf, h1, h2, h3, h4, hown]; exact hK'
          · rename_i hown
            split at hk
            · rename_i d hdst
              split at hk
              · rename_i hn
                refine new_local hwf hdst (.inl trivial) hn rfl (v := .own d) (ob := .arr true ti.esz rows) (by simp only [WFv, upd_same]; rfl) (fun cells hc => by simp at hc) hk fun t hA hn' K' hK' => ?_
                have := hre t hA
                unfold aOp0; simp only [ho, hti, hg, this, hf, h1, h2, h3, h4, hown, hdst, hn']; exact hK'
              · exact hk.elim
            · exact hk.elim
        · exact hk.elim
      · exact hk.elim
    · exact hk.elim
  | makeSlice ty l c =>
    simp only [ho] at hk
    split at hk
    · rename_i ti hti
      split at hk
      · rename_i k1 n k2 m d hg hl hc hdst
        split at hk
        · rename_i hn
          obtain ⟨q1, q2, q3, q4, hk⟩ := hk
          refine new_local hwf hdst (.inl trivial) hn rfl (v := .own d) (ob := .arr true ti.esz (List.replicate n.toNat ti.ezero)) (by simp only [WFv, upd_same]; rfl) (fun cells hc => by simp at hc) hk fun t hA hn' K' hK' => ?_
          unfold aOp0; simp only [ho, hti, hg]; rw [hA.ev l (by simp [ho, Op.operands]), hA.ev c (by simp [ho, Op.operands]), hl, hc]; simp only [hdst, hn']
          exact ⟨q1, q2, q3, q4, hK'⟩
        · exact hk.elim
      · exact hk.elim
    · exact hk.elim
  | slice ty x lo hi mx =>
    simp only [ho, frz_true, aSlice] at hk
    split at hk
    · rename_i ti hti
      split at hk
      · rename_i lo' hi' mx' hlo hhi hmx
        have hopt : ∀ t, Agree G o s t → optInt G t lo = some lo' ∧ optInt G t hi = some hi' ∧ optInt G t mx = some mx' ∧ ev G t x = ev G s x := fun t hA => by
          refine ⟨?_, ?_, ?_, hA.ev x (by simp [ho, Op.operands])⟩
          · rw [← hlo]; exact optInt_agree fun y hy => hA.ev y (by simp [ho, Op.operands, hy])
          · rw [← hhi]; exact optInt_agree fun y hy => hA.ev y (by simp [ho, Op.operands, hy])
          · rw [← hmx]; exact optInt_agree fun y hy => hA.ev y (by simp [ho, Op.operands, hy])
        split at hk
        · rename_i full e rows hg he
          split at hk
          · rename_i hee
            obtain ⟨f, r, h1, h2⟩ := cutRows_local hk
            refine put_local hwf (v := .d _) trivial h1 fun t hA K' hK' => ?_
            obtain ⟨q1, q2, q3, q4⟩ := hopt t hA
            unfold aOp0; simp only [ho, frz_true, aSlice, hti, q1, q2, q3, q4, he, hg, hee]
            exact h2 (fun f r => putK t o.dst (.d (.slc f e r)) K') hK'
          · exact hk.elim
        · rename_i tok e rows hg he
          split at hk
          · rename_i hee
            obtain ⟨f, r, h1, h2⟩ := cutRows_local hk
            refine put_local hwf (v := .d _) trivial h1 fun t hA K' hK' => ?_
            obtain ⟨q1, q2, q3, q4⟩ := hopt t hA
            unfold aOp0; simp only [ho, frz_true, aSlice, hti, q1, q2, q3, q4, he, hg, hee]
            exact h2 (fun f r => putK t o.dst (.d (.slc f e r)) K') hK'
          · exact hk.elim
        · rename_i b hg he
          have hre : ∀ t, Agree G o s t → ∀ K' : St → Prop, (match (generalizing := false) lo', hi', mx' with
              | none, none, none => putK t o.dst (.d (.str b)) K'
              | some l, none, none => 0 ≤ l ∧ l ≤ b.size ∧ putK t o.dst (.d (.str (b.extract l.toNat b.size))) K'
              | none, some h, none => 0 ≤ h ∧ h ≤ b.size ∧ putK t o.dst (.d (.str (b.extract 0 h.toNat))) K'
              | some l, some h, none => 0 ≤ l ∧ l ≤ h ∧ h ≤ b.size ∧ putK t o.dst (.d (.str (b.extract l.toNat h.toNat))) K'
              | _, _, _ => False) → aOp0 T G C true o t K' := fun t hA K' hK' => by
            obtain ⟨q1, q2, q3, q4⟩ := hopt t hA
            unfold aOp0; simp only [ho, frz_true, aSlice, hti, q1, q2, q3, q4, he, hg]
            exact hK'
          split at hk
          · exact put_local hwf (v := .d _) trivial hk fun t hA K' hK' => hre t hA K' hK'
          · exact put_local hwf (v := .d _) trivial hk.2.2 fun t hA K' hK' => hre t hA K' ⟨hk.1, hk.2.1, hK'⟩
          · exact put_local hwf (v := .d _) trivial hk.2.2 fun t hA K' hK' => hre t hA K' ⟨hk.1, hk.2.1, hK'⟩
          · exact put_local hwf (v := .d _) trivial hk.2.2.2 fun t hA K' hK' => hre t hA K' ⟨hk.1, hk.2.1, hk.2.2.1, hK'⟩
          · exact hk.elim
        · exact hk.elim
      · exact hk.elim
    · exact hk.elim
  | call c =>
    simp only [ho] at hk
    split at hk
    · rename_i hcal
      split at hk
      · rename_i x t0 ts hargs hts
        have hmem : x ∈ o.op.operands.toList := by
          rw [ho]; simp only [Op.operands, Call.operands, Array.toList_append, hargs]; simp
        split at hk
        · rename_i ti hti
          split at hk
          · rename_i b hg he
            refine put_local hwf (v := .d _) trivial hk fun t hA K' hK' => ?_
            unfold aOp0; simp only [ho, hcal, hargs, hts, hti]; rw [hA.ev x hmem, he]; simp only [hg]; exact hK'
          · rename_i v hg hne
            split at hk
            · rename_i e rows hrows
              refine put_local hwf (v := .d _) trivial hk fun t hA K' hK' => ?_
              have h2 := rowsOf_agree (hp' := t.hp) (fun id hid => hA.hp (by rw [ho]; rfl) x hmem id (idsT_of hid))
              unfold aOp0; simp only [ho, hcal, hargs, hts, hti]; rw [hA.ev x hmem]
              rw [hrows] at h2
              cases hs : ti.str <;> cases hx : ev G s x <;> simp only [hx] at h2 ⊢ <;> simp only [hg, h2] <;> first
                | exact hK'
                | (rename_i d; cases d <;> simp only [rowsOf] at h2 <;> first | (simp at h2; done) | skip
                   simp only [rowsOf, h2]; exact hK')
                | skip
            · exact hk.elim
          · exact hk.elim
        · exact hk.elim
      · exact hk.elim
    · rename_i hcal
      split at hk
      · rename_i x t0 ts hargs hts
        have hmem : x ∈ o.op.operands.toList := by
          rw [ho]; simp only [Op.operands, Call.operands, Array.toList_append, hargs]; simp
        split at hk
        · rename_i ti hti
          split at hk
          · rename_i e rows hg he
            refine put_local hwf (v := .d _) trivial hk fun t hA K' hK' => ?_
            unfold aOp0; simp only [ho, hcal, hargs, hts, hti]; rw [hA.ev x hmem, he]; simp only [hg]; exact hK'
          · exact hk.elim
        · exact hk.elim
      · exact hk.elim
    · rename_i hcal
      split at hk
      · rename_i x y hargs
        have hmx : x ∈ o.op.operands.toList := by
          rw [ho]; simp only [Op.operands, Call.operands, Array.toList_append, hargs]; simp
        have hmy : y ∈ o.op.operands.toList := by
          rw [ho]; simp only [Op.operands, Call.operands, Array.toList_append, hargs]; simp
        split at hk
        · rename_i k n k2 m h1 h2
          refine put_local hwf (v := .d _) trivial hk fun t hA K' hK' => ?_
          unfold aOp0; simp only [ho, hcal, hargs]; rw [hA.ev x hmx, hA.ev y hmy, h1, h2]; exact hK'
        · exact hk.elim
      · exact hk.elim
    · rename_i hcal
      split at hk
      · rename_i x y tx ty d hargs hts hdst
        have hmx : x ∈ o.op.operands.toList := by
          rw [ho]; simp only [Op.operands, Call.operands, Array.toList_append, hargs]; simp
        have hmy : y ∈ o.op.operands.toList := by
          rw [ho]; simp only [Op.operands, Call.operands, Array.toList_append, hargs]; simp
        split at hk
        · rename_i ti tj hti htj
          split at hk
          · rename_i e2 rows2 hg hg2 hr2
            split at hk
            · rename_i full0 e rows hb hx
              split at hk
              · rename_i hn hee
                split at hk
                · rename_i hown
                  obtain ⟨q1, q2, hk⟩ := hk
                  refine new_local hwf hdst (.inl trivial) hn rfl (v := .own d) (ob := .arr false e rows2) (by simp only [WFv, upd_same]; rfl) (fun cells hc => by simp at hc) hk fun t hA hn' K' hK' => ?_
                  have h2 := rowsOf_agree (hp' := t.hp) (fun id hid => hA.hp (by rw [ho]; rfl) y hmy id (idsT_of hid))
                  unfold aOp0; simp only [ho, hcal, hargs, hts, hti, htj, hdst]; rw [hA.ev x hmx, hA.ev y hmy, h2, hr2, hx]; simp only [hg, hg2, hb, hn', hee, hown]
                  exact ⟨q1, q2, hK'⟩
                · rename_i rows hne
                  obtain ⟨q1, q2, hk⟩ := hk
                  refine new_local hwf hdst (.inl trivial) hn rfl (v := .osl d e (_ ++ rows2)) (ob := .grow e (_ + rows2.length)) (by simp only [WFv, upd_same]; rfl) (fun cells hc => by simp at hc) hk fun t hA hn' K' hK' => ?_
                  have h2 := rowsOf_agree (hp' := t.hp) (fun id hid => hA.hp (by rw [ho]; rfl) y hmy id (idsT_of hid))
                  unfold aOp0; simp only [ho, hcal, hargs, hts, hti, htj, hdst]; rw [hA.ev x hmx, hA.ev y hmy, h2, hr2, hx]; simp only [hg, hg2, hb, hn', hee]
                  exact ⟨q1, q2, hK'⟩
              · exact hk.elim
            · rename_i tok e rows hb hx
              split at hk
              · rename_i e0 n hn hee
                obtain ⟨q0, q1, q2, hk⟩ := hk
                have hus : (s.hp tok).used = true := by rw [hn]; rfl
                have hm : ∀ i, (s.hp i).used = true → (upd s.hp tok (.grow e (rows.length + rows2.length)) i).used = true := fun i hi => by
                  rw [upd_eq]; split
                  · rfl
                  · exact hi
                refine ⟨⟨some d, .osl tok e (rows ++ rows2), some (tok, .grow e (rows.length + rows2.length))⟩, hdst.symm, hk, ⟨fun i => ?_, fun i cells hi => ?_, fun k => WFv.mono hm _ (hwf.gl k)⟩, fun i ob' hi => ?_, fun t hA K' hK' => ?_⟩
                · simp only [Delta.app, upd_eq]
                  split
                  · simp only [WFv, upd_same]; rfl
                  · exact WFv.mono hm _ (hwf.sl i)
                · simp only [Delta.app, upd_eq] at hi
                  split at hi
                  · simp at hi
                  · exact WFvs.mono hm _ (hwf.hp i cells hi)
                · simp only [Option.some.injEq, Prod.mk.injEq] at hi
                  obtain ⟨rfl, rfl⟩ := hi
                  exact ⟨rfl, .inr ⟨by rw [ho]; simp only [isW, hcal], x, hmx, by rw [hx]; simp [idsT, toks]⟩⟩
                · have h2 := rowsOf_agree (hp' := t.hp) (fun id hid => hA.hp (by rw [ho]; rfl) y hmy id (idsT_of hid))
                  have h3 : t.hp tok = .grow e0 n := by rw [hA.hp (by rw [ho]; rfl) x hmx tok (by rw [hx]; simp [idsT, toks]), hn]
                  unfold aOp0; simp only [ho, hcal, hargs, hts, hti, htj, hdst]; rw [hA.ev x hmx, hA.ev y hmy, h2, hr2, hx]; simp only [hg, hg2, hb, h3, hee]
                  exact ⟨q0, q1, q2, hK'⟩
              · exact hk.elim
            · exact hk.elim
          · exact hk.elim
        · exact hk.elim
      · exact hk.elim
    · rename_i f hcal
      split at hk
      · rename_i fid caps he
        have hmf : f ∈ o.op.operands.toList := by
          rw [ho]; simp only [Op.operands, Call.operands, Array.toList_append, hcal]; simp
        have hma : ∀ x, x ∈ c.args.toList → x ∈ o.op.operands.toList := fun x hx => by
          rw [ho]; simp only [Op.operands, Call.operands, Array.toList_append, List.mem_append]; exact .inr hx
        have hmap : ∀ t, Agree G o s t → c.args.toList.map (ev G t) = c.args.toList.map (ev G s) := fun t hA => List.map_congr_left fun x hx => hA.ev x (hma x hx)
        split at hk
        · rename_i hkd
          split at hk
          · rename_i hown
            split at hk
            · rename_i f' d hdst
              split at hk
              · rename_i hn hpl
                obtain ⟨ob, hC, hk⟩ := hk
                split at hk
                · rename_i full e rows
                  refine new_local hwf hdst (.inl trivial) hn rfl (v := .own d) (ob := .arr full e rows) (by simp only [WFv, upd_same]; rfl) (fun cells hc => by simp at hc) hk fun t hA hn' K' hK' => ?_
                  have hte : ev G t (.func f') = .d (.fn fid caps) := by rw [hA.ev _ hmf, he]
                  unfold aOp0; simp only [ho, hcal, hte, hkd, hown, hdst, hmap t hA, hn', hpl]
                  exact ⟨_, hC, hK'⟩
                · exact hk.elim
              · exact hk.elim
            · exact hk.elim
          rename_i hown
          split at hk
          · rename_i hro
            obtain ⟨hin, r, hC, h1, h2, h3, h4, hk⟩ := hk
            have hus : ∀ id, id ∈ hin.map (·.1) → (s.hp id).used = true := fun id hid => by
              obtain ⟨q1, q2⟩ := hpOf_in h1 id hid
              cases hh : s.hp id with
              | none => rw [hh] at q2; simp [okO] at q2
              | _ => rfl
            refine put_local hwf (okV_wf hus r h3) hk fun t hA K' hK' => ?_
            have hte : ev G t f = .d (.fn fid caps) := by rw [hA.ev f hmf, he]
            have hids : (c.args.toList.map (ev G s)).flatMap (idsV t.hp) = (c.args.toList.map (ev G s)).flatMap (idsV s.hp) := (pureVs_agree (fun v hv id hid => by
              obtain ⟨x, hx, rfl⟩ := List.mem_map.1 hv
              exact hA.hp (by rw [ho]; rfl) x (hma x hx) id (idsT_of hid))).2
            unfold aOp0; simp only [ho, hcal, hte, hkd, hown, hro, hmap t hA, hids]
            refine ⟨hin, r, hC, weakHp_same h1 fun p hp => ?_, h2, h3, h4, hK'⟩
            have hc := List.all_eq_true.1 h4 p hp
            simp only [List.contains_iff_mem, List.mem_flatMap, List.mem_map] at hc
            obtain ⟨v, ⟨x, hx, rfl⟩, hid⟩ := hc
            exact hA.hp (by rw [ho]; rfl) x (hma x hx) p.1 (idsT_of hid)
          rename_i hro
          split at hk
          · rename_i f' id as hargs
            split at hk
            · rename_i cells hid
              obtain ⟨r, cells', hC, hk⟩ := hk
              split at hk
              · rename_i h1 h2 h3 h4
                have hf' : fid = f' := by
                  simp only [ev] at he
                  injection he with he; injection he with he _; exact he.symm
                subst hf'
                obtain ⟨x, hx, hxe⟩ : ∃ x, x ∈ c.args.toList ∧ ev G s x = .ref id 0 0 0 := by
                  have : V.ref id 0 0 0 ∈ c.args.toList.map (ev G s) := by rw [hargs]; exact List.mem_cons_self
                  obtain ⟨x, hx, hxe⟩ := List.mem_map.1 this
                  exact ⟨x, hx, hxe⟩
                have hus : (s.hp id).used = true := by rw [hid]; rfl
                rw [withS_eq, putK_eq] at hk
                have hm : ∀ i, (s.hp i).used = true → (upd s.hp id (.box cells') i).used = true := fun i hi => by
                  rw [upd_eq]; split
                  · rfl
                  · exact hi
                refine ⟨⟨o.dst, r, some (id, .box cells')⟩, rfl, ?_, ⟨fun i => ?_, fun i cs hi => ?_, fun k => WFv.mono hm _ (hwf.gl k)⟩, fun i ob' hi => ?_, fun t hA K' hK' => ?_⟩
                · cases hd : o.dst <;> rw [hd] at hk <;> exact hk
                · cases hd : o.dst with
                  | none => exact WFv.mono hm _ (hwf.sl i)
                  | some d =>
                    simp only [Delta.app, upd_eq]
                    split
                    · exact plain_wf _ _ h3
                    · exact WFv.mono hm _ (hwf.sl i)
                · simp only [Delta.app, upd_eq] at hi
                  split at hi
                  · injection hi with hi; subst hi; exact plains_wf _ _ h4
                  · exact WFvs.mono hm _ (hwf.hp i cs hi)
                · simp only [Option.some.injEq, Prod.mk.injEq] at hi
                  obtain ⟨rfl, rfl⟩ := hi
                  exact ⟨rfl, .inr ⟨by rw [ho]; simp only [isW, hcal, Ctr.wr, hro]; exact hkd, x, hma x hx, by rw [hxe]; simp [idsT, toks, idsV, ids1]⟩⟩
                · have ht : t.hp id = .box cells := by rw [hA.hp (by rw [ho]; rfl) x (hma x hx) id (by rw [hxe]; simp [idsT, toks, idsV, ids1]), hid]
                  have hte : ev G t (.func fid) = .d (.fn fid caps) := by rw [hA.ev _ hmf, he]
                  unfold aOp0; simp only [ho, hcal, hte, hkd, hown, hro, hmap t hA, hargs, ht]
                  refine ⟨r, cells', hC, ?_⟩
                  simp only [h1, h2, h3, h4]
                  rw [withS_eq, putK_eq]
                  cases hd : o.dst <;> rw [hd] at hK' <;> exact hK'
              · exact hk.elim
            · exact hk.elim
          · rename_i f' id as hargs
            split at hk
            · rename_i fl e rows hid
              obtain ⟨r, hC, hk⟩ := hk
              split at hk
              · rename_i h1 h2
                have hf' : fid = f' := by
                  simp only [ev] at he
                  injection he with he; injection he with he _; exact he.symm
                subst hf'
                obtain ⟨x, hx, hxe⟩ : ∃ x, x ∈ c.args.toList ∧ ev G s x = .own id := by
                  have : V.own id ∈ c.args.toList.map (ev G s) := by rw [hargs]; exact List.mem_cons_self
                  obtain ⟨x, hx, hxe⟩ := List.mem_map.1 this
                  exact ⟨x, hx, hxe⟩
                rw [withS_eq, putK_eq] at hk
                have hm : ∀ i, (s.hp i).used = true → (upd s.hp id .dead i).used = true := fun i hi => by
                  rw [upd_eq]; split
                  · rfl
                  · exact hi
                refine ⟨⟨o.dst, r, some (id, .dead)⟩, rfl, ?_, ⟨fun i => ?_, fun i cs hi => ?_, fun k => WFv.mono hm _ (hwf.gl k)⟩, fun i ob' hi => ?_, fun t hA K' hK' => ?_⟩
                · cases hd : o.dst <;> rw [hd] at hk <;> exact hk
                · cases hd : o.dst with
                  | none => exact WFv.mono hm _ (hwf.sl i)
                  | some d =>
                    simp only [Delta.app, upd_eq]
                    split
                    · exact plain_wf _ _ h2
                    · exact WFv.mono hm _ (hwf.sl i)
                · simp only [Delta.app, upd_eq] at hi
                  split at hi
                  · simp at hi
                  · exact WFvs.mono hm _ (hwf.hp i cs hi)
                · simp only [Option.some.injEq, Prod.mk.injEq] at hi
                  obtain ⟨rfl, rfl⟩ := hi
                  exact ⟨rfl, .inr ⟨by rw [ho]; simp only [isW, hcal, Ctr.wr, hro]; exact hkd, x, hma x hx, by rw [hxe]; simp [idsT, toks, idsV, ids1, ids0]⟩⟩
                · have ht : t.hp id = .arr fl e rows := by rw [hA.hp (by rw [ho]; rfl) x (hma x hx) id (by rw [hxe]; simp [idsT, toks, idsV, ids1, ids0]), hid]
                  have hte : ev G t (.func fid) = .d (.fn fid caps) := by rw [hA.ev _ hmf, he]
                  unfold aOp0; simp only [ho, hcal, hte, hkd, hown, hro, hmap t hA, hargs, ht]
                  refine ⟨r, hC, ?_⟩
                  simp only [h1, h2]
                  rw [withS_eq, putK_eq]
                  cases hd : o.dst <;> rw [hd] at hK' <;> exact hK'
              · exact hk.elim
            · exact hk.elim
          · exact hk.elim
        · rename_i hkd
          split at hk
          · rename_i args hp
            obtain ⟨r, hC, hk⟩ := hk
            have hevs : ∀ t, Agree G o s t → ev G t f = .d (.fn fid caps) ∧ pureVs t.hp (c.args.toList.map (ev G t)) = some args ∧
                (c.args.toList.map (ev G t)).flatMap (idsV t.hp) = (c.args.toList.map (ev G s)).flatMap (idsV s.hp) := fun t hA => by
              have h2 := pureVs_agree (hp := s.hp) (hp' := t.hp) (vs := c.args.toList.map (ev G s)) (fun v hv id hid => by
                obtain ⟨x, hx, rfl⟩ := List.mem_map.1 hv
                exact hA.hp (by rw [ho]; rfl) x (hma x hx) id (idsT_of hid))
              rw [hmap t hA, h2.1, h2.2]
              exact ⟨by rw [hA.ev f hmf, he], hp, rfl⟩
            split at hk
            · rename_i hs
              refine put_local hwf (plain_wf _ _ (scalar_plain _ hs)) hk fun t hA K' hK' => ?_
              obtain ⟨q1, q2, q3⟩ := hevs t hA
              unfold aOp0; simp only [ho, hcal, q1, hkd, q2]
              exact ⟨r, hC, by simp only [hs]; exact hK'⟩
            · rename_i hs
              split at hk
              · rename_i hids hpl
                refine put_local hwf (plain_wf _ _ hpl) hk fun t hA K' hK' => ?_
                obtain ⟨q1, q2, q3⟩ := hevs t hA
                unfold aOp0; simp only [ho, hcal, q1, hkd, q2, q3]
                exact ⟨r, hC, by simp only [hs, hids, hpl]; exact hK'⟩
              · exact hk.elim
          · exact hk.elim
      · exact hk.elim
    · exact hk.elim
  | _ => simp only [ho] at hk

end Go.Proofs.YtdfneaponidfgaaDoor.Eng
/- The engine, part S2: operations on slices of arrays of the call's own are local. -/
set_option linter.unusedVariables false
set_option linter.unusedSimpArgs false
namespace Go.Proofs.YtdfneaponidfgaaDoor.Eng
open Go

variable {T : Tab} {G : Nat → V} {C : Ctr} {o : Oper} {s t : St} {K : St → Prop}

theorem viewOf_agree {hp hp' : Nat → Obj} {v : V} (h : ∀ id, id ∈ idsV hp v → hp' id = hp id) : viewOf hp' v = viewOf hp v := by
  cases v with
  | own i =>
    simp only [viewOf]
    rw [h _ (by simp [idsV, ids1, ids0])]
  | view i e lo n =>
    simp only [viewOf]
    rw [h _ (by simp [idsV, ids1, ids0])]
  | _ => rfl
theorem viewOf_id {hp : Nat → Obj} {v : V} {w : Vw} (h : viewOf hp v = some w) : w.id ∈ idsT hp v ∧ (hp w.id).used = true ∧ hp w.id = .arr w.full w.e w.rows := by
  unfold viewOf at h
  split at h
  · split at h
    · rename_i hid
      injection h with h; subst h
      exact ⟨by simp [idsT, toks, idsV, ids1, ids0], by rw [hid]; rfl, hid⟩
    · simp at h
  · split at h
    · rename_i hid
      split at h
      · rename_i hee
        obtain rfl := Nat.eq_of_beq_eq_true hee
        injection h with h; subst h
        exact ⟨by simp [idsT, toks, idsV, ids1, ids0], by rw [hid]; rfl, hid⟩
      · simp at h
    · simp at h
  · simp at h

theorem write_local {F : St → (St → Prop) → Prop} {K : St → Prop} (hwf : WF G s) {id : Nat} {ob : Obj} {v : V} (hu : ob.used = true) (hob : ∀ cells, ob = .box cells → WFvs s.hp cells) (hv : WFv s.hp v)
    (hW : isW C.wr o.op = true) {x : Operand} (hx : x ∈ o.op.operands.toList) (hid : id ∈ idsT s.hp (ev G s x)) (hk : K (Delta.app ⟨o.dst, v, some (id, ob)⟩ s))
    (hre : ∀ t, Agree G o s t → ∀ K' : St → Prop, K' (Delta.app ⟨o.dst, v, some (id, ob)⟩ t) → F t K') : ∃ δ, Local F G C o s K δ := by
  have hm : ∀ i, (s.hp i).used = true → (upd s.hp id ob i).used = true := fun i hi => by
    rw [upd_eq]; split
    · exact hu
    · exact hi
  refine ⟨⟨o.dst, v, some (id, ob)⟩, rfl, hk, ⟨fun i => ?_, fun i cs hi => ?_, fun k => WFv.mono hm _ (hwf.gl k)⟩, fun i ob' hi => ?_, fun t hA K' hK' => hre t hA K' hK'⟩
  · cases hd : o.dst with
    | none => exact WFv.mono hm _ (hwf.sl i)
    | some d =>
      simp only [Delta.app, upd_eq]
      split
      · exact WFv.mono hm _ hv
      · exact WFv.mono hm _ (hwf.sl i)
  · simp only [Delta.app, upd_eq] at hi
    split at hi
    · exact WFvs.mono hm _ (hob cs hi)
    · exact WFvs.mono hm _ (hwf.hp i cs hi)
  · simp only [Option.some.injEq, Prod.mk.injEq] at hi
    obtain ⟨rfl, rfl⟩ := hi
    exact ⟨hu, .inr ⟨hW, x, hx, hid⟩⟩

theorem vwCut_local {v : Vw} {lo hi mx : Option Int} {K : Nat → Nat → Prop} (h : vwCut v lo hi mx K) : ∃ l u, K l u ∧ ∀ K' : Nat → Nat → Prop, K' l u → vwCut v lo hi mx K' := by
  unfold vwCut at h
  split at h
  · exact ⟨_, _, h.2.2.2, fun K' hK' => ⟨h.1, h.2.1, h.2.2.1, hK'⟩⟩
  · split at h
    · rename_i hf
      exact ⟨_, _, h.2.2.2.2.2, fun K' hK' => by unfold vwCut; simp only [hf]; exact ⟨h.1, h.2.1, h.2.2.1, h.2.2.2.1, h.2.2.2.2.1, hK'⟩⟩
    · exact h.elim

theorem putK_app {s : St} {dst : Option Nat} {v : V} {id : Nat} {ob : Obj} {K : St → Prop} : putK ⟨s.sl, upd s.hp id ob⟩ dst v K = K (Delta.app ⟨dst, v, some (id, ob)⟩ s) := by
  rw [putK_eq]; cases dst <;> rfl

theorem aVw_local (hwf : WF G s) (hk : aVw T G C true o s K) : ∃ δ, Local (aVw T G C true o) G C o s K δ := by
  unfold aVw at hk
  split at hk
  · rename_i ty x lo hi mx ho
    have hmx : x ∈ o.op.operands.toList := by simp [ho, Op.operands]
    split at hk
    · rename_i ti v hti hv
      split at hk
      · rename_i l hh m h1 h2 h3
        split at hk
        · rename_i hg he
          obtain ⟨L, H, hk, hre⟩ := vwCut_local hk
          obtain ⟨hid, hus, _⟩ := viewOf_id hv
          refine put_local hwf (v := .view v.id v.e (v.lo + L) (H - L)) (by simp only [WFv]; exact hus) hk fun t hA K' hK' => ?_
          have hvt : viewOf t.hp (ev G t x) = some v := by rw [hA.ev x hmx, viewOf_agree fun id hid => hA.hp (by rw [ho]; rfl) x hmx id (idsT_of hid)]; exact hv
          have e1 : optInt G t lo = some l := by rw [optInt_agree fun y hy => hA.ev y (by simp [ho, Op.operands, hy])]; exact h1
          have e2 : optInt G t hi = some hh := by rw [optInt_agree fun y hy => hA.ev y (by simp [ho, Op.operands, hy])]; exact h2
          have e3 : optInt G t mx = some m := by rw [optInt_agree fun y hy => hA.ev y (by simp [ho, Op.operands, hy])]; exact h3
          unfold aVw; simp only [ho, hti, hvt, e1, e2, e3, hg, he]
          exact hre _ hK'
        · exact hk.elim
      · exact hk.elim
    · exact hk.elim
  · rename_i c ho
    split at hk
    · rename_i x y tx ty hcal hargs hts
      have hmx : x ∈ o.op.operands.toList := by
        rw [ho]; simp only [Op.operands, Call.operands, Array.toList_append, hargs]; simp
      have hmy : y ∈ o.op.operands.toList := by
        rw [ho]; simp only [Op.operands, Call.operands, Array.toList_append, hargs]; simp
      split at hk
      · rename_i ti v d hti hv hdst
        split at hk
        · rename_i hg he _
          split at hk
          · rename_i e rows2 heq hy
            split at hk
            · rename_i hee
              obtain ⟨q1, hk⟩ := hk
              rw [withS_eq] at hk
              obtain ⟨hid, hus, _⟩ := viewOf_id hv
              refine write_local hwf (id := v.id) (ob := v.splice (v.lo + v.n) rows2) (v := .view v.id v.e v.lo (v.n + rows2.length)) rfl (fun cells hc => by simp [Vw.splice] at hc) (by simp only [WFv]; exact hus) (by rw [ho]; simp only [isW, hcal]) hmx hid
                (by rw [hdst]; exact hk) fun t hA K' hK' => ?_
              have hvt : viewOf t.hp (ev G t x) = some v := by rw [hA.ev x hmx, viewOf_agree fun id hid => hA.hp (by rw [ho]; rfl) x hmx id (idsT_of hid)]; exact hv
              have hyt : rowsOf t.hp (ev G t y) = some (e, rows2) := by rw [hA.ev y hmy, rowsOf_agree fun id hid => hA.hp (by rw [ho]; rfl) y hmy id (idsT_of hid)]; exact hy
              rw [hdst] at hK'
              unfold aVw; simp only [ho, hcal, hargs, hts, hti, hvt, hdst, hg, he, heq, hyt, hee]
              exact ⟨q1, hK'⟩
            · exact hk.elim
          · exact hk.elim
        · rename_i hq; exact absurd hq (by simp)
        · exact hk.elim
      · exact hk.elim
    · rename_i x ty ts hcal hargs hts
      have hmx : x ∈ o.op.operands.toList := by
        rw [ho]; simp only [Op.operands, Call.operands, Array.toList_append, hargs]; simp
      split at hk
      · rename_i ti v hti hv
        split at hk
        · rename_i hg hf
          refine put_local hwf (v := .d _) trivial hk.2 fun t hA K' hK' => ?_
          have hvt : viewOf t.hp (ev G t x) = some v := by rw [hA.ev x hmx, viewOf_agree fun id hid => hA.hp (by rw [ho]; rfl) x hmx id (idsT_of hid)]; exact hv
          unfold aVw; simp only [ho, hcal, hargs, hts, hti, hvt, hg, hf]
          exact ⟨hk.1, hK'⟩
        · exact hk.elim
      · exact hk.elim
    · rename_i x y tx tx2 hcal hargs hts
      have hmx : x ∈ o.op.operands.toList := by
        rw [ho]; simp only [Op.operands, Call.operands, Array.toList_append, hargs]; simp
      have hmy : y ∈ o.op.operands.toList := by
        rw [ho]; simp only [Op.operands, Call.operands, Array.toList_append, hargs]; simp
      split at hk
      · rename_i ti v e rows2 hti hv hy
        split at hk
        · rename_i hg he hee
          rw [withS_eq, putK_app] at hk
          obtain ⟨hid, hus, _⟩ := viewOf_id hv
          refine write_local hwf rfl (fun cells hc => by simp [Vw.splice] at hc) (v := .undef) trivial (by rw [ho]; simp only [isW, hcal]) hmx hid hk fun t hA K' hK' => ?_
          have hvt : viewOf t.hp (ev G t x) = some v := by rw [hA.ev x hmx, viewOf_agree fun id hid => hA.hp (by rw [ho]; rfl) x hmx id (idsT_of hid)]; exact hv
          have hyt : rowsOf t.hp (ev G t y) = some (e, rows2) := by rw [hA.ev y hmy, rowsOf_agree fun id hid => hA.hp (by rw [ho]; rfl) y hmy id (idsT_of hid)]; exact hy
          unfold aVw; simp only [ho, hcal, hargs, hts, hti, hvt, hg, he, hyt, hee]
          rw [withS_eq, putK_app]
          exact hK'
        · exact hk.elim
      · exact hk.elim
    · split at hk
      · rename_i hq; exact absurd hq (by simp)
      · exact hk.elim
    · exact hk.elim
  · rename_i src dst x ho
    have hmx : x ∈ o.op.operands.toList := by simp [ho, Op.operands]
    split at hk
    · rename_i ti si e rows h1 h2 hr
      split at hk
      · rename_i te l h3 hl
        split at hk
        · rename_i g1 g2 g3 he he1
          refine put_local hwf (v := .d _) trivial hk fun t hA K' hK' => ?_
          have hrt : rowsOf t.hp (ev G t x) = some (e, rows) := by rw [hA.ev x hmx, rowsOf_agree fun id hid => hA.hp (by rw [ho]; rfl) x hmx id (idsT_of hid)]; exact hr
          unfold aVw; simp only [ho, h1, h2, hrt, h3, hl, g1, g2, g3, he, he1]
          exact hK'
        · exact hk.elim
      · exact hk.elim
    · exact hk.elim
  · exact hk.elim

theorem vwB_agree (hA : Agree G o s t) : vwB G C o t = vwB G C o s := by
  unfold vwB
  cases ho : o.op with
  | slice ty x lo hi mx =>
    simp only
    rw [hA.ev x (by simp [ho, Op.operands])]
  | call c =>
    simp only
    cases hargs : c.args.toList with
    | nil => simp only
    | cons x l =>
      simp only
      rw [hA.ev x (by rw [ho]; simp only [Op.operands, Call.operands, Array.toList_append, hargs]; simp)]
  | convert src dst x =>
    simp only
    rw [hA.ev x (by simp [ho, Op.operands])]
  | _ => rfl

theorem aOp_local (hwf : WF G s) (hk : aOp T G C true o s K) : ∃ δ, Local (aOp T G C true o) G C o s K δ := by
  unfold aOp at hk
  split at hk
  · rename_i hb
    obtain ⟨δ, h⟩ := aVw_local hwf hk
    exact ⟨δ, h.dst, h.k, h.wf, h.h, fun t hA K' hK' => by unfold aOp; rw [vwB_agree hA, hb]; exact h.again t hA K' hK'⟩
  · rename_i hb
    obtain ⟨δ, h⟩ := aOp0_local hwf hk
    exact ⟨δ, h.dst, h.k, h.wf, h.h, fun t hA K' hK' => by unfold aOp; rw [vwB_agree hA, hb]; exact h.again t hA K' hK'⟩

end Go.Proofs.YtdfneaponidfgaaDoor.Eng
