/- The engine, part N: calls. -/
import Derived.Test.YtnnmkenloijkcaaEngM
set_option linter.unusedVariables false
set_option linter.unusedSimpArgs false
namespace Go.Proofs.Ytnnmkenloijkcaa.Eng
open Go

variable {E : Env} {s : St} {a : Act} {w : World} {g : Gh} {T : Tab} {C : Ctr} {q : Bool} {o : Oper} {K : St → Prop}

mutual
/-- Plain values need no memory. -/
theorem RepP.scalar {w w' : World} {imm : Imm} {g : Gh} {hp : Nat → Obj} : ∀ (v : V) (u : Value), v.scalar = true → RepV w (gh0 imm) (fun _ => .none) v u → RepV w' g hp v u
  | .undef, u, hs, h => by simp [RepV]
  | .d x, u, hs, h => by
    simp only [RepV] at h ⊢
    cases h <;> simp_all [V.scalar, D.scalar] <;> constructor
  | .ref id r e f, u, hs, h => by simp [V.scalar] at hs
  | .own id, u, hs, h => by simp [V.scalar] at hs
  | .osl t e rows, u, hs, h => by simp [V.scalar] at hs
  | .agg cs, u, hs, h => by
    simp only [V.scalar] at hs
    simp only [RepV] at h ⊢
    obtain ⟨us, rfl, h⟩ := h
    exact ⟨us, rfl, RepPs.scalar cs _ hs h⟩
  | .tup cs, u, hs, h => by
    simp only [V.scalar] at hs
    simp only [RepV] at h ⊢
    obtain ⟨us, rfl, h⟩ := h
    exact ⟨us, rfl, RepPs.scalar cs _ hs h⟩
  | .clo f cs, u, hs, h => by simp [V.scalar] at hs
theorem RepPs.scalar {w w' : World} {imm : Imm} {g : Gh} {hp : Nat → Obj} : ∀ (vs : List V) (us : List Value), scalars vs = true → RepVs w (gh0 imm) (fun _ => .none) vs us → RepVs w' g hp vs us
  | [], us, hs, h => by simpa [RepVs] using h
  | c :: cs, us, hs, h => by
    simp only [RepVs] at h ⊢
    obtain ⟨u, us', rfl, h1, h2⟩ := h
    unfold scalars at hs
    split at hs
    · rename_i hc
      exact ⟨u, us', rfl, RepP.scalar c u hc h1, RepPs.scalar cs us' hs h2⟩
    · simp at hs
end

/-- What is told of a call: with these arguments it returns something of which φ holds; what was there stays. -/
structure AOut (w : World) (imm : Imm) (φ : V → Prop) (e : Ending) (w' : World) : Prop where
  out : ∃ u r imm', e = .returned u ∧ φ r ∧ RepP w' imm' r u ∧ w.heap.size ≤ w'.heap.size ∧ (∀ b, b < w.heap.size → w'.heap[b]? = w.heap[b]?) ∧ (∀ b o, imm b o → imm' b o) ∧
    (∀ b o, imm' b o → b < w'.heap.size) ∧ (∀ b o, imm' b o → b < w.heap.size → imm b o) ∧ SameIO w w'
def ACalls (P : Program) (G : Nat → V) (f : FuncId) (args : List V) (φ : V → Prop) : Prop :=
  (∃ fn c, P.funcs[f]? = some fn ∧ fn.body = some c ∧ (fn.name == "runtime.NumGoroutine") = false) ∧
  ∀ (w : World) (imm : Imm) (us : List Value), (∀ b o, imm b o → b < w.heap.size) → (∀ k, RepP w imm (G k) (.pointer (some ⟨k, 0, none⟩))) → RepPs w imm args us →
    Calls P f us.toArray w (AOut w imm φ)

theorem ACalls.mono {P : Program} {G : Nat → V} {f : FuncId} {args : List V} {φ ψ : V → Prop} (h : ACalls P G f args φ) (hφ : ∀ r, φ r → ψ r) : ACalls P G f args ψ :=
  ⟨h.1, fun w imm us h1 h2 h3 => (h.2 w imm us h1 h2 h3).mono fun e w' ⟨u, r, imm', q1, q2, q3⟩ => ⟨u, r, imm', q1, hφ r q2, q3⟩⟩

/-- Objects are given up: their cells are frozen. -/
def immK (s : St) (g : Gh) (ids : List Nat) : Imm := fun b o => g.imm b o ∨ ((∃ id, id ∈ ids ∧ (s.hp id).live = true ∧ g.blk id = some b ∧ ∀ e n, s.hp id ≠ .grow e n))

theorem kill_eq (hp : Nat → Obj) : ∀ (ids : List Nat) (i : Nat), kill hp ids i = if i ∈ ids then .dead else hp i
  | [], i => by simp [kill]
  | j :: ids, i => by
    simp only [kill, upd_eq, kill_eq hp ids i, List.mem_cons]
    by_cases h1 : i = j
    · simp [h1]
    · simp [h1]

theorem rel_kill (h : Rel E s a w g) (ids : List Nat) (hu : ∀ id, id ∈ ids → (s.hp id).used = true ∧ ∀ e n, s.hp id ≠ .grow e n) :
    Rel E (s.kill ids) a w ⟨immK s g ids, g.blk, g.val⟩ ∧ GExt w g s.hp w ⟨immK s g ids, g.blk, g.val⟩ (kill s.hp ids) := by
  have e : GExt w g s.hp w ⟨immK s g ids, g.blk, g.val⟩ (kill s.hp ids) := by
    refine ⟨⟨fun _ _ h => .inl h, fun _ _ _ => rfl⟩, fun i hi => ?_, fun _ _ _ => rfl, fun _ _ _ => rfl, fun i hi hg => ?_, fun i ee n hi hg => ?_⟩
    · rw [kill_eq]; split
      · rfl
      · exact hi
    · rw [kill_eq]; split
      · simp
      · exact hg
    · rw [kill_eq] at hg
      split at hg
      · simp at hg
      · exact ⟨n, hg, Nat.le_refl _, fun _ => rfl⟩
  have hlv : ∀ i, (kill s.hp ids i).live = true → (s.hp i).live = true ∧ i ∉ ids := fun i hi => by
    rw [kill_eq] at hi
    split at hi
    · simp [Obj.live] at hi
    · rename_i hn; exact ⟨hi, hn⟩
  refine ⟨⟨fun t => RepV.ext e _ _ (h.slots t), fun i => ?_, fun i j b hij hi hj => h.dist i j b hij (hlv i hi).1 (hlv j hj).1, fun b o hi => ?_, fun k => RepP.ext e.ext (h.globs k), fun i b hi => h.low i b (hlv i hi).1, h.frame, h.size, h.start.trans e.ext, fun b o hi hb => ?_, h.nt, h.defers, h.old.trans e, h.io⟩, e⟩
  · show ObjRep w _ (kill s.hp ids) i (kill s.hp ids i)
    rw [kill_eq]
    split
    · trivial
    · rename_i hni
      cases hlive : (s.hp i).live with
      | true =>
        refine ObjRep.ext e hlive rfl rfl (fun _ _ => rfl) (fun b hb x hx => ?_) (h.objs i)
        rcases hx with hx | ⟨id, h1, h2, h3, _⟩
        · exact hx
        · exact absurd h3 (h.dist i id b (fun eq => hni (eq ▸ h1)) hlive h2 hb)
      | false => cases hh : s.hp i <;> simp_all [Obj.live, ObjRep]
  · rcases hi with hi | ⟨id, h1, h2, h3, _⟩
    · exact h.bound b o hi
    · exact (h.objs id).lt h2 h3
  · rcases hi with hi | ⟨id, h1, h2, h3, _⟩
    · exact h.fresh b o hi hb
    · rcases h.low id b h2 h3 with h4 | h4
      · omega
      · exact .inr h4

section pure
variable {ids : List Nat}
theorem leaf0_ok (h : Rel E s a w g) {v : V} {u : Value} {x : D} (hv : RepV w g s.hp v u) (hx : leaf0 s.hp v = some x) (hi : ∀ id, id ∈ ids0 v → id ∈ ids) : RepD w (immK s g ids) x u := by
  have ex : Ext w g.imm w (immK s g ids) := ⟨fun _ _ h => .inl h, fun _ _ _ => rfl⟩
  unfold leaf0 at hx
  split at hx
  · injection hx with hx; subst hx
    simp only [RepV] at hv
    exact hv.ext ex
  · injection hx with hx; subst hx
    simp only [RepV] at hv
    exact hv.2.1.ext ex
  · rename_i id
    split at hx
    · rename_i full e rows hid
      injection hx with hx; subst hx
      simp only [RepV] at hv
      have hob := h.objs id
      rw [hid] at hob
      obtain ⟨A, c, h1, h2, h3, h4, h5, h6, h7⟩ := hob
      rw [hv.2.1, h1]
      cases hblk : g.blk id with
      | none =>
        have := h6 hblk
        subst this
        exact .slc full e [] A c (fun _ _ => Go.undef) h2 h3 h4 (by simp) (by simp) (by simp) (by simp)
      | some b =>
        obtain ⟨h8, h9, us, t, h10, h11⟩ := h7 b hblk
        refine .slc full e rows A c (fun i j => (us[i * e + j]?).getD Go.undef) h2 h3 h4 h5 (fun _ => ⟨b, 0, h8⟩) (fun b' o' ha i r hi' j y hj => ?_) (fun i r hi' j y hj => ?_)
        · rw [h8] at ha
          injection ha with ha; injection ha with ha1 ha2; subst ha1; subst ha2
          obtain ⟨y', hy, _⟩ := h11 i r hi' j y hj
          refine ⟨.inr ⟨id, hi id (by simp [ids0]), by rw [hid]; rfl, hblk, by rw [hid]; simp⟩, ?_⟩
          rw [cell_of h10, Nat.zero_add, hy]; rfl
        · obtain ⟨y', hy, hr⟩ := h11 i r hi' j y hj
          simpa [hy] using hr.ext ex
    · simp at hx
  · simp at hx

theorem leafs_ok {f : V → Option D} {im : Imm} : ∀ {cs : List V} {us : List Value} {l : List D}, (∀ c u x, c ∈ cs → RepV w g s.hp c u → f c = some x → RepD w im x u) → leafs f cs = some l → RepVs w g s.hp cs us →
    l.length = us.length ∧ ∀ (i : Nat) x u, l[i]? = some x → us[i]? = some u → RepD w im x u
  | [], us, l, hf, hl, h => by
    simp only [leafs, Option.some.injEq] at hl
    simp only [RepVs] at h
    subst hl; subst h; simp
  | c :: cs, us, l, hf, hl, h => by
    simp only [RepVs] at h
    obtain ⟨u, us', rfl, h1, h2⟩ := h
    unfold leafs at hl
    split at hl
    · rename_i x xs hx hxs
      injection hl with hl
      subst hl
      obtain ⟨i1, i2⟩ := leafs_ok (fun c u x hc => hf c u x (List.mem_cons_of_mem _ hc)) hxs h2
      refine ⟨by simp [i1], fun i y u' hy hu' => ?_⟩
      cases i with
      | zero => simp at hy hu'; subst hy; subst hu'; exact hf c _ _ List.mem_cons_self h1 hx
      | succ i => exact i2 i y u' (by simpa using hy) (by simpa using hu')
    · simp at hl

theorem leaf1_ok (h : Rel E s a w g) {v : V} {u : Value} {x : D} (hv : RepV w g s.hp v u) (hx : leaf1 s.hp v = some x) (hi : ∀ id, id ∈ ids1 s.hp v → id ∈ ids) : RepD w (immK s g ids) x u := by
  unfold leaf1 at hx
  split at hx
  · rename_i id off
    split at hx
    · rename_i cells hid
      cases hl : leafs (leaf0 s.hp) (cells.drop off) with
      | none => simp [hl] at hx
      | some l =>
        simp only [hl, Option.map_some, Option.some.injEq] at hx
        subst hx
        simp only [RepV] at hv
        obtain ⟨h1, h2, b, h3, h4⟩ := hv
        have hob := h.objs id
        rw [hid] at hob
        obtain ⟨b', us, t, h5, h6, h7, h8⟩ := hob
        rw [h3] at h5; injection h5 with h5; subst h5
        obtain ⟨l1, l2⟩ := leafs_ok (im := immK s g ids) (fun c u x hc hcu hcx => leaf0_ok h hcu hcx (fun id' hid' => hi id' (by
          simp only [ids1, hid, List.mem_cons, List.mem_flatMap]
          exact .inr ⟨c, hc, hid'⟩))) hl (h7.drop off)
        subst h4
        have hll : l.length = us.size - off := by simpa using l1
        rw [Nat.zero_mul, Nat.zero_add]
        refine .ptr l b off (fun j => (us[off + j]?).getD Go.undef) (fun j y hj => ?_) (fun j y hj => ?_)
        · have hjl := (List.getElem?_eq_some_iff.1 hj).1
          refine ⟨.inr ⟨id, hi id (by simp [ids1]), by rw [hid]; rfl, h3, by rw [hid]; simp⟩, ?_⟩
          rw [cell_of h6]
          have : off + j < us.size := by omega
          simp [this]
        · have hjl := (List.getElem?_eq_some_iff.1 hj).1
          have hlt : off + j < us.size := by omega
          have hr := l2 j y us[off + j] hj (by rw [List.getElem?_drop, Array.getElem?_toList]; simp [hlt])
          rw [Array.getElem?_eq_getElem hlt]
          exact hr
    · simp at hx
  · rename_i hne
    refine leaf0_ok h hv hx (fun id hid => hi id ?_)
    cases v <;> simp_all [ids0, ids1]

theorem leaf2_ok (h : Rel E s a w g) {v : V} {u : Value} {x : D} (hv : RepV w g s.hp v u) (hx : leaf2 s.hp v = some x) (hi : ∀ id, id ∈ idsV s.hp v → id ∈ ids) : RepD w (immK s g ids) x u := by
  unfold leaf2 at hx
  split at hx
  · rename_i f caps
    cases hl : leafs (leaf1 s.hp) caps with
    | none => simp [hl] at hx
    | some l =>
      simp only [hl, Option.map_some, Option.some.injEq] at hx
      subst hx
      simp only [RepV] at hv
      obtain ⟨us, rfl, hr⟩ := hv
      obtain ⟨l1, l2⟩ := leafs_ok (im := immK s g ids) (fun c u x hc hcu hcx => leaf1_ok h hcu hcx (fun id' hid' => hi id' (by
        simp only [idsV, List.mem_flatMap]
        exact ⟨c, hc, hid'⟩))) hl hr
      have := RepD.fn (w := w) (imm := immK s g ids) f l us.toList (by simpa using l1.symm) (fun j y u' hy hu' => l2 j y u' hy hu')
      simpa using this
  · rename_i hne
    refine leaf1_ok h hv hx (fun id hid => hi id ?_)
    cases v <;> simp_all [ids0, ids1, idsV]

theorem pureV_ok (h : Rel E s a w g) {v v' : V} {u : Value} (hv : RepV w g s.hp v u) (hx : pureV s.hp v = some v') (hi : ∀ id, id ∈ idsV s.hp v → id ∈ ids) : RepP w (immK s g ids) v' u := by
  unfold pureV at hx
  unfold RepP
  split at hx
  · rename_i cs
    cases hl : leafs (leaf0 s.hp) cs with
    | none => simp [hl] at hx
    | some l =>
      simp only [hl, Option.map_some, Option.some.injEq] at hx
      subst hx
      simp only [RepV] at hv ⊢
      obtain ⟨us, rfl, hr⟩ := hv
      obtain ⟨l1, l2⟩ := leafs_ok (im := immK s g ids) (fun c u x hc hcu hcx => leaf0_ok h hcu hcx (fun id' hid' => hi id' (by
        simp only [idsV, List.mem_flatMap]
        exact ⟨c, hc, hid'⟩))) hl hr
      exact ⟨us, rfl, RepVs.ofD rfl l1.symm l2⟩
  · simp at hx
  · cases hl : leaf2 s.hp v with
    | none => simp [hl] at hx
    | some x =>
      simp only [hl, Option.map_some, Option.some.injEq] at hx
      subst hx
      simp only [RepV]
      exact leaf2_ok h hv hl hi

theorem pureVs_ok (h : Rel E s a w g) : ∀ {vs vs' : List V} {us : List Value}, RepVs w g s.hp vs us → pureVs s.hp vs = some vs' → (∀ id, id ∈ vs.flatMap (idsV s.hp) → id ∈ ids) → RepPs w (immK s g ids) vs' us
  | [], vs', us, hv, hx, hi => by
    simp only [pureVs, Option.some.injEq] at hx
    subst hx
    simpa [RepPs, RepVs] using hv
  | v :: vs, vs', us, hv, hx, hi => by
    simp only [RepVs] at hv
    obtain ⟨u, us', rfl, h1, h2⟩ := hv
    unfold pureVs at hx
    split at hx
    · rename_i x xs hx1 hx2
      injection hx with hx
      subst hx
      unfold RepPs
      simp only [RepVs]
      exact ⟨u, us', rfl, pureV_ok h h1 hx1 (fun id hid => hi id (by simp [hid])), pureVs_ok h h2 hx2 (fun id hid => hi id (by simp only [List.flatMap_cons, List.mem_append]; exact .inr hid))⟩
    · simp at hx
end pure

mutual
theorem ids_used (h : Rel E s a w g) : ∀ (v : V) (u : Value), RepV w g s.hp v u → ∀ id, id ∈ ids0 v → (s.hp id).used = true ∧ ∀ e n, s.hp id ≠ .grow e n
  | .own i, u, hv, id, hi => by
    simp only [ids0, List.mem_singleton] at hi
    subst hi
    simp only [RepV] at hv
    exact ⟨hv.1, hv.2.2.1⟩
  | .undef, u, hv, id, hi => by simp [ids0] at hi
  | .d _, u, hv, id, hi => by simp [ids0] at hi
  | .ref .., u, hv, id, hi => by simp [ids0] at hi
  | .osl .., u, hv, id, hi => by simp [ids0] at hi
  | .agg _, u, hv, id, hi => by simp [ids0] at hi
  | .tup _, u, hv, id, hi => by simp [ids0] at hi
  | .clo .., u, hv, id, hi => by simp [ids0] at hi
end

theorem idss_used (h : Rel E s a w g) {f : V → List Nat} (hf : ∀ v u, RepV w g s.hp v u → ∀ id, id ∈ f v → (s.hp id).used = true ∧ ∀ e n, s.hp id ≠ .grow e n) : ∀ {vs : List V} {us : List Value}, RepVs w g s.hp vs us → ∀ id, id ∈ vs.flatMap f → (s.hp id).used = true ∧ ∀ e n, s.hp id ≠ .grow e n
  | [], us, hv, id, hi => by simp at hi
  | v :: vs, us, hv, id, hi => by
    simp only [RepVs] at hv
    obtain ⟨u, us', rfl, h1, h2⟩ := hv
    simp only [List.flatMap_cons, List.mem_append] at hi
    rcases hi with hi | hi
    · exact hf v u h1 id hi
    · exact idss_used h hf h2 id hi

theorem ids1_used (h : Rel E s a w g) (v : V) (u : Value) (hv : RepV w g s.hp v u) (id : Nat) (hi : id ∈ ids1 s.hp v) : (s.hp id).used = true ∧ ∀ e n, s.hp id ≠ .grow e n := by
  unfold ids1 at hi
  split at hi
  · rename_i i r e off
    simp only [RepV] at hv
    rcases List.mem_cons.1 hi with rfl | hi
    · exact ⟨hv.1, hv.2.1⟩
    · split at hi
      · rename_i cells hid
        have hob := h.objs i
        rw [hid] at hob
        obtain ⟨b, us, t, _, _, hr, _⟩ := hob
        exact idss_used h (fun v u => ids_used h v u) (hr.drop off) id hi
      · simp at hi
  · exact ids_used h v u hv id hi

theorem idsV_used (h : Rel E s a w g) (v : V) (u : Value) (hv : RepV w g s.hp v u) (id : Nat) (hi : id ∈ idsV s.hp v) : (s.hp id).used = true ∧ ∀ e n, s.hp id ≠ .grow e n := by
  unfold idsV at hi
  split at hi
  · simp only [RepV] at hv
    obtain ⟨us, _, hr⟩ := hv
    exact idss_used h (fun v u => ids_used h v u) hr id hi
  · simp only [RepV] at hv
    obtain ⟨us, _, hr⟩ := hv
    exact idss_used h (fun v u => ids1_used h v u) hr id hi
  · exact ids1_used h v u hv id hi

/-- A call of a function of which something is told. -/
theorem sound_call {c : Call} {x : Operand} {f : FuncId} {caps : List D} {args : List V} (ho : o.op = .call c) (hx : c.callee = .value x) (h : Rel E s a w g) (hd : ∀ d, o.dst = some d → d < E.nt)
    (hev : ev E.glob s x = .d (.fn f caps)) (hargs : pureVs s.hp (c.args.toList.map (ev E.glob s)) = some args) {φ : V → Prop} (hC : ACalls E.P E.glob f (args ++ caps.map .d) φ)
    (hk : ∀ r, φ r → match r.scalar with
          | true => putK s o.dst r K
          | false => putK (s.kill ((c.args.toList.map (ev E.glob s)).flatMap (idsV s.hp))) o.dst r K) : OpOk E o a w K := by
  obtain ⟨⟨fn, code, hf1, hf2, hf3⟩, hC⟩ := hC
  generalize hids : (c.args.toList.map (ev E.glob s)).flatMap (idsV s.hp) = ids at hk
  have hevs := evs_rep h c.args.toList
  have hus := idss_used h (fun v u => idsV_used h v u) hevs
  rw [hids] at hus
  obtain ⟨hK, hKe⟩ := rel_kill h ids hus
  have hpa := pureVs_ok (ids := ids) h hevs hargs (fun id hi => by rw [← hids]; exact hi)
  have hfv := rel_ev h x
  rw [hev] at hfv
  simp only [RepV] at hfv
  generalize hfe : a.eval x = fe at hfv
  cases hfv with
  | fn _ _ cus hcl hcr =>
    have hall : RepPs w (immK s g ids) (args ++ caps.map .d) (c.args.toList.map a.eval ++ cus) := by
      refine RepVs.of_get (by have := RepVs.len hpa; simp at this ⊢; omega) fun i v u hv hu => ?_
      have hal := RepVs.len hpa
      rcases Nat.lt_or_ge i args.length with hlt | hge
      · rw [List.getElem?_append_left hlt] at hv
        rw [List.getElem?_append_left (by omega)] at hu
        obtain ⟨u', hu', hr⟩ := RepVs.get hpa hv
        rw [hu'] at hu; injection hu with hu; subst hu; exact hr
      · rw [List.getElem?_append_right hge] at hv
        rw [List.getElem?_append_right (by omega), hal] at hu
        rw [List.getElem?_map] at hv
        cases hc : caps[i - args.length]? with
        | none => simp [hc] at hv
        | some y =>
          simp only [hc, Option.map_some, Option.some.injEq] at hv
          subst hv
          simp only [RepV, gh0]
          exact (hcr _ y u hc hu).ext hKe.ext
    have hcall := hC w (immK s g ids) (c.args.toList.map a.eval ++ cus) hK.bound (fun k => RepP.ext hKe.ext (h.globs k)) hall
    intro next Q hn
    unfold Oper.wp execOp
    rw [ho]
    have hcn : callFunc f ((c.args.toList.map a.eval ++ cus).toArray) = (do
        match (← program).funcs[f]? with
        | none => stuck "call: no such function"
        | some fn =>
          if fn.name == "runtime.NumGoroutine" then pure .numGoroutine
          else if fn.body.isNone then
            mark (.extern f)
            if let some e := Extern.findNext fn then return ← e ((c.args.toList.map a.eval ++ cus).toArray)
            match Extern.find fn with
            | some e => pure (.value (← e ((c.args.toList.map a.eval ++ cus).toArray)))
            | none =>
              if fn.name.endsWith ".init" && !fn.name.startsWith "(" && !fn.name.startsWith "gosem." then pure (.value (.tuple #[]))
              else unsupported (.extern fn.name)
          else pure (.enter f ((c.args.toList.map a.eval ++ cus).toArray))) := rfl
    have hrun : (callFunc f ((c.args.toList.map a.eval ++ cus).toArray)).run E.P w = .ok (.enter f ((c.args.toList.map a.eval ++ cus).toArray)) w := by
      rw [hcn]
      simp only [Sem.run_bind, run_program, Result.andThen_ok, hf1, hf3, hf2, Option.isNone_some, Bool.false_eq_true, if_false, Sem.run_pure]
    have hargsEq : #[] ++ c.args.map a.eval ++ cus.toArray = (c.args.toList.map a.eval ++ cus).toArray := by
      apply Array.ext'; simp
    simp only [resolve, hx, hfe, Deferred.ofValue, pure_bind, invoke]
    rw [hargsEq, hrun]
    simp only [Oper.upon]
    refine hcall.mono fun e w' hout => ?_
    obtain ⟨u, r, imm', rfl, hφ, hrep, h1, h2, h3, h4, h5, h6⟩ := hout.out
    have hk := hk r hφ
    show next (a.put o.dst u) w'
    split at hk
    · rename_i hsc
      rw [putK_eq] at hk
      obtain ⟨hR, _⟩ := rel_on (w' := w') (imm' := g.imm) h h1 h2 (fun _ _ h => h) (fun _ _ h _ _ _ => h) (fun b o hi => by have := h.bound b o hi; omega) (fun _ _ h _ => h) h6
      exact hn _ _ _ _ hk (rel_put hR (RepP.scalar r u hsc hrep) hd)
    · rw [putK_eq] at hk
      obtain ⟨hR, _⟩ := rel_on (w' := w') (imm' := imm') hK h1 h2 h3 (fun b o hi id hl hb => h5 b o hi ((hK.objs id).lt hl hb)) h4 h5 h6
      exact hn _ _ _ _ hk (rel_put hR (RepP.to rfl _ r u hrep) hd)

end Go.Proofs.Ytnnmkenloijkcaa.Eng
