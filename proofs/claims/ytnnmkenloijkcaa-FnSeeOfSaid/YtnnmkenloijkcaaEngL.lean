/- The engine, part L: appending to what grows; slices of literals; slices made. -/
import Derived.Test.YtnnmkenloijkcaaEngK2
set_option linter.unusedVariables false
set_option linter.unusedSimpArgs false
namespace Go.Proofs.Ytnnmkenloijkcaa.Eng
open Go

variable {E : Env} {s : St} {a : Act} {w : World} {g : Gh} {T : Tab} {C : Ctr} {q : Bool} {o : Oper} {K : St → Prop}

theorem rel_grow (h : Rel E s a w g) {tok e n n' : Nat} (hold : s.hp tok = .grow e n) (hn : n < n') {w' : World} {g' : Gh}
    (hsz : w.heap.size ≤ w'.heap.size) (hheap : ∀ b, b < w.heap.size → g.blk tok ≠ some b → w'.heap[b]? = w.heap[b]?)
    (hcell : ∀ b o, g.imm b o → w'.cell? ⟨b, o, none⟩ = w.cell? ⟨b, o, none⟩)
    (himm1 : ∀ b o, g.imm b o → g'.imm b o) (himm2 : ∀ b o, g'.imm b o → g.imm b o ∨ w.heap.size ≤ b ∨ g.blk tok = some b) (himm3 : ∀ b o, g'.imm b o → b < w'.heap.size)
    (hblk : ∀ i, i ≠ tok → g'.blk i = g.blk i) (hval : ∀ i, i ≠ tok → g'.val i = g.val i) (hnew : ∀ b, g'.blk tok = some b → w.heap.size ≤ b ∨ g.blk tok = some b)
    (hob : GExt w g s.hp w' g' (upd s.hp tok (.grow e n')) → ObjRep w' g' (upd s.hp tok (.grow e n')) tok (.grow e n')) (hio : SameIO w w' := by exact ⟨rfl, rfl⟩) :
    Rel E ⟨s.sl, upd s.hp tok (.grow e n')⟩ a w' g' ∧ GExt w g s.hp w' g' (upd s.hp tok (.grow e n')) := by
  have hlt : ∀ i b, (s.hp i).live = true → g.blk i = some b → b < w.heap.size := fun i b hi hb => (h.objs i).lt hi hb
  have htl : (s.hp tok).live = true := by rw [hold]; rfl
  have e' : GExt w g s.hp w' g' (upd s.hp tok (.grow e n')) := by
    refine ⟨⟨himm1, hcell⟩, fun i hu => ?_, fun i hu hg => hblk i ?_, fun i hu hg => hval i ?_, fun i hu hg => ?_, fun i ee m hu hg => ?_⟩
    · by_cases h1 : i = tok
      · subst h1; rw [upd_same]; rfl
      · rw [upd_ne _ _ h1]; exact hu
    · rintro rfl; exact hg _ _ hold
    · rintro rfl; exact hg _ _ hold
    · by_cases h1 : i = tok
      · subst h1; exact absurd hold (hg _ _)
      · rw [upd_ne _ _ h1]; exact hg
    · by_cases h1 : i = tok
      · subst h1
        rw [upd_same] at hg
        injection hg with h2 h3
        subst h2; subst h3
        exact ⟨n, hold, by omega, fun he => by omega⟩
      · rw [upd_ne _ _ h1] at hg
        exact ⟨m, hg, Nat.le_refl _, fun _ => hval i h1⟩
  have hlv : ∀ i, (upd s.hp tok (.grow e n') i).live = true → (s.hp i).live = true := fun i hi => by
    by_cases h1 : i = tok
    · subst h1; exact htl
    · rwa [upd_ne _ _ h1] at hi
  have hnb : ∀ i b, i ≠ tok → (s.hp i).live = true → g.blk i = some b → g.blk tok ≠ some b := fun i b hi hl hb => h.dist i tok b hi hl htl hb
  refine ⟨⟨fun t => RepV.ext e' _ _ (h.slots t), fun i => ?_, fun i j b hij hi hj hb hb' => ?_, himm3, fun k => RepP.ext e'.ext (h.globs k), fun i b hi hb => ?_, fun b hb hn => ?_, Nat.le_trans h.size hsz, h.start.trans e'.ext, fun b o hi hb => ?_, h.nt, h.defers, h.old.trans e', h.io.trans hio⟩, e'⟩
  · by_cases h1 : i = tok
    · subst h1; simp only [upd_same]; exact hob e'
    · simp only [upd_ne _ _ h1]
      cases hlive : (s.hp i).live with
      | true =>
        refine ObjRep.ext e' hlive (hblk i h1) (hval i h1) (fun b hb => hheap b (hlt i b hlive hb) (hnb i b h1 hlive hb)) (fun b hb x hx => ?_) (h.objs i)
        rcases himm2 b x hx with h' | h' | h'
        · exact h'
        · have := hlt i b hlive hb; omega
        · exact absurd h' (hnb i b h1 hlive hb)
      | false => cases hh : s.hp i <;> simp_all [Obj.live, ObjRep]
  · have hi' := hlv i hi
    have hj' := hlv j hj
    have side : ∀ i j, i = tok → i ≠ j → (s.hp j).live = true → g'.blk i = some b → g'.blk j = some b → False := by
      intro i j h1 hij hjl hb hb'
      subst h1
      rw [hblk j (fun e => hij e.symm)] at hb'
      rcases hnew b hb with h2 | h2
      · have := hlt j b hjl hb'; omega
      · exact h.dist i j b hij htl hjl h2 hb'
    by_cases h1 : i = tok
    · exact side i j h1 hij hj' hb hb'
    · by_cases h2 : j = tok
      · exact side j i h2 (fun e => hij e.symm) hi' hb' hb
      · rw [hblk i h1] at hb; rw [hblk j h2] at hb'
        exact h.dist i j b hij hi' hj' hb hb'
  · by_cases h1 : i = tok
    · subst h1
      rcases hnew b hb with h2 | h2
      · exact .inl (Nat.le_trans h.size h2)
      · exact h.low i b htl h2
    · rw [hblk i h1] at hb; exact h.low i b (hlv i hi) hb
  · have hs := h.size
    have : g.blk tok ≠ some b := fun hb' => by
      rcases h.low tok b htl hb' with h' | h'
      · omega
      · exact hn h'
    rw [hheap b (by omega) this]; exact h.frame b hb hn
  · rcases himm2 b o hi with h' | h' | h'
    · exact h.fresh b o h' hb
    · have := h.size; omega
    · rcases h.low tok b htl h' with h2 | h2
      · omega
      · exact .inr h2

/-- Appending to what grows. -/
theorem sound_append_grow {c : Call} {x y : Operand} {t : TypeId} {d tok n : Nat} {ti : TI} (ho : o.op = .call c) (hb : c.callee = .builtin .append) (hx : c.args.toList = [x, y]) (ht : c.argTypes.toList = [t, t]) (hdst : o.dst = some d)
    (hT : TIok E.P t ti) (hg : ti.slc = true) (h : Rel E s a w g) (hd : ∀ d, o.dst = some d → d < E.nt) {rows rows2 : List (List D)} {e0 : Nat}
    (hxe : ev E.glob s x = .osl tok ti.esz rows) (hy : rowsOf s.hp (ev E.glob s y) = some (ti.esz, rows2)) (hold : s.hp tok = .grow e0 n) (hnr : n = rows.length)
    (hb1 : (rows.length + rows2.length) * ti.ebytes ≤ 2 ^ 47) (hb2 : rows.length + rows2.length ≤ 2 ^ 47)
    (hk : K ⟨upd s.sl d (.osl tok ti.esz (rows ++ rows2)), upd s.hp tok (.grow ti.esz (rows.length + rows2.length))⟩) : OpOk E o a w K := by
  subst hnr
  obtain ⟨hu, hz, ie, hi, hsz, hby, z, hz1, hz2, hzc⟩ := hT.slc hg
  obtain ⟨ha1, ha2⟩ := append_args (a := a) hx ht
  obtain ⟨cs, hex⟩ := exec_builtin (o := o) (a := a) ho hb
  rw [ha1, ha2] at hex
  have hvx := rel_ev h x
  have hvy := rel_ev h y
  obtain ⟨A2, c2, news2, e2, _, _, l2, p2, r2, o2⟩ := rows_cells hz h.objs hvy hy
  have hx1 : rowsOf s.hp (ev E.glob s x) = some (ti.esz, rows) := by rw [hxe]; rfl
  obtain ⟨A1, c1, news1, e1, hc1, hn1, l1, p1, r1, o1⟩ := rows_cells hz h.objs hvx hx1
  rw [hxe] at hvx
  simp only [RepV] at hvx
  obtain ⟨hus, hrd, hcur⟩ := hvx
  obtain ⟨he0, _, hval⟩ := hcur e0 _ hold
  subst he0
  have hval := hval rfl
  have hob := h.objs tok
  rw [hold] at hob
  obtain ⟨A0, c0, ob1, ob2, ob3, ob4, ob5⟩ := hob
  rw [e1, ob1] at hval
  injection hval with hA hl hc
  subst hA; subst hc
  rw [e1, e2] at hex
  have hlen : (rows ++ rows2).length = rows.length + rows2.length := by simp
  by_cases hm : rows2.length = 0
  · have hr2 : rows2 = [] := List.length_eq_zero_iff.1 hm
    subst hr2
    have hrun := run_app_keep (P := E.P) (ty := o.type) hu hi (B := A1) (n := rows.length) (c := c1) (A := A2) (k := c2) hc1 w
    refine op_value (u := a.eval x) (w' := w) (g' := g) ?_ hk ?_
    · rw [hex, e1]
      simp only [builtin, List.length_nil, hrun, Sem.run_bind, Result.andThen_ok, Sem.run_pure]
    · have hup : upd s.hp tok (.grow ti.esz (rows.length + ([] : List (List D)).length)) = s.hp := by
        funext i
        rw [upd_eq]
        split
        · rename_i hi; subst hi; rw [hold]; simp
        · rfl
      rw [hdst, hup]
      refine rel_put (dst := some d) (s := s) h ?_ (by rintro d' ⟨⟩; exact hd d hdst)
      simp only [RepV, List.append_nil]
      exact ⟨hus, hrd, hcur⟩
  · by_cases hroom : rows.length + rows2.length ≤ c1
    · -- there is room
      cases hblk : g.blk tok with
      | none => have := ob4 hblk; omega
      | some b =>
        obtain ⟨q1, q2, us, tt, q3, q4⟩ := ob5 b hblk
        subst q1
        have hfit : rows.length * ie.size + news2.length ≤ us.size := by rw [hsz, l2, q4, ← Nat.add_mul]; exact Nat.mul_le_mul_right _ hroom
        have hrun := run_app_room (P := E.P) (ty := o.type) (w := w) hu hi q3 (A := A2) (m := rows2.length) (c := c2) (news := news2) (by rw [l2, hsz]) (fun hne => p2 (by rintro rfl; simp at l2; exact hne l2)) o2 hroom hfit
        rw [hsz] at hrun hfit
        generalize hnc : (us.toList.take (rows.length * ti.esz) ++ news2 ++ us.toList.drop (rows.length * ti.esz + news2.length)).toArray = cells at hrun
        have hcsz : cells.size = us.size := by subst hnc; simp; omega
        have hkeep : ∀ j, j < rows.length * ti.esz → cells[j]? = us[j]? := fun j hj => by
          subst hnc
          simp only [List.getElem?_toArray]
          rw [List.append_assoc, List.getElem?_append_left (by simp; omega), List.getElem?_take, if_pos hj]
          simp
        have hnews : ∀ j, j < news2.length → cells[rows.length * ti.esz + j]? = news2[j]? := fun j hj => by
          subst hnc
          simp only [List.getElem?_toArray]
          have htk : (us.toList.take (rows.length * ti.esz)).length = rows.length * ti.esz := by simp; omega
          rw [List.append_assoc, List.getElem?_append_right (by omega), List.getElem?_append_left (by rw [htk]; omega), htk]
          congr 1; omega
        have himm : ∀ o, g.imm b o → o < rows.length * ti.esz := fun o hi => by
          rcases Nat.lt_or_ge o (rows.length * ti.esz) with h' | h'
          · exact h'
          · exact absurd hi (q2 o h')
        obtain ⟨hR, hE⟩ := rel_grow (n' := rows.length + rows2.length) (g' := ⟨fun b' o => g.imm b' o ∨ (b' = b ∧ o < (rows.length + rows2.length) * ti.esz), g.blk, upd g.val tok (.slice (some ⟨b, 0, none⟩) (rows.length + rows2.length) c1)⟩)
          (w' := w.setRow b cells) h hold (by omega) (by simp) (fun b' _ hb' => setRow_other w b b' _ (fun e => hb' (by rw [hblk, e])))
          (fun b' o hi => by
            by_cases hbb : b' = b
            · subst hbb
              rw [cell_of (setRow_heap w b' us cells tt _ q3), cell_of q3]
              exact hkeep o (himm o hi)
            · exact cell_heap (setRow_other w b b' _ hbb) o)
          (fun _ _ h => .inl h) (fun b' o hi => by rcases hi with hi | ⟨rfl, _⟩; exact .inl hi; exact .inr (.inr hblk))
          (fun b' o hi => by
            rcases hi with hi | ⟨rfl, _⟩
            · have := h.bound b' o hi; simpa using this
            · have := (h.objs tok).lt (by rw [hold]; rfl) hblk; simpa using this)
          (fun _ _ => rfl) (fun i hi => upd_ne _ _ hi) (fun b' hb' => .inr hb')
          (fun e => ⟨some ⟨b, 0, none⟩, c1, by simp [upd_same], hroom, by omega, fun hn => by rw [hblk] at hn; simp at hn, fun b' hb' => by
            rw [hblk] at hb'
            injection hb' with hb'
            subst hb'
            refine ⟨rfl, fun o ho hi => ?_, cells, tt, setRow_heap w b us cells tt _ q3, by rw [hcsz, q4]⟩
            rcases hi with hi | ⟨_, hi⟩
            · have h1 := himm o hi
              have : rows.length * ti.esz ≤ (rows.length + rows2.length) * ti.esz := Nat.mul_le_mul_right _ (by omega)
              omega
            · omega⟩)
        refine op_value (u := .slice (some ⟨b, 0, none⟩) (rows.length + rows2.length) c1) (w' := w.setRow b cells) (g' := ⟨fun b' o => g.imm b' o ∨ (b' = b ∧ o < (rows.length + rows2.length) * ti.esz), g.blk, upd g.val tok (.slice (some ⟨b, 0, none⟩) (rows.length + rows2.length) c1)⟩) ?_ hk ?_
        · rw [hex]
          simp only [builtin, hrun, Sem.run_bind, Result.andThen_ok, Sem.run_pure]
        · rw [hdst]
          refine rel_put (dst := some d) hR ?_ (by rintro d' ⟨⟩; exact hd d hdst)
          simp only [RepV, upd_same]
          refine ⟨rfl, ?_, fun e' n' he => ?_⟩
          · have hh := repD_own (w' := w.setRow b cells) (imm' := fun b' o => g.imm b' o ∨ (b' = b ∧ o < (rows.length + rows2.length) * ti.esz)) (b := b) (e := ti.esz) (c := c1) (us := cells) (tt := tt) (rows := rows ++ rows2)
              (setRow_heap w b us cells tt _ q3) (fun o ho => .inr ⟨rfl, by rw [hlen] at ho; exact ho⟩) (by rw [hlen]; exact hroom) (by rw [hlen]; omega) (fun i r hi => by
                rcases Nat.lt_or_ge i rows.length with hlt | hge'
                · rw [List.getElem?_append_left hlt] at hi
                  obtain ⟨k1, k2⟩ := r1 i r hi
                  refine ⟨k1, fun j x hj => ?_⟩
                  obtain ⟨u, hu1, hu2⟩ := k2 j x hj
                  have hjl := (List.getElem?_eq_some_iff.1 hu1).1
                  refine ⟨u, ?_, hu2.ext hE.ext⟩
                  rw [hkeep _ (by omega)]
                  have hrne : rows ≠ [] := by rintro rfl; simp at hlt
                  obtain ⟨b', off', hbb, hcc⟩ := p1 hrne
                  injection hbb with hbb
                  injection hbb with hb1 hb2
                  subst hb1; subst hb2
                  rw [← cell_of q3, ← hcc _ _ hu1, Nat.zero_add]
                · rw [List.getElem?_append_right hge'] at hi
                  obtain ⟨k1, k2⟩ := r2 _ r hi
                  refine ⟨k1, fun j x hj => ?_⟩
                  obtain ⟨u, hu1, hu2⟩ := k2 j x hj
                  have hjl := (List.getElem?_eq_some_iff.1 hu1).1
                  refine ⟨u, ?_, hu2.ext hE.ext⟩
                  have hmul : i * ti.esz = rows.length * ti.esz + (i - rows.length) * ti.esz := by rw [← Nat.add_mul]; congr 1; omega
                  rw [show i * ti.esz + j = rows.length * ti.esz + ((i - rows.length) * ti.esz + j) by omega, hnews _ hjl]
                  exact hu1)
            rw [hlen] at hh
            exact hh
          · simp only [Obj.grow.injEq] at he
            obtain ⟨h1, h2⟩ := he
            exact ⟨h1.symm, by rw [hlen]; omega, fun _ => trivial⟩
    · -- a new block
      have hge := grownCap_ge w (rows.length + rows2.length) c1 ti.elem
      have hrun := run_app_grow (P := E.P) (ty := o.type) (w := w) hu hi hz1 (B := A1) (sLen := rows.length) (sCap := c1) (olds := news1) (by rw [l1, hsz]) (fun hne => p1 (by rintro rfl; simp at l1; exact hne l1))
        (A := A2) (m := rows2.length) (c := c2) (news := news2) (by rw [l2, hsz]) (fun hne => p2 (by rintro rfl; simp at l2; exact hne l2)) (by omega) hb2 (by rw [hby]; exact hb1)
      have hcsz : (news1.toArray ++ news2.toArray ++ Builtin.zeroCells z.cells (grownCap w (rows.length + rows2.length) c1 ti.elem - (rows.length + rows2.length))).size = grownCap w (rows.length + rows2.length) c1 ti.elem * ti.esz := by
        simp only [Array.size_append, List.size_toArray, size_zeroCells, hzc, l1, l2, ← Nat.add_mul]
        congr 1
        omega
      have hrows : ∀ (w' : World) (imm' : Imm), Ext w g.imm w' imm' → ∀ (i : Nat) (r : List D), (rows ++ rows2)[i]? = some r → r.length = ti.esz ∧ ∀ (j : Nat) (x : D), r[j]? = some x →
          ∃ u, (news1.toArray ++ news2.toArray ++ Builtin.zeroCells z.cells (grownCap w (rows.length + rows2.length) c1 ti.elem - (rows.length + rows2.length)))[i * ti.esz + j]? = some u ∧ RepD w' imm' x u := by
        intro w' imm' ex i r hi
        rcases Nat.lt_or_ge i rows.length with hlt | hge'
        · rw [List.getElem?_append_left hlt] at hi
          obtain ⟨q1, q2⟩ := r1 i r hi
          refine ⟨q1, fun j x hj => ?_⟩
          obtain ⟨u, hu1, hu2⟩ := q2 j x hj
          refine ⟨u, ?_, hu2.ext ex⟩
          have hb := (List.getElem?_eq_some_iff.1 hu1).1
          rw [Array.append_assoc, Array.getElem?_append_left (by simpa using hb)]
          simpa using hu1
        · rw [List.getElem?_append_right hge'] at hi
          obtain ⟨q1, q2⟩ := r2 _ r hi
          refine ⟨q1, fun j x hj => ?_⟩
          obtain ⟨u, hu1, hu2⟩ := q2 j x hj
          refine ⟨u, ?_, hu2.ext ex⟩
          have hb := (List.getElem?_eq_some_iff.1 hu1).1
          have hmul : i * ti.esz = rows.length * ti.esz + (i - rows.length) * ti.esz := by rw [← Nat.add_mul]; congr 1; omega
          rw [Array.append_assoc, Array.getElem?_append_right (by simp; omega), Array.getElem?_append_left (by simp; omega)]
          rw [show i * ti.esz + j - news1.toArray.size = (i - rows.length) * ti.esz + j by simp; omega]
          simpa using hu1
      generalize hcells : (news1.toArray ++ news2.toArray ++ Builtin.zeroCells z.cells (grownCap w (rows.length + rows2.length) c1 ti.elem - (rows.length + rows2.length))) = cells at hrun hcsz hrows
      generalize hcap : grownCap w (rows.length + rows2.length) c1 ti.elem = cap at *
      obtain ⟨hR, hE⟩ := rel_grow (n' := rows.length + rows2.length) (g' := ⟨fun b o => g.imm b o ∨ (b = w.heap.size ∧ o < (rows.length + rows2.length) * ti.esz), upd g.blk tok (some w.heap.size), upd g.val tok (.slice (some ⟨w.heap.size, 0, none⟩) (rows.length + rows2.length) cap)⟩)
        (w' := w.drew.alloc (.cells cells ti.elem)) h hold (by omega) (by simp) (fun b hb _ => heap_alloc_lt w.drew _ hb)
        (fun b o hi => cell_heap (heap_alloc_lt w.drew _ (h.bound b o hi)) o)
        (fun _ _ h => .inl h) (fun b o hi => by rcases hi with hi | ⟨rfl, _⟩; exact .inl hi; exact .inr (.inl (Nat.le_refl _)))
        (fun b o hi => by
          rcases hi with hi | ⟨rfl, _⟩
          · have := h.bound b o hi; simp; omega
          · simp)
        (fun i hi => upd_ne _ _ hi) (fun i hi => upd_ne _ _ hi) (fun b hb => by simp only [upd_same, Option.some.injEq] at hb; exact .inl (by omega))
        (fun e => ⟨some ⟨w.heap.size, 0, none⟩, cap, by simp [upd_same], hge, by omega, fun hn => by simp [upd_same] at hn, fun b hb => by
          simp only [upd_same, Option.some.injEq] at hb
          subst hb
          refine ⟨rfl, fun o ho hi => ?_, cells, ti.elem, heap_alloc_new w.drew _, hcsz⟩
          rcases hi with hi | ⟨_, hi⟩
          · have := h.bound _ _ hi; omega
          · omega⟩)
      refine op_value (w' := w.drew.alloc (.cells cells ti.elem)) ?_ hk (g' := ⟨fun b o => g.imm b o ∨ (b = w.heap.size ∧ o < (rows.length + rows2.length) * ti.esz), upd g.blk tok (some w.heap.size), upd g.val tok (.slice (some ⟨w.heap.size, 0, none⟩) (rows.length + rows2.length) cap)⟩) ?_
        (u := .slice (some ⟨w.heap.size, 0, none⟩) (rows.length + rows2.length) cap)
      · rw [hex]
        simp only [builtin, hrun, Sem.run_bind, Result.andThen_ok, Sem.run_pure]
      · rw [hdst]
        refine rel_put (dst := some d) hR ?_ (by rintro d' ⟨⟩; exact hd d hdst)
        simp only [RepV, upd_same]
        refine ⟨rfl, ?_, fun e' n' he => ?_⟩
        · have := repD_own (w' := w.drew.alloc (.cells cells ti.elem)) (imm' := fun b o => g.imm b o ∨ (b = w.heap.size ∧ o < (rows.length + rows2.length) * ti.esz)) (b := w.heap.size) (e := ti.esz) (c := cap) (us := cells) (tt := ti.elem) (rows := rows ++ rows2)
            (heap_alloc_new w.drew _) (fun o ho => .inr ⟨rfl, by rw [hlen] at ho; exact ho⟩) (by rw [hlen]; exact hge) (by rw [hlen]; omega) (hrows _ _ hE.ext)
          rw [hlen] at this
          exact this
        · simp only [Obj.grow.injEq] at he
          obtain ⟨h1, h2⟩ := he
          exact ⟨h1.symm, by rw [hlen]; omega, fun _ => trivial⟩

end Go.Proofs.Ytnnmkenloijkcaa.Eng
