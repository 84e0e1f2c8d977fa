/- The engine, part K: slices made, and appended to. -/
import Derived.Test.YtnnmkenloijkcaaEngJ
import Derived.Laws.AppendOwn
set_option linter.unusedVariables false
set_option linter.unusedSimpArgs false
namespace Go.Proofs.Ytnnmkenloijkcaa.Eng
open Go

variable {E : Env} {s : St} {a : Act} {w : World} {g : Gh} {T : Tab} {C : Ctr} {q : Bool} {o : Oper} {K : St → Prop}

/-- The cells of a value that is read as a slice, in a row. -/
theorem rows_cells {hp : Nat → Obj} {v : V} {u : Value} {e : Nat} {rows : List (List D)} (he : e ≠ 0) (ho : ∀ id, ObjRep w g hp id (hp id)) (h : RepV w g hp v u) (hr : rowsOf hp v = some (e, rows)) :
    ∃ (A : Option Addr) (c : Nat) (news : List Value), u = .slice A rows.length c ∧ rows.length ≤ c ∧ rows.length ≤ 2 ^ 48 ∧ news.length = rows.length * e ∧
      (rows ≠ [] → ∃ b off, A = some ⟨b, off, none⟩ ∧ ∀ (j : Nat) x, news[j]? = some x → w.cell? ⟨b, off + j, none⟩ = some x) ∧
      (∀ (i : Nat) r, rows[i]? = some r → r.length = e ∧ ∀ (j : Nat) x, r[j]? = some x → ∃ y, news[i * e + j]? = some y ∧ RepD w g.imm x y) ∧ ∀ x ∈ news, x.oneCell' = true := by
  have build : ∀ (val : Nat → Nat → Value), (∀ (i : Nat) r, rows[i]? = some r → r.length = e ∧ ∀ (j : Nat) x, r[j]? = some x → RepD w g.imm x (val i j)) →
      ∃ news : List Value, news = (List.range (rows.length * e)).map (fun k => val (k / e) (k % e)) ∧ news.length = rows.length * e ∧
      (∀ (i : Nat) r, rows[i]? = some r → r.length = e ∧ ∀ (j : Nat) x, r[j]? = some x → ∃ y, news[i * e + j]? = some y ∧ RepD w g.imm x y) ∧ ∀ x ∈ news, x.oneCell' = true := by
    intro val hv
    refine ⟨_, rfl, by simp, fun i r hi => ⟨(hv i r hi).1, fun j x hj => ?_⟩, fun x hx => ?_⟩
    · obtain ⟨hl, hv⟩ := hv i r hi
      have hil := (List.getElem?_eq_some_iff.1 hi).1
      have hjl : j < e := by have := (List.getElem?_eq_some_iff.1 hj).1; omega
      refine ⟨val i j, ?_, hv j x hj⟩
      have hk : i * e + j < rows.length * e := by
        have : i * e + e ≤ rows.length * e := by rw [← Nat.succ_mul]; exact Nat.mul_le_mul_right _ hil
        omega
      have h1 : (i * e + j) / e = i := by rw [Nat.mul_comm, Nat.mul_add_div (by omega)]; simp [Nat.div_eq_of_lt hjl]
      have h2 : (i * e + j) % e = j := by rw [Nat.mul_comm, Nat.mul_add_mod]; exact Nat.mod_eq_of_lt hjl
      simp [hk, h1, h2]
    · obtain ⟨k, hk, rfl⟩ := List.mem_map.1 hx
      have hk : k < rows.length * e := by simpa using hk
      have hi : k / e < rows.length := by rw [Nat.div_lt_iff_lt_mul (by omega)]; exact hk
      obtain ⟨hl, hv⟩ := hv (k / e) _ (List.getElem?_eq_getElem hi)
      have hj : k % e < rows[k / e].length := by rw [hl]; exact Nat.mod_lt _ (by omega)
      exact RepV.one (g := g) (hp := hp) (v := .d rows[k / e][k % e]) (by simp only [RepV]; exact hv _ _ (List.getElem?_eq_getElem hj)) rfl
  have hD : ∀ (full : Bool), RepD w g.imm (.slc full e rows) u → ∃ (A : Option Addr) (c : Nat) (news : List Value), u = .slice A rows.length c ∧ rows.length ≤ c ∧ rows.length ≤ 2 ^ 48 ∧ news.length = rows.length * e ∧
      (rows ≠ [] → ∃ b off, A = some ⟨b, off, none⟩ ∧ ∀ (j : Nat) x, news[j]? = some x → w.cell? ⟨b, off + j, none⟩ = some x) ∧
      (∀ (i : Nat) r, rows[i]? = some r → r.length = e ∧ ∀ (j : Nat) x, r[j]? = some x → ∃ y, news[i * e + j]? = some y ∧ RepD w g.imm x y) ∧ ∀ x ∈ news, x.oneCell' = true := by
    intro full h
    cases h with
    | slc _ esz _ A c vals hc hn hf hrow hA hcell hrep =>
      obtain ⟨news, rfl, h1, h2, h3⟩ := build vals (fun i r hi => ⟨hrow i r hi, fun j x hj => hrep i r hi j x hj⟩)
      refine ⟨A, c, _, rfl, hc, hn, h1, fun hne => ?_, h2, h3⟩
      obtain ⟨b, off, hA'⟩ := hA hne
      refine ⟨b, off, hA', fun k x hk => ?_⟩
      have hk' : k < rows.length * e := by have := (List.getElem?_eq_some_iff.1 hk).1; simpa using this
      have hi : k / e < rows.length := by rw [Nat.div_lt_iff_lt_mul (by omega)]; exact hk'
      have hj : k % e < rows[k / e].length := by rw [hrow _ _ (List.getElem?_eq_getElem hi)]; exact Nat.mod_lt _ (by omega)
      have := (hcell b off hA' (k / e) _ (List.getElem?_eq_getElem hi) (k % e) _ (List.getElem?_eq_getElem hj)).2
      simp [hk'] at hk
      rw [← hk, ← this]
      congr 2
      have := Nat.div_add_mod k e
      rw [Nat.mul_comm] at this
      omega
  unfold rowsOf at hr
  split at hr
  · injection hr with hr; injection hr with h1 h2; subst h1; subst h2
    simp only [RepV] at h
    exact hD _ h
  · injection hr with hr; injection hr with h1 h2; subst h1; subst h2
    simp only [RepV] at h
    exact hD _ h.2.1
  · rename_i id
    split at hr
    · rename_i full e' rows' hid
      injection hr with hr; injection hr with h1 h2; subst h1; subst h2
      simp only [RepV] at h
      have hob := ho id
      rw [hid] at hob
      obtain ⟨A, c, h1, h2, h3, h4, h5, h6, h7⟩ := hob
      cases hblk : g.blk id with
      | none =>
        have := h6 hblk
        subst this
        exact ⟨A, c, [], by rw [h.2.1, h1], h2, h3, by simp, by simp, by simp, by simp⟩
      | some b =>
        obtain ⟨h8, h9, us, t, h10, h11⟩ := h7 b hblk
        obtain ⟨news, rfl, k1, k2, k3⟩ := build (fun i j => (us[i * e' + j]?).getD Go.undef) (fun i r hi => ⟨h5 i r hi, fun j x hj => by
          obtain ⟨y, hy, hry⟩ := h11 i r hi j x hj
          simpa [hy] using hry⟩)
        refine ⟨A, c, _, by rw [h.2.1, h1], h2, h3, k1, fun hne => ⟨b, 0, h8, fun k x hk => ?_⟩, k2, k3⟩
        have hk' : k < rows'.length * e' := by have := (List.getElem?_eq_some_iff.1 hk).1; simpa using this
        have hi : k / e' < rows'.length := by rw [Nat.div_lt_iff_lt_mul (by omega)]; exact hk'
        have hj : k % e' < rows'[k / e'].length := by rw [h5 _ _ (List.getElem?_eq_getElem hi)]; exact Nat.mod_lt _ (by omega)
        obtain ⟨y, hy, _⟩ := h11 (k / e') _ (List.getElem?_eq_getElem hi) (k % e') _ (List.getElem?_eq_getElem hj)
        simp [hk', hy] at hk
        rw [cell_of h10, Nat.zero_add]
        have := Nat.div_add_mod k e'
        rw [Nat.mul_comm] at this
        rw [this] at hy
        rw [hy, hk]
    · simp at hr
  · simp at hr

section runs
variable {P : Program} {t ty e : TypeId} {i : TypeInfo}

theorem run_firstCells_row {w' : World} (hh : w'.heap = w.heap) {A : Option Addr} {m c size : Nat} {news : List Value} (hl : news.length = m * size)
    (hA : news ≠ [] → ∃ b off, A = some ⟨b, off, none⟩ ∧ ∀ (j : Nat) x, news[j]? = some x → w.cell? ⟨b, off + j, none⟩ = some x) :
    (Builtin.firstCells size m (.slice A m c)).run P w' = .ok news.toArray w' := by
  cases A with
  | none =>
    have : news = [] := by
      rcases news with _ | ⟨x, xs⟩
      · rfl
      · obtain ⟨b, off, h, _⟩ := hA (by simp)
        simp at h
    subst this
    exact run_firstCells_none w' size m m c
  | some ad =>
    refine run_firstCells_some w' size m ad m c news hl (fun j v hj => ?_)
    obtain ⟨b, off, h, hc⟩ := hA (by rintro rfl; simp at hj)
    injection h with h
    subst h
    rw [addr_add, ← hc j v hj]
    unfold World.cell?
    rw [hh]

theorem run_app_keep (ht : P.underlying t = some (.slice e)) (hi : P.info? e = some i) {B : Option Addr} {n c : Nat} {A : Option Addr} {k : Nat} (hcap : n ≤ c) (w : World) :
    (Builtin.append_ #[t, t] ty #[.slice B n c, .slice A 0 k]).run P w = .ok (.slice B n c) w := by
  have hf : (Builtin.firstCells i.size 0 (.slice A 0 k)).run P w = .ok #[] w := by
    have := run_firstCells_row (P := P) (w := w) (w' := w) rfl (A := A) (m := 0) (c := k) (size := i.size) (news := []) (by simp) (by simp)
    simpa using this
  cases B with
  | none => simp [Builtin.append_, run_underlying ht, sizeOf, typeInfo, hi, Builtin.lenOf, hcap, hf]
  | some b => simp [Builtin.append_, run_underlying ht, sizeOf, typeInfo, hi, Builtin.lenOf, hcap, hf, storeCells]

theorem run_app_room (ht : P.underlying t = some (.slice e)) (hi : P.info? e = some i) {b sLen sCap : Nat} {cur : Array Value} {tt : TypeId} (hg : w.heap[b]? = some (.cells cur tt (0, 0)))
    {A : Option Addr} {m c : Nat} {news : List Value} (hl : news.length = m * i.size) (hA : news ≠ [] → ∃ b off, A = some ⟨b, off, none⟩ ∧ ∀ (j : Nat) x, news[j]? = some x → w.cell? ⟨b, off + j, none⟩ = some x)
    (h1 : ∀ u ∈ news, u.oneCell' = true) (hroom : sLen + m ≤ sCap) (hfit : sLen * i.size + news.length ≤ cur.size) :
    (Builtin.append_ #[t, t] ty #[.slice (some ⟨b, 0, none⟩) sLen sCap, .slice A m c]).run P w =
      .ok (.slice (some ⟨b, 0, none⟩) (sLen + m) sCap) (w.setRow b (cur.toList.take (sLen * i.size) ++ news ++ cur.toList.drop (sLen * i.size + news.length)).toArray) := by
  have hf := run_firstCells_row (P := P) (w := w) (w' := w) rfl (A := A) (m := m) (c := c) (size := i.size) hl hA
  have hst := run_storeCells_at P b (sLen * i.size) tt news 0 cur w hg (by simpa using hfit) h1
  simp only [Nat.add_zero] at hst
  simp [Builtin.append_, run_underlying ht, sizeOf, typeInfo, hi, Builtin.lenOf, hroom, hf, Addr.add_lit, hst]

theorem run_app_grow (ht : P.underlying t = some (.slice e)) (hi : P.info? e = some i) {z : Value} (hz : i.zero = some z) {B : Option Addr} {sLen sCap : Nat} {olds : List Value} (hlo : olds.length = sLen * i.size)
    (hB : olds ≠ [] → ∃ b off, B = some ⟨b, off, none⟩ ∧ ∀ (j : Nat) x, olds[j]? = some x → w.cell? ⟨b, off + j, none⟩ = some x)
    {A : Option Addr} {m c : Nat} {news : List Value} (hl : news.length = m * i.size) (hA : news ≠ [] → ∃ b off, A = some ⟨b, off, none⟩ ∧ ∀ (j : Nat) x, news[j]? = some x → w.cell? ⟨b, off + j, none⟩ = some x)
    (hg : sCap < sLen + m) (h63 : sLen + m ≤ 2 ^ 47) (hb : (sLen + m) * i.bytes ≤ 2 ^ 47) :
    (Builtin.append_ #[t, t] ty #[.slice B sLen sCap, .slice A m c]).run P w =
      .ok (.slice (some ⟨w.heap.size, 0, none⟩) (sLen + m) (grownCap w (sLen + m) sCap e))
        (w.drew.alloc (.cells (olds.toArray ++ news.toArray ++ Builtin.zeroCells z.cells (grownCap w (sLen + m) sCap e - (sLen + m))) e)) := by
  have hn : ¬ (sLen + m ≤ sCap) := by omega
  have h63' : ¬ (9223372036854775807 < ((sLen : Int) + (m : Int))) := by omega
  have hfit := growslice_fits (old := sCap) (need := sLen + m) (bytes := i.bytes) hg (by omega)
  have h48' : ¬ (281474976710656 < Builtin.nextslicecap (sLen + m) sCap * i.bytes) := by omega
  have hf := run_firstCells_row (P := P) (w := w) (w' := w.drew) rfl (A := A) (m := m) (c := c) (size := i.size) hl hA
  have hfo := run_firstCells_row (P := P) (w := w) (w' := w.drew) rfl (A := B) (m := sLen) (c := sCap) (size := i.size) hlo hB
  simp [Builtin.append_, run_underlying ht, sizeOf, typeInfo, zeroValue, hi, hz, Builtin.lenOf, hn, h63', h48', Question.forced, hf, hfo, newRow, grownCap]
  congr 2
  apply Array.ext'
  simp [List.append_assoc]
end runs

/-- Rows that lie in a block's first cells. -/
theorem repD_own {w' : World} {imm' : Imm} {b e c : Nat} {us : Array Value} {tt : TypeId} {rows : List (List D)} (hb : w'.heap[b]? = some (.cells us tt (0, 0))) (himm : ∀ o, o < rows.length * e → imm' b o) (hc : rows.length ≤ c) (hn : rows.length ≤ 2 ^ 48)
    (hrow : ∀ (i : Nat) (r : List D), rows[i]? = some r → r.length = e ∧ ∀ (j : Nat) (x : D), r[j]? = some x → ∃ u, us[i * e + j]? = some u ∧ RepD w' imm' x u) :
    RepD w' imm' (.slc false e rows) (.slice (some ⟨b, 0, none⟩) rows.length c) := by
  refine .slc false e rows _ c (fun i j => (us[i * e + j]?).getD Go.undef) hc hn (by simp) (fun i r hi => (hrow i r hi).1) (fun _ => ⟨b, 0, rfl⟩) (fun b' o' he i r hi j x hj => ?_) (fun i r hi j x hj => ?_)
  · injection he with he; injection he with h1 h2; subst h1; subst h2
    obtain ⟨hl, hx⟩ := hrow i r hi
    obtain ⟨u, hu, _⟩ := hx j x hj
    have hil := (List.getElem?_eq_some_iff.1 hi).1
    have hjl : j < e := by have := (List.getElem?_eq_some_iff.1 hj).1; omega
    have hm : i * e + e ≤ rows.length * e := by rw [← Nat.succ_mul]; exact Nat.mul_le_mul_right _ hil
    refine ⟨himm _ (by omega), ?_⟩
    rw [cell_of hb, Nat.zero_add, hu]; rfl
  · obtain ⟨_, hx⟩ := hrow i r hi
    obtain ⟨u, hu, hr⟩ := hx j x hj
    simpa [hu] using hr

theorem append_args {c : Call} {x y : Operand} {t : TypeId} (hx : c.args.toList = [x, y]) (ht : c.argTypes.toList = [t, t]) : c.args.map a.eval = #[a.eval x, a.eval y] ∧ c.argTypes = #[t, t] :=
  ⟨Array.ext' (by simp [hx]), Array.ext' (by simp [ht])⟩

/-- Appending to a slice with no room behind it: a new one. -/
theorem sound_append_new {c : Call} {x y : Operand} {t : TypeId} {d : Nat} {ti : TI} (ho : o.op = .call c) (hb : c.callee = .builtin .append) (hx : c.args.toList = [x, y]) (ht : c.argTypes.toList = [t, t]) (hdst : o.dst = some d)
    (hT : TIok E.P t ti) (hg : ti.slc = true) (h : Rel E s a w g) (hd : ∀ d, o.dst = some d → d < E.nt) {rows rows2 : List (List D)}
    (hxe : ev E.glob s x = .d (.slc true ti.esz rows)) (hy : rowsOf s.hp (ev E.glob s y) = some (ti.esz, rows2)) (hnone : s.hp d = .none)
    (hb1 : (rows.length + rows2.length) * ti.ebytes ≤ 2 ^ 47) (hb2 : rows.length + rows2.length ≤ 2 ^ 47)
    (hk : K ⟨upd s.sl d (.osl d ti.esz (rows ++ rows2)), upd s.hp d (.grow ti.esz (rows.length + rows2.length))⟩) : OpOk E o a w K := by
  obtain ⟨hu, hz, ie, hi, hsz, hby, z, hz1, hz2, hzc⟩ := hT.slc hg
  obtain ⟨ha1, ha2⟩ := append_args (a := a) hx ht
  obtain ⟨cs, hex⟩ := exec_builtin (o := o) (a := a) ho hb
  rw [ha1, ha2] at hex
  have hvx := rel_ev h x
  have hvy := rel_ev h y
  obtain ⟨A2, c2, news2, e2, _, _, l2, p2, r2, o2⟩ := rows_cells hz h.objs hvy hy
  have hx1 : rowsOf s.hp (ev E.glob s x) = some (ti.esz, rows) := by rw [hxe]; rfl
  obtain ⟨A1, c1, news1, e1, hc1, hn1, l1, p1, r1, o1⟩ := rows_cells hz h.objs hvx hx1
  have hfull : c1 = rows.length := by
    rw [hxe] at hvx
    simp only [RepV] at hvx
    rw [e1] at hvx
    cases hvx with
    | slc _ _ _ _ _ vals hc hn hf hrow hA hcell hrep => exact hf rfl
  subst hfull
  rw [e1, e2] at hex
  by_cases hm : rows2.length = 0
  · have hr2 : rows2 = [] := List.length_eq_zero_iff.1 hm
    subst hr2
    have hrun := run_app_keep (P := E.P) (ty := o.type) hu hi (B := A1) (n := rows.length) (c := rows.length) (A := A2) (k := c2) (Nat.le_refl _) w
    obtain ⟨hR, hE⟩ := rel_fresh (ob := .grow ti.esz (rows.length + 0)) (g' := ⟨g.imm, upd g.blk d none, upd g.val d (a.eval x)⟩) (w' := w) h hnone rfl (Nat.le_refl _) (fun _ _ => rfl) (fun _ _ h => h) (fun _ _ h => .inl h) h.bound
      (fun i hi => upd_ne _ _ hi) (fun i hi => upd_ne _ _ hi) (fun b hb => by simp [upd_same] at hb)
      (fun e => ⟨A1, rows.length, by simp [upd_same, e1], by omega, by omega, fun _ => rfl, fun b hb => by simp [upd_same] at hb⟩)
    refine op_value (u := a.eval x) (w' := w) (g' := ⟨g.imm, upd g.blk d none, upd g.val d (a.eval x)⟩) ?_ hk ?_
    · rw [hex, e1]
      simp only [builtin, List.length_nil, hrun, Sem.run_bind, Result.andThen_ok, Sem.run_pure]
    · rw [hdst]
      have hrv : RepV w ⟨g.imm, upd g.blk d none, upd g.val d (a.eval x)⟩ (upd s.hp d (.grow ti.esz (rows.length + 0))) (.osl d ti.esz (rows ++ [])) (a.eval x) := by
        simp only [RepV, upd_same]
        refine ⟨rfl, ?_, fun e' n' he => ?_⟩
        · rw [hxe] at hvx
          simp only [RepV] at hvx
          simpa using hvx.weak
        · simp only [Obj.grow.injEq] at he
          obtain ⟨h1, h2⟩ := he
          exact ⟨h1.symm, by simp; omega, fun _ => trivial⟩
      exact rel_put (dst := some d) hR hrv (by rintro d' ⟨⟩; exact hd d hdst)
  · have hge := grownCap_ge w (rows.length + rows2.length) rows.length ti.elem
    have hrun := run_app_grow (P := E.P) (ty := o.type) (w := w) hu hi hz1 (B := A1) (sLen := rows.length) (sCap := rows.length) (olds := news1) (by rw [l1, hsz]) (fun hne => p1 (by rintro rfl; simp at l1; exact hne l1))
      (A := A2) (m := rows2.length) (c := c2) (news := news2) (by rw [l2, hsz]) (fun hne => p2 (by rintro rfl; simp at l2; exact hne l2)) (by omega) hb2 (by rw [hby]; exact hb1)
    have hcsz : (news1.toArray ++ news2.toArray ++ Builtin.zeroCells z.cells (grownCap w (rows.length + rows2.length) rows.length ti.elem - (rows.length + rows2.length))).size = grownCap w (rows.length + rows2.length) rows.length ti.elem * ti.esz := by
      simp only [Array.size_append, List.size_toArray, size_zeroCells, hzc, l1, l2, ← Nat.add_mul]
      congr 1
      omega
    have hlen : (rows ++ rows2).length = rows.length + rows2.length := by simp
    -- the cells of the new block
    have hrows : ∀ (w' : World) (imm' : Imm), Ext w g.imm w' imm' → ∀ (i : Nat) (r : List D), (rows ++ rows2)[i]? = some r → r.length = ti.esz ∧ ∀ (j : Nat) (x : D), r[j]? = some x →
        ∃ u, (news1.toArray ++ news2.toArray ++ Builtin.zeroCells z.cells (grownCap w (rows.length + rows2.length) rows.length ti.elem - (rows.length + rows2.length)))[i * ti.esz + j]? = some u ∧ RepD w' imm' x u := by
      intro w' imm' ex i r hi
      rcases Nat.lt_or_ge i rows.length with hlt | hge'
      · rw [List.getElem?_append_left hlt] at hi
        obtain ⟨q1, q2⟩ := r1 i r hi
        refine ⟨q1, fun j x hj => ?_⟩
        obtain ⟨u, hu1, hu2⟩ := q2 j x hj
        refine ⟨u, ?_, hu2.ext ex⟩
        have hb := (List.getElem?_eq_some_iff.1 hu1).1
        rw [Array.append_assoc, Array.getElem?_append_left (by simpa using hb)]
        simpa using hu1
      · rw [List.getElem?_append_right hge'] at hi
        obtain ⟨q1, q2⟩ := r2 _ r hi
        refine ⟨q1, fun j x hj => ?_⟩
        obtain ⟨u, hu1, hu2⟩ := q2 j x hj
        refine ⟨u, ?_, hu2.ext ex⟩
        have hb := (List.getElem?_eq_some_iff.1 hu1).1
        have hmul : i * ti.esz = rows.length * ti.esz + (i - rows.length) * ti.esz := by rw [← Nat.add_mul]; congr 1; omega
        rw [Array.append_assoc, Array.getElem?_append_right (by simp; omega), Array.getElem?_append_left (by simp; omega)]
        rw [show i * ti.esz + j - news1.toArray.size = (i - rows.length) * ti.esz + j by simp; omega]
        simpa using hu1
    generalize hcells : (news1.toArray ++ news2.toArray ++ Builtin.zeroCells z.cells (grownCap w (rows.length + rows2.length) rows.length ti.elem - (rows.length + rows2.length))) = cells at hrun hcsz hrows
    generalize hcap : grownCap w (rows.length + rows2.length) rows.length ti.elem = cap at *
    obtain ⟨hR, hE⟩ := rel_fresh (ob := .grow ti.esz (rows.length + rows2.length)) (g' := ⟨fun b o => g.imm b o ∨ (b = w.heap.size ∧ o < (rows.length + rows2.length) * ti.esz), upd g.blk d (some w.heap.size), upd g.val d (.slice (some ⟨w.heap.size, 0, none⟩) (rows.length + rows2.length) cap)⟩)
      (w' := w.drew.alloc (.cells cells ti.elem)) h hnone rfl (by simp) (fun b hb => heap_alloc_lt w.drew _ hb)
      (fun _ _ h => .inl h) (fun b o hi => by rcases hi with hi | ⟨rfl, _⟩; exact .inl hi; exact .inr (Nat.le_refl _))
      (fun b o hi => by
        rcases hi with hi | ⟨rfl, _⟩
        · have := h.bound b o hi; simp; omega
        · simp)
      (fun i hi => upd_ne _ _ hi) (fun i hi => upd_ne _ _ hi) (fun b hb => by simp only [upd_same, Option.some.injEq] at hb; omega)
      (fun e => ⟨some ⟨w.heap.size, 0, none⟩, cap, by simp [upd_same], hge, by omega, fun hn => by simp [upd_same] at hn, fun b hb => by
        simp only [upd_same, Option.some.injEq] at hb
        subst hb
        refine ⟨rfl, fun o ho hi => ?_, cells, ti.elem, heap_alloc_new w.drew _, hcsz⟩
        rcases hi with hi | ⟨_, hi⟩
        · have := h.bound _ _ hi; omega
        · omega⟩)
    refine op_value (w' := w.drew.alloc (.cells cells ti.elem)) ?_ hk (g' := ⟨fun b o => g.imm b o ∨ (b = w.heap.size ∧ o < (rows.length + rows2.length) * ti.esz), upd g.blk d (some w.heap.size), upd g.val d (.slice (some ⟨w.heap.size, 0, none⟩) (rows.length + rows2.length) cap)⟩) ?_
      (u := .slice (some ⟨w.heap.size, 0, none⟩) (rows.length + rows2.length) cap)
    · rw [hex]
      simp only [builtin, hrun, Sem.run_bind, Result.andThen_ok, Sem.run_pure]
    · rw [hdst]
      refine rel_put (dst := some d) hR ?_ (by rintro d' ⟨⟩; exact hd d hdst)
      simp only [RepV, upd_same]
      refine ⟨rfl, ?_, fun e' n' he => ?_⟩
      · have := repD_own (w' := w.drew.alloc (.cells cells ti.elem)) (imm' := fun b o => g.imm b o ∨ (b = w.heap.size ∧ o < (rows.length + rows2.length) * ti.esz)) (b := w.heap.size) (e := ti.esz) (c := cap) (us := cells) (tt := ti.elem) (rows := rows ++ rows2)
          (heap_alloc_new w.drew _) (fun o ho => .inr ⟨rfl, by rw [hlen] at ho; exact ho⟩) (by rw [hlen]; exact hge) (by rw [hlen]; omega) (hrows _ _ hE.ext)
        rw [hlen] at this
        exact this
      · simp only [Obj.grow.injEq] at he
        obtain ⟨h1, h2⟩ := he
        exact ⟨h1.symm, by rw [hlen]; omega, fun _ => trivial⟩

end Go.Proofs.Ytnnmkenloijkcaa.Eng
