/- The engine, part K2: an append onto nothing: an array of the call's own. -/
import Derived.Test.YtnnmkenloijkcaaEngK
set_option linter.unusedVariables false
set_option linter.unusedSimpArgs false
namespace Go.Proofs.Ytnnmkenloijkcaa.Eng
open Go

variable {E : Env} {s : St} {a : Act} {w : World} {g : Gh} {T : Tab} {C : Ctr} {q : Bool} {o : Oper} {K : St → Prop}

theorem sound_append_own {c : Call} {x y : Operand} {t : TypeId} {d : Nat} {ti : TI} (ho : o.op = .call c) (hb : c.callee = .builtin .append) (hx : c.args.toList = [x, y]) (ht : c.argTypes.toList = [t, t]) (hdst : o.dst = some d)
    (hT : TIok E.P t ti) (hg : ti.slc = true) (h : Rel E s a w g) (hd : ∀ d, o.dst = some d → d < E.nt) {rows2 : List (List D)}
    (hxe : ev E.glob s x = .d (.slc true ti.esz [])) (hy : rowsOf s.hp (ev E.glob s y) = some (ti.esz, rows2)) (hnone : s.hp d = .none)
    (hb1 : rows2.length * ti.ebytes ≤ 2 ^ 47) (hb2 : rows2.length ≤ 2 ^ 47)
    (hk : K ⟨upd s.sl d (.own d), upd s.hp d (.arr false ti.esz rows2)⟩) : OpOk E o a w K := by
  obtain ⟨hu, hz, ie, hi, hsz, hby, z, hz1, hz2, hzc⟩ := hT.slc hg
  obtain ⟨ha1, ha2⟩ := append_args (a := a) hx ht
  obtain ⟨cs, hex⟩ := exec_builtin (o := o) (a := a) ho hb
  rw [ha1, ha2] at hex
  have hvx := rel_ev h x
  have hvy := rel_ev h y
  obtain ⟨A2, c2, news2, e2, _, _, l2, p2, r2, o2⟩ := rows_cells hz h.objs hvy hy
  have hx1 : rowsOf s.hp (ev E.glob s x) = some (ti.esz, []) := by rw [hxe]; rfl
  obtain ⟨A1, c1, news1, e1, hc1, hn1, l1, p1, r1, o1⟩ := rows_cells hz h.objs hvx hx1
  have hfull : c1 = 0 := by
    rw [hxe] at hvx
    simp only [RepV] at hvx
    rw [e1] at hvx
    cases hvx with
    | slc _ _ _ _ _ vals hc hn hf hrow hA hcell hrep => exact hf rfl
  subst hfull
  have hnews1 : news1 = [] := List.length_eq_zero_iff.1 (by simpa using l1)
  subst hnews1
  rw [e1, e2] at hex
  by_cases hm : rows2.length = 0
  · have hr2 : rows2 = [] := List.length_eq_zero_iff.1 hm
    subst hr2
    have hrun := run_app_keep (P := E.P) (ty := o.type) hu hi (B := A1) (n := 0) (c := 0) (A := A2) (k := c2) (Nat.le_refl _) w
    obtain ⟨hR, hE⟩ := rel_fresh (ob := .arr false ti.esz []) (g' := ⟨g.imm, upd g.blk d none, upd g.val d (a.eval x)⟩) (w' := w) h hnone rfl (Nat.le_refl _) (fun _ _ => rfl) (fun _ _ h => h) (fun _ _ h => .inl h) h.bound
      (fun i hi => upd_ne _ _ hi) (fun i hi => upd_ne _ _ hi) (fun b hb => by simp [upd_same] at hb)
      (fun e => ⟨A1, 0, by simp [upd_same, e1], by simp, by simp, by simp, by simp, fun _ => rfl, fun b hb => by simp [upd_same] at hb⟩)
    refine op_value (u := a.eval x) (w' := w) (g' := ⟨g.imm, upd g.blk d none, upd g.val d (a.eval x)⟩) ?_ hk ?_
    · rw [hex, e1]
      simp only [builtin, List.length_nil, hrun, Sem.run_bind, Result.andThen_ok, Sem.run_pure]
    · rw [hdst]
      have hrv : RepV w ⟨g.imm, upd g.blk d none, upd g.val d (a.eval x)⟩ (upd s.hp d (.arr false ti.esz [])) (.own d) (a.eval x) := by
        simp only [RepV, upd_same]
        exact ⟨by first | rfl | trivial, by first | rfl | trivial, by simp, A1, _, _, e1⟩
      exact rel_put (dst := some d) hR hrv (by rintro d' ⟨⟩; exact hd d hdst)
  · have hge := grownCap_ge w (0 + rows2.length) 0 ti.elem
    have hrun := run_app_grow (P := E.P) (ty := o.type) (w := w) hu hi hz1 (B := A1) (sLen := 0) (sCap := 0) (olds := []) (by simp) (fun hne => absurd rfl hne)
      (A := A2) (m := rows2.length) (c := c2) (news := news2) (by rw [l2, hsz]) (fun hne => p2 (by rintro rfl; simp at l2; exact hne l2)) (by omega) (by omega) (by rw [hby]; simpa using hb1)
    have hrows : ∀ (w' : World) (imm' : Imm), Ext w g.imm w' imm' → ∀ (i : Nat) (r : List D), rows2[i]? = some r → r.length = ti.esz ∧ ∀ (j : Nat) (x : D), r[j]? = some x →
        ∃ u, (([] : List Value).toArray ++ news2.toArray ++ Builtin.zeroCells z.cells (grownCap w (0 + rows2.length) 0 ti.elem - (0 + rows2.length)))[i * ti.esz + j]? = some u ∧ RepD w' imm' x u := by
      intro w' imm' ex i r hi
      obtain ⟨q1, q2⟩ := r2 _ r hi
      refine ⟨q1, fun j x hj => ?_⟩
      obtain ⟨u, hu1, hu2⟩ := q2 j x hj
      refine ⟨u, ?_, hu2.ext ex⟩
      have hb := (List.getElem?_eq_some_iff.1 hu1).1
      rw [Array.append_assoc, Array.getElem?_append_right (by simp), Array.getElem?_append_left (by simp; omega)]
      simpa using hu1
    generalize hcells : (([] : List Value).toArray ++ news2.toArray ++ Builtin.zeroCells z.cells (grownCap w (0 + rows2.length) 0 ti.elem - (0 + rows2.length))) = cells at hrun hrows
    generalize hcap : grownCap w (0 + rows2.length) 0 ti.elem = cap at *
    simp only [Nat.zero_add] at hrun hge
    obtain ⟨hR, hE⟩ := rel_fresh (ob := .arr false ti.esz rows2) (g' := ⟨g.imm, upd g.blk d (some w.heap.size), upd g.val d (.slice (some ⟨w.heap.size, 0, none⟩) rows2.length cap)⟩)
      (w' := w.drew.alloc (.cells cells ti.elem)) h hnone rfl (by simp) (fun b hb => heap_alloc_lt w.drew _ hb)
      (fun _ _ h => h) (fun b o hi => .inl hi)
      (fun b o hi => by have := h.bound b o hi; simp; omega)
      (fun i hi => upd_ne _ _ hi) (fun i hi => upd_ne _ _ hi) (fun b hb => by simp only [upd_same, Option.some.injEq] at hb; omega)
      (fun e => ⟨some ⟨w.heap.size, 0, none⟩, cap, by simp [upd_same], hge, by omega, by simp, fun i r hi => (hrows _ _ (Ext.refl _ _) i r hi).1, fun hn => by simp [upd_same] at hn, fun b hb => by
        simp only [upd_same, Option.some.injEq] at hb
        subst hb
        exact ⟨rfl, fun o hi => by have := h.bound _ _ hi; omega, cells, ti.elem, heap_alloc_new w.drew _, fun i r hi => (hrows _ _ e.ext i r hi).2⟩⟩)
    refine op_value (w' := w.drew.alloc (.cells cells ti.elem)) ?_ hk (g' := ⟨g.imm, upd g.blk d (some w.heap.size), upd g.val d (.slice (some ⟨w.heap.size, 0, none⟩) rows2.length cap)⟩) ?_
      (u := .slice (some ⟨w.heap.size, 0, none⟩) rows2.length cap)
    · rw [hex]
      simp only [builtin, List.length_nil, hrun, Sem.run_bind, Result.andThen_ok, Sem.run_pure]
    · rw [hdst]
      refine rel_put (dst := some d) hR ?_ (by rintro d' ⟨⟩; exact hd d hdst)
      simp only [RepV, upd_same]
      exact ⟨by first | rfl | trivial, by first | rfl | trivial, by simp, _, _, _, rfl⟩

end Go.Proofs.Ytnnmkenloijkcaa.Eng
