/- The engine, part O0: a call that is given objects. RepV.weak and RepVs.weak stand here. -/
import Derived.Test.YtnnmkenloijkcaaEngN2
set_option linter.unusedVariables false
set_option linter.unusedSimpArgs false
namespace Go.Proofs.Ytnnmkenloijkcaa.Eng
open Go

variable {E : Env} {s : St} {a : Act} {w : World} {g : Gh} {T : Tab} {C : Ctr} {q : Bool} {o : Oper} {K : St → Prop}

mutual
theorem RepV.weak {hp hp' : Nat → Obj} {ids : List Nat} (hids : ∀ id, id ∈ ids → hp' id = hp id) : ∀ (v : V) (u : Value), okV ids v = true → RepV w g hp v u → RepV w g hp' v u
  | .undef, u, ho, h => by simp [RepV]
  | .d x, u, ho, h => by simpa only [RepV] using h
  | .ref id r e f, u, ho, h => by
    simp only [okV, List.contains_iff_mem] at ho
    simp only [RepV] at h ⊢
    rw [hids id ho]; exact h
  | .own id, u, ho, h => by
    simp only [okV, List.contains_iff_mem] at ho
    simp only [RepV] at h ⊢
    rw [hids id ho]; exact h
  | .osl id e rows, u, ho, h => by
    simp only [okV, List.contains_iff_mem] at ho
    simp only [RepV] at h ⊢
    rw [hids id ho]; exact h
  | .agg cs, u, ho, h => by
    simp only [okV] at ho
    simp only [RepV] at h ⊢
    obtain ⟨us, rfl, h⟩ := h
    exact ⟨us, rfl, RepVs.weak hids cs _ ho h⟩
  | .tup cs, u, ho, h => by
    simp only [okV] at ho
    simp only [RepV] at h ⊢
    obtain ⟨us, rfl, h⟩ := h
    exact ⟨us, rfl, RepVs.weak hids cs _ ho h⟩
  | .clo f cs, u, ho, h => by
    simp only [okV] at ho
    simp only [RepV] at h ⊢
    obtain ⟨us, rfl, h⟩ := h
    exact ⟨us, rfl, RepVs.weak hids cs _ ho h⟩
theorem RepVs.weak {hp hp' : Nat → Obj} {ids : List Nat} (hids : ∀ id, id ∈ ids → hp' id = hp id) : ∀ (vs : List V) (us : List Value), okVs ids vs = true → RepVs w g hp vs us → RepVs w g hp' vs us
  | [], us, ho, h => by simpa [RepVs] using h
  | c :: cs, us, ho, h => by
    simp only [okVs, Bool.and_eq_true] at ho
    simp only [RepVs] at h ⊢
    obtain ⟨u, us', rfl, h1, h2⟩ := h
    exact ⟨u, us', rfl, RepV.weak hids c u ho.1 h1, RepVs.weak hids cs us' ho.2 h2⟩
end

/-- A call that is given objects, and gives objects back. -/
theorem sound_hcall {c : Call} {x : Operand} {f : FuncId} {caps : List D} (ho : o.op = .call c) (hx : c.callee = .value x) (h : Rel E s a w g) (hd : ∀ d, o.dst = some d → d < E.nt)
    (hev : ev E.glob s x = .d (.fn f caps)) {hin : HP} (hwk : weakHp s (hin.map (·.1)) hin) (hok : okVs (hin.map (·.1)) (c.args.toList.map (ev E.glob s)) = true) {φ : V → HP → Prop}
    (hC : HCalls E.P E.glob f (hpOf hin) (c.args.toList.map (ev E.glob s) ++ caps.map .d) φ)
    (hk : ∀ r l, φ r l → freshHp s (hin.map (·.1)) l ∧ putK ⟨s.sl, overlay s.hp l⟩ o.dst r K) : OpOk E o a w K := by
  obtain ⟨⟨fn, code, hf1, hf2, hf3⟩, hC⟩ := hC
  have hevs := evs_rep h c.args.toList
  have hids : ∀ id, id ∈ hin.map (·.1) → hpOf hin id = s.hp id := fun id hi => (hpOf_in hwk id hi).1.symm
  have hevs' := RepVs.weak hids _ _ hok hevs
  have hno : ∀ id, (hpOf hin id).used = true → id ∈ hin.map (·.1) := fun id hi => by
    apply Classical.byContradiction
    intro hn
    rw [(overlay_out (hp := fun _ => .none) hn).2] at hi; simp [Obj.used] at hi
  have hfv := rel_ev h x
  rw [hev] at hfv
  simp only [RepV] at hfv
  generalize hfe : a.eval x = fe at hfv
  cases hfv with
  | fn _ _ cus hcl hcr =>
    have hall : RepVs w g (hpOf hin) (c.args.toList.map (ev E.glob s) ++ caps.map .d) (c.args.toList.map a.eval ++ cus) := by
      refine RepVs.of_get (by have := RepVs.len hevs'; simp at this ⊢; omega) fun i v u hv hu => ?_
      have hal := RepVs.len hevs'
      rcases Nat.lt_or_ge i (c.args.toList.map (ev E.glob s)).length with hlt | hge
      · rw [List.getElem?_append_left hlt] at hv
        rw [List.getElem?_append_left (by omega)] at hu
        obtain ⟨u', hu', hr⟩ := RepVs.get hevs' hv
        rw [hu'] at hu; injection hu with hu; subst hu; exact hr
      · rw [List.getElem?_append_right hge] at hv
        rw [List.getElem?_append_right (by omega), hal] at hu
        generalize i - (c.args.toList.map (ev E.glob s)).length = k at hv hu
        rw [List.getElem?_map] at hv
        cases hc : caps[k]? with
        | none => rw [hc] at hv; simp at hv
        | some y =>
          rw [hc] at hv
          simp only [Option.map_some, Option.some.injEq] at hv
          subst hv
          simp only [RepV]
          exact hcr _ y u hc hu
    have hobj : ∀ id, ObjRep w g (hpOf hin) id (hpOf hin id) := fun id => by
      cases hlive : (hpOf hin id).live with
      | false => cases hh : hpOf hin id <;> simp_all [Obj.live, ObjRep]
      | true =>
        have hi := hno id (Obj.live_used hlive)
        have hob := h.objs id
        obtain ⟨q1, q2⟩ := hpOf_in hwk id hi
        rw [q1] at hob q2
        cases hh : hpOf hin id with
        | none => trivial
        | dead => trivial
        | box cells =>
          rw [hh] at hob q2
          obtain ⟨b, us, e, p1, p2, p3, p4⟩ := hob
          exact ⟨b, us, e, p1, p2, RepVs.weak hids _ _ q2 p3, p4⟩
        | arr full e rows => rw [hh] at hob; exact hob
        | grow e n => rw [hh] at hob; exact hob
    have hin1 : ∀ i, (hpOf hin i).live = true → (s.hp i).live = true := fun i hi => by rw [← hids i (hno i (Obj.live_used hi))]; exact hi
    have hcall := hC w g (c.args.toList.map a.eval ++ cus) h.bound h.globs hall hobj (fun i j b hij hi hj => h.dist i j b hij (hin1 i hi) (hin1 j hj))
    intro next Q hn
    unfold Oper.wp execOp
    rw [ho]
    have hcn : callFunc f ((c.args.toList.map a.eval ++ cus).toArray) = (do
        match (← program).funcs[f]? with
        | none => stuck "call: no such function"
        | some fn =>
          if fn.name == "runtime.NumGoroutine" then pure .numGoroutine
          else if fn.body.isNone then
            mark (.extern f)
            if let some e := Extern.findNext fn then return ← e ((c.args.toList.map a.eval ++ cus).toArray)
            match Extern.find fn with
            | some e => pure (.value (← e ((c.args.toList.map a.eval ++ cus).toArray)))
            | none =>
              if fn.name.endsWith ".init" && !fn.name.startsWith "(" && !fn.name.startsWith "gosem." then pure (.value (.tuple #[]))
              else unsupported (.extern fn.name)
          else pure (.enter f ((c.args.toList.map a.eval ++ cus).toArray))) := rfl
    have hrun : (callFunc f ((c.args.toList.map a.eval ++ cus).toArray)).run E.P w = .ok (.enter f ((c.args.toList.map a.eval ++ cus).toArray)) w := by
      rw [hcn]
      simp only [Sem.run_bind, run_program, Result.andThen_ok, hf1, hf3, hf2, Option.isNone_some, Bool.false_eq_true, if_false, Sem.run_pure]
    have hargsEq : #[] ++ c.args.map a.eval ++ cus.toArray = (c.args.toList.map a.eval ++ cus).toArray := by
      apply Array.ext'; simp
    simp only [resolve, hx, hfe, Deferred.ofValue, pure_bind, invoke]
    rw [hargsEq, hrun]
    simp only [Oper.upon]
    refine hcall.mono fun e w' hout => ?_
    obtain ⟨u, r, l, g', rfl, hφ, hl, hrep, p1, p2, p3, p4, p5, p6, p7, p8, p9⟩ := hout.out
    obtain ⟨hfr, hk⟩ := hk r l hφ
    show next (a.put o.dst u) w'
    rw [putK_eq] at hk
    obtain ⟨g2, hR, e2⟩ := rel_heap h hwk hfr hl p1 p2 p3 p4 p5 p6 p7 p8 p9
    exact hn _ _ _ _ hk (rel_put hR (RepV.ext e2 _ _ hrep) hd)

end Go.Proofs.Ytnnmkenloijkcaa.Eng
