/- The engine, part Q: a function's call. -/
import Derived.Test.YtnnmkenloijkcaaEngP
set_option linter.unusedVariables false
set_option linter.unusedSimpArgs false
namespace Go.Proofs.Ytnnmkenloijkcaa.Eng
open Go

variable {E : Env} {s : St} {a : Act} {w : World} {g : Gh} {T : Tab} {C : Ctr} {q : Bool} {o : Oper} {K : St → Prop}

def nthV : List V → Nat → V
  | [], _ => .undef
  | v :: _, 0 => v
  | _ :: r, t + 1 => nthV r t
def initSt (args : List V) : St := ⟨nthV args, fun _ => .none⟩
theorem nthV_eq : ∀ (vs : List V) (t : Nat), nthV vs t = (vs[t]?).getD .undef
  | [], t => by simp [nthV]
  | v :: vs, 0 => by simp [nthV]
  | v :: vs, t + 1 => by simp [nthV, nthV_eq vs t]

/-- What a result variable holds. -/
def rawV (T : Tab) (s : St) : ResultVar → V
  | .tmp t => s.sl t
  | .cell t ty => match s.sl t, T.get ty with
    | .ref id 0 _ 0, some ti => match s.hp id with
      | .box cells => match Nat.ble ti.size cells.length with
        | true => mkV ti.agg (cells.take ti.size)
        | false => .undef
      | _ => .undef
    | _, _ => .undef
def outVs (T : Tab) (s : St) (rs : List ResultVar) : Option (List V) := pureVs s.hp (rs.map (rawV T s))
def outK (T : Tab) (rs : List ResultVar) (s : St) (φ : V → Prop) : Prop :=
  match outVs T s rs with
  | some [v] => force v φ
  | some vs => forceL vs fun vs => φ (.tup vs)
  | none => False
def finQ (T : Tab) (rs : List ResultVar) (φ : V → Prop) : Ex → St → Prop
  | .normal, s => outK T rs s φ
  | .ret, s => outK T rs s φ
  | _, _ => False

def rawOk : V → Bool
  | .undef => false
  | _ => true

theorem pureV_undef {hp : Nat → Obj} {v : V} {x : V} (h : pureV hp v = some x) : v ≠ .undef := by
  rintro rfl; simp [pureV, leaf2, leaf1, leaf0] at h

def resF (tmps : Array Value) : ResultVar → Sem Value
  | .tmp t => pure (tmps.getD t Go.undef)
  | .cell p t => do loadVar t (← asAddr (tmps.getD p Go.undef))
theorem results_eq (fn : Func) (tmps : Array Value) : results fn tmps = (do
    let vs ← fn.results.mapM (resF tmps)
    pure (if h : vs.size = 1 then vs[0] else .tuple vs)) := by
  unfold results
  have : (fun x => (match x with | .tmp t => pure (tmps.getD t Go.undef) | .cell p t => do loadVar t (← asAddr (tmps.getD p Go.undef)) : Sem Value)) = resF tmps := by
    funext r; cases r <;> rfl
  exact congrArg (fun F => (do
    let vs ← fn.results.mapM F
    pure (if h : vs.size = 1 then vs[0] else .tuple vs) : Sem Value)) this

theorem run_results (hT : tabB E.P T = true) (h : Rel E s a w g) : ∀ (rs : List ResultVar) (vs : List V), pureVs s.hp (rs.map (rawV T s)) = some vs →
    ∃ us : List Value, (rs.mapM (resF a.tmps)).run E.P w = .ok us w ∧ RepVs w g s.hp (rs.map (rawV T s)) us
  | [], vs, _ => ⟨[], by simp, by simp [RepVs]⟩
  | r :: rs, vs, hx => by
    simp only [List.map_cons] at hx
    unfold pureVs at hx
    split at hx
    · rename_i x xs hx1 hx2
      obtain ⟨us, h1, h2⟩ := run_results hT h rs xs hx2
      have hne := pureV_undef hx1
      have : ∃ u, (resF a.tmps r).run E.P w = .ok u w ∧ RepV w g s.hp (rawV T s r) u := by
        cases r with
        | tmp t => exact ⟨_, rfl, h.slots t⟩
        | cell t ty =>
          simp only [rawV] at hne ⊢
          have hs := h.slots t
          split at hne
          · rename_i id e ti hsl hti
            rw [hsl] at hs
            simp only [RepV] at hs
            obtain ⟨hu, hng, b, hb, hv⟩ := hs
            have hob := h.objs id
            split at hne
            · rename_i cells hid
              rw [hid] at hob
              obtain ⟨b', us', tt, q1, q2, q3, q4⟩ := hob
              rw [hb] at q1; injection q1 with q1; subst q1
              split at hne
              · rename_i hle
                have hle' := Nat.le_of_ble_eq_true hle
                have hlen := q3.len
                have hr := q3.take ti.size
                have hld := run_loadVarT (tab_ok hT hti) w b 0 (us'.toList.take ti.size) (by simp at hlen ⊢; omega) (fun j v hj => by
                  rw [cell_of q2, Nat.zero_add]
                  rw [List.getElem?_take] at hj
                  split at hj
                  · simpa using hj
                  · simp at hj)
                refine ⟨_, ?_, repV_mkV hr ti.agg⟩
                show (do loadVar ty (← asAddr (a.tmps.getD t Go.undef)) : Sem Value).run E.P w = _
                rw [hv]
                simp only [Nat.zero_mul, asAddr, Sem.run_bind, Sem.run_pure, Result.andThen_ok, hld]
              · exact absurd rfl hne
            · exact absurd rfl hne
          · exact absurd rfl hne
      obtain ⟨u, h3, h4⟩ := this
      refine ⟨u :: us, ?_, by simp only [List.map_cons, RepVs]; exact ⟨u, us, rfl, h4, h2⟩⟩
      simp only [List.mapM_cons, Sem.run_bind, h3, h1, Result.andThen_ok, Sem.run_pure]
    · simp at hx

/-- A function's contract, by its code. -/
theorem acalls_intro {P : Program} {G : Nat → V} {T : Tab} {C : Ctr} {f : FuncId} {fn : Func} {c : Code} (hf : P.funcs[f]? = some fn) (hb : fn.body = some c) (hn : (fn.name == "runtime.NumGoroutine") = false)
    (hT : tabB P T = true) (hcmp : ∀ t ti, T.get t = some ti → ti.cmp = true → CmpOk P t ti.zero) (hC : ∀ f args φ, C.pure f args φ → ACalls P G f args φ) (hH : ∀ f hp0 args φ, C.heap f hp0 args φ → HCalls P G f hp0 args φ) {args : List V} {φ : V → Prop} (hnt : args.length ≤ fn.ntmps)
    (hc : ∀ E : Env, E.P = P → E.nt = fn.ntmps → E.glob = G → E.hp0 = (fun _ => .none) → CodeOk E T C c)
    (hk : aWp T G C c (finQ T fn.results.toList φ) (initSt args)) : ACalls P G f args φ := by
  refine ⟨⟨fn, c, hf, hb, hn⟩, fun w imm us hbd hG hargs => ?_⟩
  let E : Env := { P := P, nt := fn.ntmps, n0 := w.heap.size, own0 := fun _ => False, w0 := w, i0 := imm, glob := G, g0 := gh0 imm, hp0 := fun _ => .none }
  have hlen := RepVs.len hargs
  refine calls_of_wp hf hb ?_
  have hrel : Rel E (initSt args) { tmps := us.toArray ++ Array.replicate (fn.ntmps - us.toArray.size) Go.undef, defers := [] } w (gh0 imm) := by
    refine ⟨fun t => ?_, fun id => trivial, fun i j b hij hi => by simp [initSt, Obj.live] at hi, hbd, hG, fun id b hi => by simp [initSt, Obj.live] at hi, fun b hb _ => rfl, Nat.le_refl _, Ext.refl _ _, fun b o hi hb => .inl hi, ?_, rfl, GExt.refl _ _ _, ⟨rfl, rfl⟩⟩
    · show RepV w (gh0 imm) (fun _ => .none) (nthV args t) _
      rw [nthV_eq]
      cases ht : args[t]? with
      | none => simp [RepV]
      | some v =>
        obtain ⟨u, hu, hr⟩ := RepVs.get hargs ht
        have htl := (List.getElem?_eq_some_iff.1 hu).1
        have : (us.toArray ++ Array.replicate (fn.ntmps - us.toArray.size) Go.undef).getD t Go.undef = u := by
          rw [Array.getD_eq_getD_getElem?, Array.getElem?_append_left (by simpa using htl)]
          simp [hu]
        rw [this]
        exact hr
    · show (us.toArray ++ Array.replicate (fn.ntmps - us.toArray.size) Go.undef).size = fn.ntmps
      simp; omega
  have hB : Base E T C := ⟨hT, hcmp, hC, hH, fun id hu => by simp [E, Obj.used] at hu⟩
  refine Code.wp_mono ?_ (aWp_sound hB c _ _ _ w _ (hc E rfl rfl rfl rfl) hrel hk)
  rintro e a' w' ⟨s', g', hr, hq⟩
  have key : outK T fn.results.toList s' φ → a'.defers = [] ∧ ∃ v, (results fn a'.tmps).run P w' = .ok v w' ∧ AOut w imm φ (.returned v) w' := by
    intro ho
    refine ⟨hr.defers, ?_⟩
    unfold outK outVs at ho
    cases hv : pureVs s'.hp (fn.results.toList.map (rawV T s')) with
    | none => simp [hv] at ho
    | some vs =>
      simp only [hv] at ho
      obtain ⟨us', h1, h2⟩ := run_results (E := E) hT hr fn.results.toList vs hv
      generalize hids : (fn.results.toList.map (rawV T s')).flatMap (idsV s'.hp) = ids
      have hus := idss_used hr (fun v u => idsV_used hr v u) h2
      rw [hids] at hus
      obtain ⟨hK, _⟩ := rel_kill hr ids hus
      have hp := pureVs_ok (ids := ids) hr h2 hv (fun id hi => by rw [← hids]; exact hi)
      have hres : (results fn a'.tmps).run P w' = .ok (if h : us'.toArray.size = 1 then us'.toArray[0] else .tuple us'.toArray) w' := by
        rw [results_eq, Array.mapM_eq_mapM_toList]
        have h1' : (fn.results.toList.mapM (resF a'.tmps)).run P w' = .ok us' w' := h1
        simp only [Sem.run_bind, Sem.run_map, h1', Result.andThen_ok, Sem.run_pure]
      have hbound := hK.bound
      have hfin : ∀ (v : Value) (r : V), φ r → RepP w' (immK s' g' ids) r v → AOut w imm φ (.returned v) w' := fun v r hφ hrv =>
        ⟨v, r, immK s' g' ids, rfl, hφ, hrv, hr.size, fun b hb => hr.frame b hb (fun h => h), fun b o hi => hK.start.sub b o hi, hbound, fun b o hi hb => (hK.fresh b o hi hb).resolve_right (fun h => h), hr.io⟩
      have hul := RepVs.len hp
      have hvl := RepVs.len h2
      split at ho
      · rename_i v hvs
        injection hvs with hvs
        subst hvs
        rw [force_eq] at ho
        unfold RepPs at hp
        simp only [RepVs] at hp
        obtain ⟨u, us'', rfl, hpu, rfl⟩ := hp
        exact ⟨u, by rw [hres]; simp, hfin u v ho hpu⟩
      · rename_i vs' hne hvs
        injection hvs with hvs
        subst hvs
        rw [forceL_eq] at ho
        have hsz : us'.toArray.size ≠ 1 := by
          intro h1
          simp at h1
          have : vs.length = 1 := by omega
          obtain ⟨v, hv⟩ := List.length_eq_one_iff.1 this
          exact hne v (by rw [hv])
        refine ⟨.tuple us'.toArray, by rw [hres, dif_neg hsz], hfin _ _ ho ?_⟩
        unfold RepP
        simp only [RepV]
        exact ⟨_, rfl, hp⟩
      · rename_i hvs; simp at hvs
  cases e with
  | normal => exact key hq
  | ret => exact key hq
  | exit i => exact hq.elim
  | goto l => exact hq.elim
  | panic c => exact hq.elim
  | outgrown => exact hq.elim

end Go.Proofs.Ytnnmkenloijkcaa.Eng
