/- The engine, part Q2: a call that is given objects, from its function's code. -/
import Derived.Test.YtnnmkenloijkcaaEngQ
import Derived.Test.YtnnmkenloijkcaaEngN3
set_option linter.unusedVariables false
set_option linter.unusedSimpArgs false
namespace Go.Proofs.Ytnnmkenloijkcaa.Eng
open Go

variable {E : Env} {s : St} {a : Act} {w : World} {g : Gh} {T : Tab} {C : Ctr} {q : Bool} {o : Oper} {K : St → Prop}

def single : List V → V
  | [v] => v
  | vs => .tup vs
/-- One value, or some, as far as their heads. -/
def withV (vs : List V) (k : V → Prop) : Prop :=
  match vs with
  | [v] => force v k
  | vs => forceL vs fun vs => k (.tup vs)
theorem withV_eq : ∀ (vs : List V) (k : V → Prop), withV vs k = k (single vs)
  | [], k => rfl
  | [v], k => force_eq v k
  | v :: v' :: vs, k => forceL_eq _ _
/-- The objects behind a call. -/
def HRest (s : St) (kp : List Nat) (l : HP) : Prop := weakHp s (l.map (·.1)) l ∧ l.all (fun p => p.2.used) = true ∧ kp.all (fun i => (l.map (·.1)).contains i) = true
def defB : List V → Bool
  | [] => true
  | .undef :: _ => false
  | _ :: r => defB r
def outH (raw : Bool) (T : Tab) (rs : List ResultVar) (kp : List Nat) (s : St) (φ : V → HP → Prop) : Prop :=
  match raw with
  | false => match outVs T s rs with
    | some vs => withV vs fun v => ∃ l, HRest (s.kill ((rs.map (rawV T s)).flatMap (idsV s.hp))) kp l ∧ φ v l
    | none => False
  | true => match defB (rs.map (rawV T s)) with
    | true => withV (rs.map (rawV T s)) fun v => ∃ l, HRest s kp l ∧ okV (l.map (·.1)) v = true ∧ φ v l
    | false => False
def finH (raw : Bool) (T : Tab) (rs : List ResultVar) (kp : List Nat) (φ : V → HP → Prop) : Ex → St → Prop
  | .normal, s => outH raw T rs kp s φ
  | .ret, s => outH raw T rs kp s φ
  | _, _ => False
def initH (hp0 : Nat → Obj) (args : List V) : St := ⟨nthV args, hp0⟩

theorem defB_mem : ∀ {vs : List V}, defB vs = true → ∀ v, v ∈ vs → v ≠ .undef
  | [], _, v, h => by simp at h
  | x :: vs, hd, v, h => by
    cases x with
    | undef => simp [defB] at hd
    | _ =>
      rcases List.mem_cons.1 h with rfl | h
      · simp
      · exact defB_mem (vs := vs) (by simpa [defB] using hd) v h

theorem run_raw (hT : tabB E.P T = true) (h : Rel E s a w g) : ∀ (rs : List ResultVar), (∀ r, r ∈ rs → rawV T s r ≠ .undef) →
    ∃ us : List Value, (rs.mapM (resF a.tmps)).run E.P w = .ok us w ∧ RepVs w g s.hp (rs.map (rawV T s)) us
  | [], _ => ⟨[], by simp, by simp [RepVs]⟩
  | r :: rs, hx => by
    obtain ⟨us, h1, h2⟩ := run_raw hT h rs fun r hr => hx r (List.mem_cons_of_mem _ hr)
    have hne := hx r List.mem_cons_self
    have : ∃ u, (resF a.tmps r).run E.P w = .ok u w ∧ RepV w g s.hp (rawV T s r) u := by
      cases r with
      | tmp t => exact ⟨_, rfl, h.slots t⟩
      | cell t ty =>
        simp only [rawV] at hne ⊢
        have hs := h.slots t
        split at hne
        · rename_i id e ti hsl hti
          rw [hsl] at hs
          simp only [RepV] at hs
          obtain ⟨hu, hng, b, hb, hv⟩ := hs
          have hob := h.objs id
          split at hne
          · rename_i cells hid
            rw [hid] at hob
            obtain ⟨b', us', tt, q1, q2, q3, q4⟩ := hob
            rw [hb] at q1; injection q1 with q1; subst q1
            split at hne
            · rename_i hle
              have hle' := Nat.le_of_ble_eq_true hle
              have hlen := q3.len
              have hr := q3.take ti.size
              have hld := run_loadVarT (tab_ok hT hti) w b 0 (us'.toList.take ti.size) (by simp at hlen ⊢; omega) (fun j v hj => by
                rw [cell_of q2, Nat.zero_add]
                rw [List.getElem?_take] at hj
                split at hj
                · simpa using hj
                · simp at hj)
              refine ⟨_, ?_, repV_mkV hr ti.agg⟩
              show (do loadVar ty (← asAddr (a.tmps.getD t Go.undef)) : Sem Value).run E.P w = _
              rw [hv]
              simp only [Nat.zero_mul, asAddr, Sem.run_bind, Sem.run_pure, Result.andThen_ok, hld]
            · exact absurd rfl hne
          · exact absurd rfl hne
        · exact absurd rfl hne
    obtain ⟨u, h3, h4⟩ := this
    refine ⟨u :: us, ?_, by simp only [List.map_cons, RepVs]; exact ⟨u, us, rfl, h4, h2⟩⟩
    simp only [List.mapM_cons, Sem.run_bind, h3, h1, Result.andThen_ok, Sem.run_pure]

theorem single_rep {w : World} {g : Gh} {hp : Nat → Obj} {vs : List V} {us : List Value} (h : RepVs w g hp vs us) : RepV w g hp (single vs) (if h : us.toArray.size = 1 then us.toArray[0] else .tuple us.toArray) := by
  have hl := RepVs.len h
  match vs, us, h with
  | [], [], h => simp [single, RepV]; exact h
  | [v], [u], h => simp only [RepVs] at h; obtain ⟨u', us', e, h1, _⟩ := h; injection e with e1 _; subst e1; simpa [single] using h1
  | v :: v' :: vs, u :: u' :: us, h =>
    have : ¬ (u :: u' :: us).toArray.size = 1 := by simp
    rw [dif_neg this]
    simp only [single, RepV]
    exact ⟨_, rfl, h⟩
  | [], _ :: _, _ => simp at hl
  | _ :: _, [], _ => simp at hl
  | [v], u :: u' :: us, _ => simp at hl
  | v :: v' :: vs, [u], _ => simp at hl

/-- What a state says of the objects that are left. -/
theorem left_out {kp : List Nat} {l : HP} {φ : V → HP → Prop} {v : V} {u : Value} {w0 : World} {g0 : Gh} {hp0 : Nat → Obj} (hn : E.n0 = w0.heap.size) (ho : E.own0 = Own g0 hp0) (hw : E.w0 = w0) (hg : E.g0 = g0) (hh : E.hp0 = hp0) (hi : E.i0 = g0.imm)
    (hkp : ∀ id, (E.hp0 id).used = true → id ∈ kp) (h : Rel E s a w g) (hl : HRest s kp l) (hv : RepV w g (hpOf l) v u) (hφ : φ v l) : HOut w0 g0 hp0 φ (.returned u) w := by
  subst hw; subst hg; subst hh
  obtain ⟨hwk, hus, hk⟩ := hl
  have hids : ∀ id, id ∈ l.map (·.1) → hpOf l id = s.hp id := fun id hi => (hpOf_in hwk id hi).1.symm
  have hus' : ∀ p, p ∈ l → p.2.used = true := fun p hp => List.all_eq_true.1 hus p hp
  have hno : ∀ id, (hpOf l id).used = true → id ∈ l.map (·.1) := fun id hi => (hpOf_used hus').2 hi
  have hin1 : ∀ i, (hpOf l i).live = true → (s.hp i).live = true := fun i hi => by rw [← hids i (hno i (Obj.live_used hi))]; exact hi
  refine ⟨u, v, l, g, rfl, hφ, hus', hv, fun id => ?_, fun i j b hij hi hj => h.dist i j b hij (hin1 i hi) (hin1 j hj), h.bound, by rw [← hn]; exact h.size, fun b hb hno' => h.frame b (by rw [hn]; exact hb) (by rw [ho]; exact hno'), ?_, fun b o hi' hb => ?_, fun id b hi' hb => ?_, h.io⟩
  · cases hlive : (hpOf l id).live with
    | false => cases hh : hpOf l id <;> simp_all [Obj.live, ObjRep]
    | true =>
      have hi := hno id (Obj.live_used hlive)
      have hob := h.objs id
      obtain ⟨q1, q2⟩ := hpOf_in hwk id hi
      rw [q1] at hob q2
      cases hh : hpOf l id with
      | none => trivial
      | dead => trivial
      | box cells =>
        rw [hh] at hob q2
        obtain ⟨b, us, e, p1, p2, p3, p4⟩ := hob
        exact ⟨b, us, e, p1, p2, RepVs.weak hids _ _ q2 p3, p4⟩
      | arr full e rows => rw [hh] at hob; exact hob
      | grow e n => rw [hh] at hob; exact hob
  · refine gext_weak (fun id hu => hids id ?_) h.old
    have := List.all_eq_true.1 hk id (hkp id hu)
    simpa using this
  · have := h.fresh b o hi' (by rw [hn]; exact hb)
    rw [hi, ho] at this; exact this
  · have := h.low id b (hin1 id hi') hb
    rw [hn, ho] at this; exact this

/-- A contract of a function that is given objects, by its code. -/
theorem hcalls_intro {P : Program} {G : Nat → V} {T : Tab} {C : Ctr} {f : FuncId} {fn : Func} {c : Code} (hf : P.funcs[f]? = some fn) (hb : fn.body = some c) (hn : (fn.name == "runtime.NumGoroutine") = false)
    (hT : tabB P T = true) (hcmp : ∀ t ti, T.get t = some ti → ti.cmp = true → CmpOk P t ti.zero) (hC : ∀ f args φ, C.pure f args φ → ACalls P G f args φ) (hH : ∀ f hp0 args φ, C.heap f hp0 args φ → HCalls P G f hp0 args φ)
    {hp0 : Nat → Obj} (hkp : ∀ id, (hp0 id).used = true → id ∈ C.keep) {args : List V} {φ : V → HP → Prop} (hnt : args.length ≤ fn.ntmps)
    (hc : ∀ E : Env, E.P = P → E.nt = fn.ntmps → E.glob = G → E.hp0 = hp0 → CodeOk E T C c) (raw : Bool)
    (hk : aWp T G C c (finH raw T fn.results.toList C.keep φ) (initH hp0 args)) : HCalls P G f hp0 args φ := by
  refine ⟨⟨fn, c, hf, hb, hn⟩, fun w g0 us hbd hG hargs hobj hdist => ?_⟩
  let E : Env := { P := P, nt := fn.ntmps, n0 := w.heap.size, own0 := Own g0 hp0, w0 := w, i0 := g0.imm, glob := G, g0 := g0, hp0 := hp0 }
  have hlen := RepVs.len hargs
  refine calls_of_wp hf hb ?_
  have hrel : Rel E (initH hp0 args) { tmps := us.toArray ++ Array.replicate (fn.ntmps - us.toArray.size) Go.undef, defers := [] } w g0 := by
    refine ⟨fun t => ?_, hobj, hdist, hbd, hG, fun id b hi hb => .inr ⟨id, hi, hb⟩, fun b hb _ => rfl, Nat.le_refl _, Ext.refl _ _, fun b o hi hb => .inl hi, ?_, rfl, GExt.refl _ _ _, ⟨rfl, rfl⟩⟩
    · show RepV w g0 hp0 (nthV args t) _
      rw [nthV_eq]
      cases ht : args[t]? with
      | none => simp [RepV]
      | some v =>
        obtain ⟨u, hu, hr⟩ := RepVs.get hargs ht
        have htl := (List.getElem?_eq_some_iff.1 hu).1
        have : (us.toArray ++ Array.replicate (fn.ntmps - us.toArray.size) Go.undef).getD t Go.undef = u := by
          rw [Array.getD_eq_getD_getElem?, Array.getElem?_append_left (by simpa using htl)]
          simp [hu]
        rw [this]
        exact hr
    · show (us.toArray ++ Array.replicate (fn.ntmps - us.toArray.size) Go.undef).size = fn.ntmps
      simp; omega
  have hB : Base E T C := ⟨hT, hcmp, hC, hH, hkp⟩
  refine Code.wp_mono ?_ (aWp_sound hB c _ _ _ w _ (hc E rfl rfl rfl rfl) hrel hk)
  rintro e a' w' ⟨s', g', hr, hq⟩
  have key : outH raw T fn.results.toList C.keep s' φ → a'.defers = [] ∧ ∃ v, (results fn a'.tmps).run P w' = .ok v w' ∧ HOut w g0 hp0 φ (.returned v) w' := by
    intro ho
    refine ⟨hr.defers, ?_⟩
    have hres : ∀ us' : List Value, (fn.results.toList.mapM (resF a'.tmps)).run P w' = .ok us' w' → (results fn a'.tmps).run P w' = .ok (if h : us'.toArray.size = 1 then us'.toArray[0] else .tuple us'.toArray) w' := fun us' h1 => by
      rw [results_eq, Array.mapM_eq_mapM_toList]
      simp only [Sem.run_bind, Sem.run_map, h1, Result.andThen_ok, Sem.run_pure]
    cases raw with
    | false =>
      simp only [outH, outVs] at ho
      cases hv : pureVs s'.hp (fn.results.toList.map (rawV T s')) with
      | none => simp [hv] at ho
      | some vs =>
        simp only [hv, withV_eq] at ho
        obtain ⟨l, hl, hφ⟩ := ho
        obtain ⟨us', h1, h2⟩ := run_results (E := E) hT hr fn.results.toList vs hv
        generalize hids : (fn.results.toList.map (rawV T s')).flatMap (idsV s'.hp) = ids at hl
        have hus := idss_used hr (fun v u => idsV_used hr v u) h2
        rw [hids] at hus
        obtain ⟨hK, _⟩ := rel_kill hr ids hus
        have hp := pureVs_ok (ids := ids) hr h2 hv (fun id hi => by rw [← hids]; exact hi)
        refine ⟨_, hres us' h1, left_out (E := E) rfl rfl rfl rfl rfl rfl hkp hK hl ?_ hφ⟩
        exact single_rep (RepPs.to rfl _ _ _ hp)
    | true =>
      simp only [outH] at ho
      split at ho
      · rename_i hd
        simp only [withV_eq] at ho
        obtain ⟨l, hl, hok, hφ⟩ := ho
        obtain ⟨us', h1, h2⟩ := run_raw (E := E) hT hr fn.results.toList fun r hr => defB_mem hd _ (List.mem_map.2 ⟨r, hr, rfl⟩)
        refine ⟨_, hres us' h1, left_out (E := E) rfl rfl rfl rfl rfl rfl hkp hr hl ?_ hφ⟩
        exact RepV.weak (fun id hi => (hpOf_in hl.1 id hi).1.symm) _ _ hok (single_rep h2)
      · exact ho.elim
  cases e with
  | normal => exact key hq
  | ret => exact key hq
  | exit i => exact hq.elim
  | goto l => exact hq.elim
  | panic c => exact hq.elim
  | outgrown => exact hq.elim

end Go.Proofs.Ytnnmkenloijkcaa.Eng
