/- The engine, part S: each operation is local. -/
import Derived.Test.YtnnmkenloijkcaaEngR
set_option linter.unusedVariables false
set_option linter.unusedSimpArgs false
namespace Go.Proofs.Ytnnmkenloijkcaa.Eng
open Go

variable {T : Tab} {G : Nat → V} {C : Ctr} {o : Oper} {s t : St} {K : St → Prop}

theorem optInt_agree {lo : Option Operand} (h : ∀ y, lo = some y → ev G t y = ev G s y) : optInt G t lo = optInt G s lo := by
  cases lo with
  | none => rfl
  | some y => simp only [optInt]; rw [h y rfl]
theorem cutRows_local {full : Bool} {rows : List (List D)} {lo hi mx : Option Int} {K : Bool → List (List D) → Prop} (h : cutRows full rows lo hi mx K) :
    ∃ f r, K f r ∧ ∀ K' : Bool → List (List D) → Prop, K' f r → cutRows full rows lo hi mx K' := by
  unfold cutRows at h ⊢
  split at h
  · exact ⟨_, _, h, fun K' hK' => hK'⟩
  · exact ⟨_, _, h.2.2, fun K' hK' => ⟨h.1, h.2.1, hK'⟩⟩
  · exact ⟨_, _, h.2.2, fun K' hK' => ⟨h.1, h.2.1, hK'⟩⟩
  · exact ⟨_, _, h.2.2.2, fun K' hK' => ⟨h.1, h.2.1, h.2.2.1, hK'⟩⟩
  · exact ⟨_, _, h.2.2.2, fun K' hK' => ⟨h.1, h.2.1, h.2.2.1, hK'⟩⟩
  · exact ⟨_, _, h.2.2.2.2, fun K' hK' => ⟨h.1, h.2.1, h.2.2.1, h.2.2.2.1, hK'⟩⟩
  · exact h.elim

theorem idsT_of {hp : Nat → Obj} {v : V} {id : Nat} (h : id ∈ idsV hp v) : id ∈ idsT hp v := List.mem_append_right _ h
theorem wf_asg {hp : Nat → Obj} {ty : TypeId} {x : Operand} {v : V} (h : WFv hp v) : WFv hp (asgV T ty x v) := by
  unfold asgV
  split
  · split
    · trivial
    · exact h
  · exact h
theorem aOp_local (hwf : WF G s) (hk : aOp T G C true o s K) : ∃ δ, Local T G C o s K δ := by
  have hev := fun x => hwf.ev x
  unfold aOp at hk
  cases ho : o.op with
  | move x =>
    simp only [ho] at hk
    exact put_local hwf (hev x) hk fun t hA K' hK' => by
      unfold aOp; simp only [ho]; rw [hA.ev x (by simp [ho, Op.operands])]; exact hK'
  | assign x =>
    simp only [ho] at hk
    exact put_local hwf (wf_asg (hev x)) hk fun t hA K' hK' => by
      unfold aOp; simp only [ho]; rw [hA.ev x (by simp [ho, Op.operands])]; exact hK'
  | pick c x y =>
    simp only [ho] at hk
    split at hk
    · rename_i b hb
      refine put_local hwf (v := if b then ev G s x else ev G s y) (by cases b <;> simp [hev]) (by cases b <;> simpa [aIf] using hk) fun t hA K' hK' => ?_
      unfold aOp; simp only [ho]
      rw [hA.ev c (by simp [ho, Op.operands]), hA.ev x (by simp [ho, Op.operands]), hA.ev y (by simp [ho, Op.operands]), hb]
      cases b <;> simpa [aIf] using hK'
    · exact hk.elim
  | alloc ty =>
    simp only [ho] at hk
    split at hk
    · rename_i d ti hdst hti
      split at hk
      · rename_i hn hz
        rw [forceL_eq] at hk
        refine new_local hwf hdst (.inl trivial) hn rfl (v := .ref d 0 0 0) (ob := .box (ti.zero.map .d)) (by simp only [WFv, upd_same]; rfl) (fun cells hc => by injection hc with hc; subst hc; exact wf_ds _ _) (by simpa [hz, withS_eq] using hk) fun t hA hn' K' hK' => ?_
        unfold aOp; simp only [ho, hdst, hti, hn', hz, forceL_eq]; simpa [hz, withS_eq] using hK'
      · exact hk.elim
    · exact hk.elim
  | box ty x =>
    simp only [ho] at hk
    split at hk
    · rename_i d hdst
      split at hk
      · exact hk.elim
      · exact hk.elim
      · rename_i hn h1 h2
        rw [forceL_eq] at hk
        refine new_local hwf hdst (.inl trivial) hn rfl (v := .ref d 0 0 0) (ob := .box (ev G s x).cells) (by simp only [WFv, upd_same]; rfl) (fun cells hc => by injection hc with hc; subst hc; exact wf_cells (hev x)) hk fun t hA hn' K' hK' => ?_
        unfold aOp; simp only [ho, hdst, hn']; rw [hA.ev x (by simp [ho, Op.operands])]
        cases hx : ev G s x <;> simp_all [forceL_eq, withS_eq]
      · exact hk.elim
    · exact hk.elim
  | build ty parts =>
    simp only [ho] at hk
    split at hk
    · rename_i ti hti
      split at hk
      · rename_i cs hg hf
        refine put_local hwf (v := .agg cs) (by
          simp only [WFv]
          exact wf_fill (wf_ds _ _) (fun p hp => by obtain ⟨pp, _, rfl⟩ := List.mem_map.1 hp; exact hev _) hf) hk fun t hA K' hK' => ?_
        have : (parts.toList.map fun p => (p.1, ev G t p.2)) = parts.toList.map fun p => (p.1, ev G s p.2) := List.map_congr_left fun p hp => by
          rw [hA.ev p.2 (by simp only [ho, Op.operands]; exact List.mem_map.2 ⟨p, hp, rfl⟩)]
        unfold aOp; simp only [ho, hti, hg, this, hf]; exact hK'
      · exact hk.elim
    · exact hk.elim
  | load ty x =>
    simp only [ho] at hk
    split at hk
    · rename_i ti hti
      split at hk
      · rename_i id row esz off he
        have hag : ∀ t, Agree G o s t → ev G t x = .ref id row esz off ∧ t.hp id = s.hp id := fun t hA => ⟨by rw [hA.ev x (by simp [ho, Op.operands]), he], hA.hp (by rw [ho]; rfl) x (by simp [ho, Op.operands]) id (by rw [he]; simp [idsT, toks, idsV, ids1])⟩
        split at hk
        · rename_i cells hid
          split at hk
          · rename_i hle
            refine put_local hwf (wf_mkV (wf_sub (hwf.hp _ _ hid) fun c hc => List.mem_of_mem_drop (List.mem_of_mem_take hc))) hk fun t hA K' hK' => ?_
            obtain ⟨h1, h2⟩ := hag t hA
            unfold aOp; simp only [ho, hti, h1, h2, hid, hle]; exact hK'
          · exact hk.elim
        · rename_i full e rows hid
          split at hk
          · rename_i hee
            obtain ⟨r, hr, hk⟩ := hk
            split at hk
            · rename_i hle
              refine put_local hwf (wf_mkV (wf_ds _ _)) hk fun t hA K' hK' => ?_
              obtain ⟨h1, h2⟩ := hag t hA
              unfold aOp; simp only [ho, hti, h1, h2, hid, hee]
              exact ⟨r, hr, by simp only [hle]; exact hK'⟩
            · exact hk.elim
          · exact hk.elim
        · exact hk.elim
      · rename_i cells he
        split at hk
        · rename_i hle
          refine put_local hwf (wf_mkV (wf_ds _ _)) hk fun t hA K' hK' => ?_
          unfold aOp; simp only [ho, hti]; rw [hA.ev x (by simp [ho, Op.operands]), he]; simp only [hle]; exact hK'
        · exact hk.elim
      · exact hk.elim
    · exact hk.elim
  | store ty p x =>
    simp only [ho] at hk
    split at hk
    · rename_i ti hti
      split at hk
      · rename_i id row esz off he
        have hag : ∀ t, Agree G o s t → ev G t p = .ref id row esz off ∧ t.hp id = s.hp id ∧ ev G t x = ev G s x := fun t hA => ⟨by rw [hA.ev p (by simp [ho, Op.operands]), he], hA.hp (by rw [ho]; rfl) p (by simp [ho, Op.operands]) id (by rw [he]; simp [idsT, toks, idsV, ids1]), hA.ev x (by simp [ho, Op.operands])⟩
        have fin : ∀ ob : Obj, ob.used = true → (∀ cells, ob = .box cells → WFvs s.hp cells) → (s.hp id).used = true → putK ⟨s.sl, upd s.hp id ob⟩ o.dst .undef K →
            (∀ t, Agree G o s t → ∀ K' : St → Prop, putK ⟨t.sl, upd t.hp id ob⟩ o.dst .undef K' → aOp T G C true o t K') → ∃ δ, Local T G C o s K δ := by
          intro ob hu hob hus hk hre
          rw [putK_eq] at hk
          have hm : ∀ i, (s.hp i).used = true → (upd s.hp id ob i).used = true := fun i hi => by
            rw [upd_eq]; split
            · exact hu
            · exact hi
          refine ⟨⟨o.dst, .undef, some (id, ob)⟩, rfl, ?_, ⟨fun i => ?_, fun i cells hi => ?_, fun k => WFv.mono hm _ (hwf.gl k)⟩, fun i ob' hi => ?_, fun t hA K' hK' => hre t hA K' ?_⟩
          · cases hd : o.dst <;> rw [hd] at hk <;> exact hk
          · cases hd : o.dst with
            | none => exact WFv.mono hm _ (hwf.sl i)
            | some d =>
              simp only [Delta.app, upd_eq]
              split
              · trivial
              · exact WFv.mono hm _ (hwf.sl i)
          · simp only [Delta.app, upd_eq] at hi
            split at hi
            · exact WFvs.mono hm _ (hob cells hi)
            · exact WFvs.mono hm _ (hwf.hp i cells hi)
          · simp only [Option.some.injEq, Prod.mk.injEq] at hi
            obtain ⟨rfl, rfl⟩ := hi
            exact ⟨hu, .inr ⟨by rw [ho]; rfl, p, by simp [ho, Op.operands], by rw [he]; simp [idsT, toks, idsV, ids1]⟩⟩
          · rw [putK_eq]
            cases hd : o.dst <;> rw [hd] at hK' <;> exact hK'
        split at hk
        · rename_i cells hid hlen
          split at hk
          · rename_i hle hlv
            rw [forceL_eq] at hk
            refine fin _ rfl (fun cells' hc => by injection hc with hc; subst hc; exact wf_setCells _ (hwf.hp _ _ hid) (wf_cells (hev x))) (by rw [hid]; rfl) hk fun t hA K' hK' => ?_
            obtain ⟨h1, h2, h3⟩ := hag t hA
            unfold aOp; simp only [ho, hti, h1, h2, h3, hid, hlen, hle, hlv, forceL_eq]; exact hK'
          · exact hk.elim
        · rename_i full e rows hid hlen
          split at hk
          · rename_i l hee hl
            obtain ⟨r, hr, hk⟩ := hk
            split at hk
            · rename_i hle
              refine fin _ rfl (fun cells' hc => by simp at hc) (by rw [hid]; rfl) hk fun t hA K' hK' => ?_
              obtain ⟨h1, h2, h3⟩ := hag t hA
              unfold aOp; simp only [ho, hti, h1, h2, h3, hid, hlen, hee, hl]
              exact ⟨r, hr, by simp only [hle]; exact hK'⟩
            · exact hk.elim
          · exact hk.elim
        · exact hk.elim
      · exact hk.elim
    · exact hk.elim
  | nilCheck x =>
    simp only [ho] at hk
    have hre : ∀ v, ev G s x = v → putK s o.dst v K → (∀ t, Agree G o s t → ∀ K' : St → Prop, putK t o.dst v K' → aOp T G C true o t K') → ∃ δ, Local T G C o s K δ := fun v hv hk hre => put_local hwf (hv ▸ hev x) hk hre
    split at hk
    · rename_i he
      exact hre _ he hk fun t hA K' hK' => by unfold aOp; simp only [ho]; rw [hA.ev x (by simp [ho, Op.operands]), he]; exact hK'
    · rename_i he
      exact hre _ he hk fun t hA K' hK' => by unfold aOp; simp only [ho]; rw [hA.ev x (by simp [ho, Op.operands]), he]; exact hK'
    · rename_i he
      exact hre _ he hk fun t hA K' hK' => by unfold aOp; simp only [ho]; rw [hA.ev x (by simp [ho, Op.operands]), he]; exact hK'
    · rename_i he
      exact hre _ he hk fun t hA K' hK' => by unfold aOp; simp only [ho]; rw [hA.ev x (by simp [ho, Op.operands]), he]; exact hK'
    · exact hk.elim
  | binOp op ty x y ty' =>
    simp only [ho] at hk
    split at hk
    · rename_i ti hti
      obtain ⟨x', h1, h2⟩ := binV_local hk
      refine put_local hwf (v := .d x') trivial h1 fun t hA K' hK' => ?_
      unfold aOp; simp only [ho, hti]; rw [hA.ev x (by simp [ho, Op.operands]), hA.ev y (by simp [ho, Op.operands])]
      exact h2 (fun v => putK t o.dst v K') hK'
    · exact hk.elim
  | unOp op ty x =>
    simp only [ho] at hk
    split at hk
    · rename_i b he
      exact put_local hwf (v := .d _) trivial hk fun t hA K' hK' => by unfold aOp; simp only [ho]; rw [hA.ev x (by simp [ho, Op.operands]), he]; exact hK'
    · rename_i k n he
      exact put_local hwf (v := .d _) trivial hk fun t hA K' hK' => by unfold aOp; simp only [ho]; rw [hA.ev x (by simp [ho, Op.operands]), he]; exact hK'
    · rename_i k n he
      exact put_local hwf (v := .d _) trivial hk fun t hA K' hK' => by unfold aOp; simp only [ho]; rw [hA.ev x (by simp [ho, Op.operands]), he]; exact hK'
    · exact hk.elim
  | convert src dst x =>
    simp only [ho] at hk
    split at hk
    · rename_i ti si hti hsi
      split at hk
      · rename_i k0 n k k' he h1 h2
        exact put_local hwf (v := .d _) trivial hk fun t hA K' hK' => by unfold aOp; simp only [ho, hti, hsi]; rw [hA.ev x (by simp [ho, Op.operands]), he]; simp only [h1, h2]; exact hK'
      · exact hk.elim
    · exact hk.elim
  | makeFunc fn first captured =>
    cases fn with
    | func f =>
      simp only [ho] at hk
      split at hk
      · rename_i hf
        refine put_local hwf (v := .clo f (captured.toList.map (ev G s))) (by simp only [WFv]; exact wf_evs hwf _) hk fun t hA K' hK' => ?_
        have : captured.toList.map (ev G t) = captured.toList.map (ev G s) := List.map_congr_left fun x hx => hA.ev x (by simp only [ho, Op.operands, Array.toList_append, List.mem_append]; exact .inr hx)
        unfold aOp; simp only [ho, hf, this]; exact hK'
      · exact hk.elim
    | _ => simp only [ho] at hk
  | fieldAddr ty x f =>
    simp only [ho] at hk
    split at hk
    · rename_i ti hti
      split at hk
      · rename_i id row esz off fo n hg he hf
        have := hev x
        rw [he] at this
        exact put_local hwf (v := .ref id row esz (off + fo)) this hk fun t hA K' hK' => by unfold aOp; simp only [ho, hti]; rw [hA.ev x (by simp [ho, Op.operands]), he]; simp only [hg, hf]; exact hK'
      · rename_i cells fo n hg he hf
        exact put_local hwf (v := .d _) trivial hk fun t hA K' hK' => by unfold aOp; simp only [ho, hti]; rw [hA.ev x (by simp [ho, Op.operands]), he]; simp only [hg, hf]; exact hK'
      · exact hk.elim
    · exact hk.elim
  | indexAddr ty x i =>
    simp only [ho] at hk
    split at hk
    · rename_i ti hti
      split at hk
      · rename_i hg
        split at hk
        · rename_i id k n he hie
          split at hk
          · rename_i full e rows hid
            split at hk
            · rename_i hee
              have := hev x
              rw [he] at this
              refine put_local hwf (v := .ref id n.toNat e 0) this hk.2.2 fun t hA K' hK' => ?_
              have h2 := hA.hp (by rw [ho]; rfl) x (by simp [ho, Op.operands]) id (by rw [he]; simp [idsT, toks, idsV, ids1, ids0])
              unfold aOp; simp only [ho, hti, hg]; rw [hA.ev x (by simp [ho, Op.operands]), hA.ev i (by simp [ho, Op.operands]), he, hie]; simp only [h2, hid, hee]
              exact ⟨hk.1, hk.2.1, hK'⟩
            · exact hk.elim
          · exact hk.elim
        · rename_i full e rows k n he hie
          split at hk
          · rename_i hee
            obtain ⟨h0, r, hr, hk⟩ := hk
            refine put_local hwf (v := .d _) trivial hk fun t hA K' hK' => ?_
            unfold aOp; simp only [ho, hti, hg]; rw [hA.ev x (by simp [ho, Op.operands]), hA.ev i (by simp [ho, Op.operands]), he, hie]; simp only [hee]
            exact ⟨h0, r, hr, hK'⟩
          · exact hk.elim
        · rename_i tok e rows k n he hie
          split at hk
          · rename_i hee
            obtain ⟨h0, r, hr, hk⟩ := hk
            refine put_local hwf (v := .d _) trivial hk fun t hA K' hK' => ?_
            unfold aOp; simp only [ho, hti, hg]; rw [hA.ev x (by simp [ho, Op.operands]), hA.ev i (by simp [ho, Op.operands]), he, hie]; simp only [hee]
            exact ⟨h0, r, hr, hK'⟩
          · exact hk.elim
        · exact hk.elim
      · exact hk.elim
    · exact hk.elim
  | index ty x i =>
    simp only [ho] at hk
    split at hk
    · rename_i b k n he hie
      split at hk
      · rename_i ti hti
        split at hk
        · rename_i hs
          refine put_local hwf (v := .d _) trivial hk.2.2 fun t hA K' hK' => ?_
          unfold aOp; simp only [ho]; rw [hA.ev x (by simp [ho, Op.operands]), hA.ev i (by simp [ho, Op.operands]), he, hie]; simp only [hti, hs]
          exact ⟨hk.1, hk.2.1, hK'⟩
        · exact hk.elim
      · exact hk.elim
    · exact hk.elim
  | extract x i =>
    simp only [ho] at hk
    split at hk
    · rename_i vs he
      split at hk
      · rename_i v hv
        have := hev x
        rw [he] at this
        exact put_local hwf (WFvs_mem.1 this v (List.mem_of_getElem? hv)) hk fun t hA K' hK' => by unfold aOp; simp only [ho]; rw [hA.ev x (by simp [ho, Op.operands]), he]; simp only [hv]; exact hK'
      · exact hk.elim
    · exact hk.elim
  | buildSlice ty len parts =>
    simp only [ho] at hk
    split at hk
    · rename_i ti hti
      split at hk
      · rename_i rows hg hf
        split at hk
        · rename_i h1 h2 h3 h4
          have hre : ∀ t, Agree G o s t → (parts.toList.map fun p => ev G t p.2) = parts.toList.map fun p => ev G s p.2 := fun t hA => List.map_congr_left fun p hp => hA.ev p.2 (by simp only [ho, Op.operands]; exact List.mem_map.2 ⟨p, hp, rfl⟩)
          split at hk
          · rename_i hown
            refine put_local hwf (v := .d _) trivial hk fun t hA K' hK' => ?_
            have := hre t hA
            unfold aOp; simp only [ho, hti, hg, this, hf, h1, h2, h3, h4, hown]; exact hK'
          · rename_i hown
            split at hk
            · rename_i d hdst
              split at hk
              · rename_i hn
                refine new_local hwf hdst (.inl trivial) hn rfl (v := .own d) (ob := .arr true ti.esz rows) (by simp only [WFv, upd_same]; rfl) (fun cells hc => by simp at hc) hk fun t hA hn' K' hK' => ?_
                have := hre t hA
                unfold aOp; simp only [ho, hti, hg, this, hf, h1, h2, h3, h4, hown, hdst, hn']; exact hK'
              · exact hk.elim
            · exact hk.elim
        · exact hk.elim
      · exact hk.elim
    · exact hk.elim
  | makeSlice ty l c =>
    simp only [ho] at hk
    split at hk
    · rename_i ti hti
      split at hk
      · rename_i k1 n k2 m d hg hl hc hdst
        split at hk
        · rename_i hn
          obtain ⟨q1, q2, q3, q4, hk⟩ := hk
          refine new_local hwf hdst (.inl trivial) hn rfl (v := .own d) (ob := .arr true ti.esz (List.replicate n.toNat ti.ezero)) (by simp only [WFv, upd_same]; rfl) (fun cells hc => by simp at hc) hk fun t hA hn' K' hK' => ?_
          unfold aOp; simp only [ho, hti, hg]; rw [hA.ev l (by simp [ho, Op.operands]), hA.ev c (by simp [ho, Op.operands]), hl, hc]; simp only [hdst, hn']
          exact ⟨q1, q2, q3, q4, hK'⟩
        · exact hk.elim
      · exact hk.elim
    · exact hk.elim
  | slice ty x lo hi mx =>
    simp only [ho, frz_true, aSlice] at hk
    split at hk
    · rename_i ti hti
      split at hk
      · rename_i lo' hi' mx' hlo hhi hmx
        have hopt : ∀ t, Agree G o s t → optInt G t lo = some lo' ∧ optInt G t hi = some hi' ∧ optInt G t mx = some mx' ∧ ev G t x = ev G s x := fun t hA => by
          refine ⟨?_, ?_, ?_, hA.ev x (by simp [ho, Op.operands])⟩
          · rw [← hlo]; exact optInt_agree fun y hy => hA.ev y (by simp [ho, Op.operands, hy])
          · rw [← hhi]; exact optInt_agree fun y hy => hA.ev y (by simp [ho, Op.operands, hy])
          · rw [← hmx]; exact optInt_agree fun y hy => hA.ev y (by simp [ho, Op.operands, hy])
        split at hk
        · rename_i full e rows hg he
          split at hk
          · rename_i hee
            obtain ⟨f, r, h1, h2⟩ := cutRows_local hk
            refine put_local hwf (v := .d _) trivial h1 fun t hA K' hK' => ?_
            obtain ⟨q1, q2, q3, q4⟩ := hopt t hA
            unfold aOp; simp only [ho, frz_true, aSlice, hti, q1, q2, q3, q4, he, hg, hee]
            exact h2 (fun f r => putK t o.dst (.d (.slc f e r)) K') hK'
          · exact hk.elim
        · rename_i tok e rows hg he
          split at hk
          · rename_i hee
            obtain ⟨f, r, h1, h2⟩ := cutRows_local hk
            refine put_local hwf (v := .d _) trivial h1 fun t hA K' hK' => ?_
            obtain ⟨q1, q2, q3, q4⟩ := hopt t hA
            unfold aOp; simp only [ho, frz_true, aSlice, hti, q1, q2, q3, q4, he, hg, hee]
            exact h2 (fun f r => putK t o.dst (.d (.slc f e r)) K') hK'
          · exact hk.elim
        · rename_i b hg he
          have hre : ∀ t, Agree G o s t → ∀ K' : St → Prop, (match (generalizing := false) lo', hi', mx' with
              | none, none, none => putK t o.dst (.d (.str b)) K'
              | some l, none, none => 0 ≤ l ∧ l ≤ b.size ∧ putK t o.dst (.d (.str (b.extract l.toNat b.size))) K'
              | none, some h, none => 0 ≤ h ∧ h ≤ b.size ∧ putK t o.dst (.d (.str (b.extract 0 h.toNat))) K'
              | some l, some h, none => 0 ≤ l ∧ l ≤ h ∧ h ≤ b.size ∧ putK t o.dst (.d (.str (b.extract l.toNat h.toNat))) K'
              | _, _, _ => False) → aOp T G C true o t K' := fun t hA K' hK' => by
            obtain ⟨q1, q2, q3, q4⟩ := hopt t hA
            unfold aOp; simp only [ho, frz_true, aSlice, hti, q1, q2, q3, q4, he, hg]
            exact hK'
          split at hk
          · exact put_local hwf (v := .d _) trivial hk fun t hA K' hK' => hre t hA K' hK'
          · exact put_local hwf (v := .d _) trivial hk.2.2 fun t hA K' hK' => hre t hA K' ⟨hk.1, hk.2.1, hK'⟩
          · exact put_local hwf (v := .d _) trivial hk.2.2 fun t hA K' hK' => hre t hA K' ⟨hk.1, hk.2.1, hK'⟩
          · exact put_local hwf (v := .d _) trivial hk.2.2.2 fun t hA K' hK' => hre t hA K' ⟨hk.1, hk.2.1, hk.2.2.1, hK'⟩
          · exact hk.elim
        · exact hk.elim
      · exact hk.elim
    · exact hk.elim
  | call c =>
    simp only [ho] at hk
    split at hk
    · rename_i hcal
      split at hk
      · rename_i x t0 ts hargs hts
        have hmem : x ∈ o.op.operands.toList := by
          rw [ho]; simp only [Op.operands, Call.operands, Array.toList_append, hargs]; simp
        split at hk
        · rename_i ti hti
          split at hk
          · rename_i b hg he
            refine put_local hwf (v := .d _) trivial hk fun t hA K' hK' => ?_
            unfold aOp; simp only [ho, hcal, hargs, hts, hti]; rw [hA.ev x hmem, he]; simp only [hg]; exact hK'
          · rename_i v hg hne
            split at hk
            · rename_i e rows hrows
              refine put_local hwf (v := .d _) trivial hk fun t hA K' hK' => ?_
              have h2 := rowsOf_agree (hp' := t.hp) (fun id hid => hA.hp (by rw [ho]; rfl) x hmem id (idsT_of hid))
              unfold aOp; simp only [ho, hcal, hargs, hts, hti]; rw [hA.ev x hmem]
              rw [hrows] at h2
              cases hs : ti.str <;> cases hx : ev G s x <;> simp only [hx] at h2 ⊢ <;> simp only [hg, h2] <;> first
                | exact hK'
                | (rename_i d; cases d <;> simp only [rowsOf] at h2 <;> first | (simp at h2; done) | skip
                   simp only [rowsOf, h2]; exact hK')
                | skip
            · exact hk.elim
          · exact hk.elim
        · exact hk.elim
      · exact hk.elim
    · rename_i hcal
      split at hk
      · rename_i x t0 ts hargs hts
        have hmem : x ∈ o.op.operands.toList := by
          rw [ho]; simp only [Op.operands, Call.operands, Array.toList_append, hargs]; simp
        split at hk
        · rename_i ti hti
          split at hk
          · rename_i e rows hg he
            refine put_local hwf (v := .d _) trivial hk fun t hA K' hK' => ?_
            unfold aOp; simp only [ho, hcal, hargs, hts, hti]; rw [hA.ev x hmem, he]; simp only [hg]; exact hK'
          · exact hk.elim
        · exact hk.elim
      · exact hk.elim
    · rename_i hcal
      split at hk
      · rename_i x y tx ty d hargs hts hdst
        have hmx : x ∈ o.op.operands.toList := by
          rw [ho]; simp only [Op.operands, Call.operands, Array.toList_append, hargs]; simp
        have hmy : y ∈ o.op.operands.toList := by
          rw [ho]; simp only [Op.operands, Call.operands, Array.toList_append, hargs]; simp
        split at hk
        · rename_i ti tj hti htj
          split at hk
          · rename_i e2 rows2 hg hg2 hr2
            split at hk
            · rename_i full0 e rows hb hx
              split at hk
              · rename_i hn hee
                split at hk
                · rename_i hown
                  obtain ⟨q1, q2, hk⟩ := hk
                  refine new_local hwf hdst (.inl trivial) hn rfl (v := .own d) (ob := .arr false e rows2) (by simp only [WFv, upd_same]; rfl) (fun cells hc => by simp at hc) hk fun t hA hn' K' hK' => ?_
                  have h2 := rowsOf_agree (hp' := t.hp) (fun id hid => hA.hp (by rw [ho]; rfl) y hmy id (idsT_of hid))
                  unfold aOp; simp only [ho, hcal, hargs, hts, hti, htj, hdst]; rw [hA.ev x hmx, hA.ev y hmy, h2, hr2, hx]; simp only [hg, hg2, hb, hn', hee, hown]
                  exact ⟨q1, q2, hK'⟩
                · rename_i rows hne
                  obtain ⟨q1, q2, hk⟩ := hk
                  refine new_local hwf hdst (.inl trivial) hn rfl (v := .osl d e (_ ++ rows2)) (ob := .grow e (_ + rows2.length)) (by simp only [WFv, upd_same]; rfl) (fun cells hc => by simp at hc) hk fun t hA hn' K' hK' => ?_
                  have h2 := rowsOf_agree (hp' := t.hp) (fun id hid => hA.hp (by rw [ho]; rfl) y hmy id (idsT_of hid))
                  unfold aOp; simp only [ho, hcal, hargs, hts, hti, htj, hdst]; rw [hA.ev x hmx, hA.ev y hmy, h2, hr2, hx]; simp only [hg, hg2, hb, hn', hee]
                  exact ⟨q1, q2, hK'⟩
              · exact hk.elim
            · rename_i tok e rows hb hx
              split at hk
              · rename_i e0 n hn hee
                obtain ⟨q0, q1, q2, hk⟩ := hk
                have hus : (s.hp tok).used = true := by rw [hn]; rfl
                have hm : ∀ i, (s.hp i).used = true → (upd s.hp tok (.grow e (rows.length + rows2.length)) i).used = true := fun i hi => by
                  rw [upd_eq]; split
                  · rfl
                  · exact hi
                refine ⟨⟨some d, .osl tok e (rows ++ rows2), some (tok, .grow e (rows.length + rows2.length))⟩, hdst.symm, hk, ⟨fun i => ?_, fun i cells hi => ?_, fun k => WFv.mono hm _ (hwf.gl k)⟩, fun i ob' hi => ?_, fun t hA K' hK' => ?_⟩
                · simp only [Delta.app, upd_eq]
                  split
                  · simp only [WFv, upd_same]; rfl
                  · exact WFv.mono hm _ (hwf.sl i)
                · simp only [Delta.app, upd_eq] at hi
                  split at hi
                  · simp at hi
                  · exact WFvs.mono hm _ (hwf.hp i cells hi)
                · simp only [Option.some.injEq, Prod.mk.injEq] at hi
                  obtain ⟨rfl, rfl⟩ := hi
                  exact ⟨rfl, .inr ⟨by rw [ho]; simp only [isW, hcal], x, hmx, by rw [hx]; simp [idsT, toks]⟩⟩
                · have h2 := rowsOf_agree (hp' := t.hp) (fun id hid => hA.hp (by rw [ho]; rfl) y hmy id (idsT_of hid))
                  have h3 : t.hp tok = .grow e0 n := by rw [hA.hp (by rw [ho]; rfl) x hmx tok (by rw [hx]; simp [idsT, toks]), hn]
                  unfold aOp; simp only [ho, hcal, hargs, hts, hti, htj, hdst]; rw [hA.ev x hmx, hA.ev y hmy, h2, hr2, hx]; simp only [hg, hg2, hb, h3, hee]
                  exact ⟨q0, q1, q2, hK'⟩
              · exact hk.elim
            · exact hk.elim
          · exact hk.elim
        · exact hk.elim
      · exact hk.elim
    · rename_i f hcal
      split at hk
      · rename_i fid caps he
        have hmf : f ∈ o.op.operands.toList := by
          rw [ho]; simp only [Op.operands, Call.operands, Array.toList_append, hcal]; simp
        have hma : ∀ x, x ∈ c.args.toList → x ∈ o.op.operands.toList := fun x hx => by
          rw [ho]; simp only [Op.operands, Call.operands, Array.toList_append, List.mem_append]; exact .inr hx
        have hmap : ∀ t, Agree G o s t → c.args.toList.map (ev G t) = c.args.toList.map (ev G s) := fun t hA => List.map_congr_left fun x hx => hA.ev x (hma x hx)
        split at hk
        · rename_i hkd
          split at hk
          · rename_i hown
            split at hk
            · rename_i f' d hdst
              split at hk
              · rename_i hn hpl
                obtain ⟨ob, hC, hk⟩ := hk
                split at hk
                · rename_i full e rows
                  refine new_local hwf hdst (.inl trivial) hn rfl (v := .own d) (ob := .arr full e rows) (by simp only [WFv, upd_same]; rfl) (fun cells hc => by simp at hc) hk fun t hA hn' K' hK' => ?_
                  have hte : ev G t (.func f') = .d (.fn fid caps) := by rw [hA.ev _ hmf, he]
                  unfold aOp; simp only [ho, hcal, hte, hkd, hown, hdst, hmap t hA, hn', hpl]
                  exact ⟨_, hC, hK'⟩
                · exact hk.elim
              · exact hk.elim
            · exact hk.elim
          rename_i hown
          split at hk
          · rename_i f' id as hargs
            split at hk
            · rename_i cells hid
              obtain ⟨r, cells', hC, hk⟩ := hk
              split at hk
              · rename_i h1 h2 h3 h4
                have hf' : fid = f' := by
                  simp only [ev] at he
                  injection he with he; injection he with he _; exact he.symm
                subst hf'
                obtain ⟨x, hx, hxe⟩ : ∃ x, x ∈ c.args.toList ∧ ev G s x = .ref id 0 0 0 := by
                  have : V.ref id 0 0 0 ∈ c.args.toList.map (ev G s) := by rw [hargs]; exact List.mem_cons_self
                  obtain ⟨x, hx, hxe⟩ := List.mem_map.1 this
                  exact ⟨x, hx, hxe⟩
                have hus : (s.hp id).used = true := by rw [hid]; rfl
                rw [withS_eq, putK_eq] at hk
                have hm : ∀ i, (s.hp i).used = true → (upd s.hp id (.box cells') i).used = true := fun i hi => by
                  rw [upd_eq]; split
                  · rfl
                  · exact hi
                refine ⟨⟨o.dst, r, some (id, .box cells')⟩, rfl, ?_, ⟨fun i => ?_, fun i cs hi => ?_, fun k => WFv.mono hm _ (hwf.gl k)⟩, fun i ob' hi => ?_, fun t hA K' hK' => ?_⟩
                · cases hd : o.dst <;> rw [hd] at hk <;> exact hk
                · cases hd : o.dst with
                  | none => exact WFv.mono hm _ (hwf.sl i)
                  | some d =>
                    simp only [Delta.app, upd_eq]
                    split
                    · exact plain_wf _ _ h3
                    · exact WFv.mono hm _ (hwf.sl i)
                · simp only [Delta.app, upd_eq] at hi
                  split at hi
                  · injection hi with hi; subst hi; exact plains_wf _ _ h4
                  · exact WFvs.mono hm _ (hwf.hp i cs hi)
                · simp only [Option.some.injEq, Prod.mk.injEq] at hi
                  obtain ⟨rfl, rfl⟩ := hi
                  exact ⟨rfl, .inr ⟨by rw [ho]; simp only [isW, hcal]; exact hkd, x, hma x hx, by rw [hxe]; simp [idsT, toks, idsV, ids1]⟩⟩
                · have ht : t.hp id = .box cells := by rw [hA.hp (by rw [ho]; rfl) x (hma x hx) id (by rw [hxe]; simp [idsT, toks, idsV, ids1]), hid]
                  have hte : ev G t (.func fid) = .d (.fn fid caps) := by rw [hA.ev _ hmf, he]
                  unfold aOp; simp only [ho, hcal, hte, hkd, hown, hmap t hA, hargs, ht]
                  refine ⟨r, cells', hC, ?_⟩
                  simp only [h1, h2, h3, h4]
                  rw [withS_eq, putK_eq]
                  cases hd : o.dst <;> rw [hd] at hK' <;> exact hK'
              · exact hk.elim
            · exact hk.elim
          · exact hk.elim
        · rename_i hkd
          split at hk
          · rename_i args hp
            obtain ⟨r, hC, hk⟩ := hk
            have hevs : ∀ t, Agree G o s t → ev G t f = .d (.fn fid caps) ∧ pureVs t.hp (c.args.toList.map (ev G t)) = some args ∧
                (c.args.toList.map (ev G t)).flatMap (idsV t.hp) = (c.args.toList.map (ev G s)).flatMap (idsV s.hp) := fun t hA => by
              have h2 := pureVs_agree (hp := s.hp) (hp' := t.hp) (vs := c.args.toList.map (ev G s)) (fun v hv id hid => by
                obtain ⟨x, hx, rfl⟩ := List.mem_map.1 hv
                exact hA.hp (by rw [ho]; rfl) x (hma x hx) id (idsT_of hid))
              rw [hmap t hA, h2.1, h2.2]
              exact ⟨by rw [hA.ev f hmf, he], hp, rfl⟩
            split at hk
            · rename_i hs
              refine put_local hwf (plain_wf _ _ (scalar_plain _ hs)) hk fun t hA K' hK' => ?_
              obtain ⟨q1, q2, q3⟩ := hevs t hA
              unfold aOp; simp only [ho, hcal, q1, hkd, q2]
              exact ⟨r, hC, by simp only [hs]; exact hK'⟩
            · rename_i hs
              split at hk
              · rename_i hids hpl
                refine put_local hwf (plain_wf _ _ hpl) hk fun t hA K' hK' => ?_
                obtain ⟨q1, q2, q3⟩ := hevs t hA
                unfold aOp; simp only [ho, hcal, q1, hkd, q2, q3]
                exact ⟨r, hC, by simp only [hs, hids, hpl]; exact hK'⟩
              · exact hk.elim
          · exact hk.elim
      · exact hk.elim
    · exact hk.elim
  | _ => simp only [ho] at hk

end Go.Proofs.Ytnnmkenloijkcaa.Eng
