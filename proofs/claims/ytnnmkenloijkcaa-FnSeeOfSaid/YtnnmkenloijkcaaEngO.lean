/- The engine, part O: each operation is sound; regions in the text's order. -/
import Derived.Test.YtnnmkenloijkcaaEngO0
set_option linter.unusedVariables false
set_option linter.unusedSimpArgs false
namespace Go.Proofs.Ytnnmkenloijkcaa.Eng
open Go

variable {E : Env} {s : St} {a : Act} {w : World} {g : Gh} {T : Tab} {C : Ctr} {q : Bool} {o : Oper} {K : St → Prop}

mutual
theorem plain_ok : ∀ (v : V), v.plain = true → ∀ ids, okV ids v = true
  | .undef, h, _ => by simp [V.plain] at h
  | .d _, _, _ => rfl
  | .ref .., h, _ => by simp [V.plain] at h
  | .own _, h, _ => by simp [V.plain] at h
  | .osl .., h, _ => by simp [V.plain] at h
  | .agg cs, h, ids => by simp only [V.plain] at h; simp only [okV]; exact plains_ok cs h ids
  | .tup cs, h, ids => by simp only [V.plain] at h; simp only [okV]; exact plains_ok cs h ids
  | .clo .., h, _ => by simp [V.plain] at h
theorem plains_ok : ∀ (vs : List V), plains vs = true → ∀ ids, okVs ids vs = true
  | [], _, _ => rfl
  | c :: cs, h, ids => by
    unfold plains at h
    split at h
    · rename_i hc; simp only [okVs, plain_ok c hc ids, plains_ok cs h ids, Bool.and_true]
    · simp at h
end

/-- What the engine stands on. -/
structure Base (E : Env) (T : Tab) (C : Ctr) : Prop where
  tab : tabB E.P T = true
  cmp : ∀ t ti, T.get t = some ti → ti.cmp = true → CmpOk E.P t ti.zero
  ctr : ∀ f args φ, C.pure f args φ → ACalls E.P E.glob f args φ
  hctr : ∀ f hp0 args φ, C.heap f hp0 args φ → HCalls E.P E.glob f hp0 args φ
  keep : ∀ id, (E.hp0 id).used = true → id ∈ C.keep

theorem aOp_sound (B : Base E T C) (h : Rel E s a w g) (hd : ∀ d, o.dst = some d → d < E.nt) (hk : aOp T E.glob C q o s K) : OpOk E o a w K := by
  have hT : ∀ {t ti}, T.get t = some ti → TIok E.P t ti := fun h => tab_ok B.tab h
  unfold aOp at hk
  cases ho : o.op with
  | move x => simp only [ho] at hk; exact sound_move (.inl ho) h hd hk
  | assign x => simp only [ho] at hk; exact sound_assign ho h hd hk
  | pick c x y => simp only [ho] at hk; exact sound_pick ho h hd hk
  | alloc t =>
    simp only [ho] at hk
    split at hk
    · rename_i d ti hdst hti
      split at hk
      · rename_i hn hz
        exact sound_alloc ho hdst (hT hti) (by rw [hz]; simp) h hd hn (by simpa [hz, withS_eq] using hk)
      · exact hk.elim
    · exact hk.elim
  | box t x =>
    simp only [ho] at hk
    split at hk
    · rename_i d hdst
      split at hk
      · exact hk.elim
      · exact hk.elim
      · rename_i hn h1 h2
        exact sound_box ho hdst h hd hn (fun e => h1 e) (fun vs e => h2 vs e) hk
      · exact hk.elim
    · exact hk.elim
  | build t parts =>
    simp only [ho] at hk
    split at hk
    · rename_i ti hti
      exact sound_build ho (hT hti) h hd hk
    · exact hk.elim
  | load t x =>
    simp only [ho] at hk
    split at hk
    · rename_i ti hti
      exact sound_load ho (hT hti) h hd hk
    · exact hk.elim
  | store t p x =>
    simp only [ho] at hk
    split at hk
    · rename_i ti hti
      exact sound_store ho (hT hti) h hd hk
    · exact hk.elim
  | nilCheck x => simp only [ho] at hk; exact sound_nilCheck ho h hd hk
  | binOp op t x y t' =>
    simp only [ho] at hk
    split at hk
    · rename_i ti hti
      split at hk
      · rename_i e rows hn
        split at hk
        · rename_i hg he
          have he := Nat.eq_of_beq_eq_true he
          subst he
          exact sound_nilCmp ho (hT hti) h hd hg hn hk
        · exact hk.elim
      · exact sound_binOp ho (hT hti) (B.cmp _ _ hti) h hd hk
    · exact hk.elim
  | unOp op t x => simp only [ho] at hk; exact sound_unOp ho h hd hk
  | convert src dst x =>
    simp only [ho] at hk
    split at hk
    · rename_i ti si hti hsi
      exact sound_convert ho (hT hti) (hT hsi) h hd hk
    · exact hk.elim
  | makeFunc fn first captured =>
    cases fn with
    | func f => simp only [ho] at hk; exact sound_makeFunc ho h hd hk
    | _ => simp only [ho] at hk
  | fieldAddr t x f =>
    simp only [ho] at hk
    split at hk
    · rename_i ti hti
      exact sound_fieldAddr ho (hT hti) h hd hk
    · exact hk.elim
  | indexAddr t x i =>
    simp only [ho] at hk
    split at hk
    · rename_i ti hti
      exact sound_indexAddr ho (hT hti) h hd hk
    · exact hk.elim
  | index t x i =>
    simp only [ho] at hk
    split at hk
    · rename_i b k n hx hi
      split at hk
      · rename_i ti hti
        split at hk
        · rename_i hs
          exact sound_index ho (hT hti) h hd hx hi hs hk
        · exact hk.elim
      · exact hk.elim
    · exact hk.elim
  | extract x i => simp only [ho] at hk; exact sound_extract ho h hd hk
  | buildSlice t len parts =>
    simp only [ho] at hk
    split at hk
    · rename_i ti hti
      split at hk
      · rename_i rows hg hr
        split at hk
        · rename_i h1 h2 h3 h4
          split at hk
          · exact sound_buildSlice ho (hT hti) h hd (by simp only [hg, hr, h1, h2, h3, h4]; exact hk)
          · split at hk
            · rename_i d hdst
              split at hk
              · rename_i hn
                exact sound_buildSlice_own ho hdst (hT hti) h hd hn (by simp only [hg, hr, h1, h2, h3, h4]; exact hk)
              · exact hk.elim
            · exact hk.elim
        · exact hk.elim
      · exact hk.elim
    · exact hk.elim
  | makeSlice t l c =>
    simp only [ho] at hk
    split at hk
    · rename_i ti hti
      split at hk
      · rename_i k1 n k2 m d hg hl hc hdst
        split at hk
        · rename_i hn
          have hTi := hT hti
          obtain ⟨_, _, _, _, _, _, z, _, hz2, hz3⟩ := hTi.slc hg
          have := (zerosB_reps w g s.hp _ _ hz2).len
          exact sound_makeSlice ho hdst hTi h hd hg hl hc hn (by simp at this; omega) hk
        · exact hk.elim
      · exact hk.elim
    · exact hk.elim
  | slice t x lo hi mx =>
    simp only [ho] at hk
    split at hk
    · exact sound_clip hT ho h hd hk
    split at hk
    · rename_i s2 hf
      obtain ⟨g2, h2⟩ := rel_frz h hf
      unfold aSlice at hk
      split at hk
      · rename_i ti hti
        exact sound_slice ho (hT hti) h2 hd hk
      · exact hk.elim
    · unfold aSlice at hk
      split at hk
      · rename_i ti hti
        exact sound_slice ho (hT hti) h hd hk
      · exact hk.elim
  | call c =>
    simp only [ho] at hk
    split at hk
    · rename_i hb
      split at hk
      · rename_i x t ts hx ht
        split at hk
        · rename_i ti hti
          exact sound_len ho hb hx ht (hT hti) h hd hk
        · exact hk.elim
      · exact hk.elim
    · rename_i hb
      split at hk
      · rename_i x t ts hx ht
        split at hk
        · rename_i ti hti
          exact sound_cap ho hb hx ht (hT hti) h hd hk
        · exact hk.elim
      · exact hk.elim
    · rename_i hb
      split at hk
      · rename_i x y tx ty d hx ht hdst
        split at hk
        · rename_i ti tj hti htj
          split at hk
          · rename_i e2 rows2 hg _ hy
            split at hk
            · rename_i e rows heq hxe
              simp only [Bool.and_eq_true] at heq
              obtain ⟨h1, h2⟩ := heq
              have h1 := Nat.eq_of_beq_eq_true h1
              have h2 := Nat.eq_of_beq_eq_true h2
              subst h1; subst h2
              split at hk
              · rename_i hn he
                have he := Nat.eq_of_beq_eq_true he
                subst he
                split at hk
                · exact sound_append_own ho hb hx ht hdst (hT hti) hg h hd hxe hy hn hk.1 hk.2.1 hk.2.2
                · exact sound_append_new ho hb hx ht hdst (hT hti) hg h hd hxe hy hn hk.1 hk.2.1 hk.2.2
              · exact hk.elim
            · rename_i tok e rows heq hxe
              simp only [Bool.and_eq_true] at heq
              obtain ⟨h1, h2⟩ := heq
              have h1 := Nat.eq_of_beq_eq_true h1
              have h2 := Nat.eq_of_beq_eq_true h2
              subst h1; subst h2
              split at hk
              · rename_i e0 n hn he
                have he := Nat.eq_of_beq_eq_true he
                subst he
                exact sound_append_grow ho hb hx ht hdst (hT hti) hg h hd hxe hy hn hk.1 hk.2.1 hk.2.2.1 hk.2.2.2
              · exact hk.elim
            · exact hk.elim
          · exact hk.elim
        · exact hk.elim
      · exact hk.elim
    · rename_i f hb
      split at hk
      · rename_i fid caps hev
        split at hk
        · split at hk
          · split at hk
            · split at hk
              · rename_i d hdst
                split at hk
                · rename_i hn hpl
                  obtain ⟨ob, hc, hk⟩ := hk
                  split at hk
                  · rename_i full e rows
                    refine sound_hcall (hin := []) ho hb h hd hev trivial (plains_ok _ hpl _) (B.hctr _ _ _ _ hc) ?_
                    rintro r' l ⟨rfl, rfl⟩
                    refine ⟨⟨hn, trivial⟩, ?_⟩
                    rw [hdst, putK_eq]
                    exact hk
                  · exact hk.elim
                · exact hk.elim
              · exact hk.elim
            split at hk
            · rename_i f' id as hargs
              split at hk
              · rename_i cells hid
                obtain ⟨r, cells', hc, hk⟩ := hk
                split at hk
                · rename_i h1 h2 h3 h4
                  have hok : ∀ l : List V, plains l = true → ∀ ids, okVs ids l = true := plains_ok
                  refine sound_hcall (hin := [(id, .box cells)]) ho hb h hd hev ⟨hid, by simpa [okO] using hok _ h2 _, trivial⟩ ?_ (by rw [hargs]; exact B.hctr _ _ _ _ hc) ?_
                  · rw [hargs]; simp [okVs, okV, hok _ h1]
                  · rintro r' l ⟨rfl, rfl⟩
                    refine ⟨⟨by simp, trivial⟩, ?_⟩
                    exact hk
                · exact hk.elim
              · exact hk.elim
            · exact hk.elim
          · obtain ⟨hin, φ, hc, h1, h2, hk⟩ := hk
            exact sound_hcall ho hb h hd hev h1 h2 (B.hctr _ _ _ _ hc) hk
        · split at hk
          · rename_i args hargs
            split at hk
            · obtain ⟨r, hc, hk⟩ := hk
              refine sound_call ho hb h hd hev hargs (B.ctr _ _ _ hc) fun r' hr' => ?_
              subst hr'
              split at hk
              · rename_i hs; simp only [hs]; exact hk
              · rename_i hs
                simp only [hs]
                split at hk
                · rename_i hids _
                  rw [hids]
                  exact hk
                · exact hk.elim
            · obtain ⟨φ, hc, hk⟩ := hk
              simp only [forceN_eq] at hk
              exact sound_call ho hb h hd hev hargs (B.ctr _ _ _ hc) hk
          · exact hk.elim
      · exact hk.elim
    · exact hk.elim
  | _ => simp only [ho] at hk

def chkOps (nt : Nat) (ops : List Oper) : Bool := ops.all fun o => match o.dst with | some d => Nat.blt d nt | none => true

theorem chkOps_ok {nt : Nat} {ops : List Oper} (h : chkOps nt ops = true) {o : Oper} (ho : o ∈ ops) : ∀ d, o.dst = some d → d < nt := by
  intro d hd
  have := List.all_eq_true.1 h o ho
  rw [hd] at this
  exact Nat.le_of_ble_eq_true this

theorem guard_val {ops : Array Oper} {j gs : Nat} {b : Bool} (h : Rel E s a w g) (hg : (ops[j]?).bind (·.dst) = some gs) (hs : s.sl gs = .d (.bool b)) : yielded ops a.tmps j = some b := by
  have hv := h.slots gs
  rw [hs] at hv
  have hv := repV_bool hv
  unfold yielded
  rw [hg]
  cases ht : a.tmps[gs]? with
  | none => simp [Array.getD_eq_getD_getElem?, ht, Go.undef] at hv
  | some v =>
    simp only [Array.getD_eq_getD_getElem?, ht, Option.getD_some] at hv
    subst hv
    simp [ht]

theorem repV_gone {hp : Nat → Obj} : RepV w g hp (.tup []) Go.undef := by simp only [RepV]; exact ⟨#[], rfl, by simp [RepVs]⟩
theorem guard_gone {ops : Array Oper} {j gs : Nat} (h : Rel E s a w g) (hg : (ops[j]?).bind (·.dst) = some gs) (hs : s.sl gs = .tup []) : yielded ops a.tmps j = none := by
  have hv := h.slots gs
  rw [hs] at hv
  simp only [RepV] at hv
  obtain ⟨us, hv, _⟩ := hv
  unfold yielded
  rw [hg]
  cases ht : a.tmps[gs]? with
  | none => simp [ht]
  | some v =>
    simp only [Array.getD_eq_getD_getElem?, ht, Option.getD_some] at hv
    subst hv
    simp [ht]

theorem aStep_sound {ops : Array Oper} {P' : List Oper} {Q : Exit → Act → World → Prop} {next : Act → World → Prop} (B : Base E T C) (h : Rel E s a w g) (hd : ∀ d, o.dst = some d → d < E.nt)
    (hk : aStep T E.glob C q ops o s K) (hn : ∀ s' a' w' g', K s' → Rel E s' a' w' g' → next a' w') :
    if Region.wanted o (yielded ops a.tmps) then o.wp E.P a w next Q else next (a.put o.dst Go.undef) w := by
  unfold aStep at hk
  split at hk
  · rename_i hg
    rw [if_pos (by simp [Region.wanted, hg])]
    exact aOp_sound B h hd hk next Q hn
  · rename_i j want hg
    split at hk
    · rename_i gs hgs
      split at hk
      · rename_i b hb
        have hy := guard_val h hgs hb
        have hw : Region.wanted o (yielded ops a.tmps) = (b == want) := by
          simp only [Region.wanted, hg, hy]; cases b <;> cases want <;> rfl
        rw [hw]
        cases b <;> cases want <;> simp only [aIf] at hk
        · exact aOp_sound B h hd hk next Q hn
        · rw [putK_eq] at hk
          exact hn _ _ _ _ hk (rel_put h repV_gone hd)
        · rw [putK_eq] at hk
          exact hn _ _ _ _ hk (rel_put h repV_gone hd)
        · exact aOp_sound B h hd hk next Q hn
      · rename_i hb
        have hy := guard_gone h hgs hb
        have hw : Region.wanted o (yielded ops a.tmps) = false := by
          simp only [Region.wanted, hg, hy]; rfl
        rw [hw]
        rw [putK_eq] at hk
        exact hn _ _ _ _ hk (rel_put h repV_gone hd)
      · exact hk.elim
    · exact hk.elim

theorem aOps_sound {ops : Array Oper} {Q : Exit → Act → World → Prop} (B : Base E T C) : ∀ (l : List Oper) (s : St) (a : Act) (w : World) (g : Gh) (K : St → Prop), chkOps E.nt l = true → Rel E s a w g → aOps T E.glob C q ops l s K →
    (∀ s' a' w' g', K s' → Rel E s' a' w' g' → Q .normal a' w') → wpList E.P ops Q l a w
  | [], s, a, w, g, K, _, h, hk, hn => hn _ _ _ _ hk h
  | o :: l, s, a, w, g, K, hc, h, hk, hn => by
    simp only [aOps] at hk
    refine wpList_step fun K' hK' => ?_
    have hc' : chkOps E.nt l = true := by simp only [chkOps, List.all_cons, Bool.and_eq_true] at hc ⊢; exact hc.2
    exact aStep_sound (P' := l) B h (chkOps_ok hc List.mem_cons_self) hk fun s' a' w' g' hk' h' => hK' _ _ (aOps_sound B l s' a' w' g' K hc' h' hk' hn)

end Go.Proofs.Ytnnmkenloijkcaa.Eng
