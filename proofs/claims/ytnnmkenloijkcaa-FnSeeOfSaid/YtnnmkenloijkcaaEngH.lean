/- The engine, part H: lengths and cuts. -/
import Derived.Test.YtnnmkenloijkcaaEngG
set_option linter.unusedVariables false
set_option linter.unusedSimpArgs false
namespace Go.Proofs.Ytnnmkenloijkcaa.Eng
open Go

variable {E : Env} {s : St} {a : Act} {w : World} {g : Gh} {T : Tab} {C : Ctr} {q : Bool} {o : Oper} {K : St → Prop}

theorem exec_builtin {c : Call} {b : Builtin} (ho : o.op = .call c) (hb : c.callee = .builtin b) :
    ∃ cs, execOp a.eval o = builtin b c.argTypes o.type cs (c.args.map a.eval) := by
  unfold execOp
  rw [ho]
  simp only [resolve, hb, pure_bind, invoke]
  exact ⟨_, rfl⟩

theorem sound_len {c : Call} {x : Operand} {t : TypeId} {ts : List TypeId} {ti : TI} (ho : o.op = .call c) (hb : c.callee = .builtin .len) (hx : c.args.toList = [x]) (ht : c.argTypes.toList = t :: ts)
    (hT : TIok E.P t ti) (h : Rel E s a w g) (hd : ∀ d, o.dst = some d → d < E.nt)
    (hk : match ti.str, ti.slc, ev E.glob s x with
      | true, _, .d (.str b) => putK s o.dst (.d (.int .i64 b.size)) K
      | _, true, v => match rowsOf s.hp v with
        | some (_, rows) => lenK q rows.length (putK s o.dst (.d (.int .i64 rows.length)) K)
        | none => False
      | _, _, _ => False) : OpOk E o a w K := by
  have hv := rel_ev h x
  have ha : c.args.map a.eval = #[a.eval x] := by
    apply Array.ext'
    simp [hx]
  have h0 : c.argTypes[0]? = some t := by rw [← Array.getElem?_toList, ht]; rfl
  obtain ⟨cs, hex⟩ := exec_builtin (o := o) (a := a) ho hb
  rw [ha] at hex
  split at hk
  · rename_i b h1 he
    rw [he] at hv
    refine op_put h hd (u := .int .i64 b.size) ?_ (repV_mkint _ _ _) hk
    rw [hex, repV_str hv]
    simp [builtin, Builtin.len_, h0, run_underlying (hT.str h1), goInt]
  · rename_i h1 _
    split at hk
    · rename_i e rows hr
      obtain ⟨A, cp, hu, _, hle⟩ := rowsOf_len h.objs hv hr
      have hk : putK s o.dst (.d (.int .i64 rows.length)) K := by
        cases q with
        | true => exact hk
        | false => exact hk hle
      refine op_put h hd (u := .int .i64 rows.length) ?_ (repV_mkint _ _ _) hk
      rw [hex, hu]
      simp [builtin, Builtin.len_, h0, run_underlying (hT.slc h1).1, goInt]
    · exact hk.elim
  · exact hk.elim

theorem sound_cap {c : Call} {x : Operand} {t : TypeId} {ts : List TypeId} {ti : TI} (ho : o.op = .call c) (hb : c.callee = .builtin .cap) (hx : c.args.toList = [x]) (ht : c.argTypes.toList = t :: ts)
    (hT : TIok E.P t ti) (h : Rel E s a w g) (hd : ∀ d, o.dst = some d → d < E.nt)
    (hk : match ti.slc, ev E.glob s x with
      | true, .d (.slc true _ rows) => putK s o.dst (.d (.int .i64 rows.length)) K
      | _, _ => False) : OpOk E o a w K := by
  have hv := rel_ev h x
  have ha : c.args.map a.eval = #[a.eval x] := by
    apply Array.ext'
    simp [hx]
  have h0 : c.argTypes[0]? = some t := by rw [← Array.getElem?_toList, ht]; rfl
  obtain ⟨cs, hex⟩ := exec_builtin (o := o) (a := a) ho hb
  rw [ha] at hex
  split at hk
  · rename_i e rows h1 he
    rw [he] at hv
    simp only [RepV] at hv
    generalize a.eval x = u at hv hex
    cases hv with
    | slc full esz rows A c vals hc hn hf hrow hA hcell hrep =>
      have := hf rfl
      subst this
      refine op_put h hd (u := .int .i64 rows.length) ?_ (repV_mkint _ _ _) hk
      rw [hex]
      simp [builtin, Builtin.cap_, h0, run_underlying (hT.slc h1).1, goInt]
  · exact hk.elim

/-- A cut of rows. -/
theorem repD_cut {full : Bool} {e : Nat} {rows : List (List D)} {A : Option Addr} {c n : Nat} (h : RepD w g.imm (.slc full e rows) (.slice A n c)) (he : e ≠ 0) (l u m : Nat) (h1 : l ≤ u) (h2 : u ≤ rows.length) (h3 : u ≤ m) (h4 : m ≤ c)
    (f : Bool) (hf : f = true → m = u) :
    RepD w g.imm (.slc f e ((rows.take u).drop l)) (.slice (if m = l then A else A.map (·.add (l * e))) (u - l) (m - l)) := by
  cases h with
  | slc full esz rows A c vals hc hn hf' hrow hA hcell hrep =>
    have hlen : ((rows.take u).drop l).length = u - l := by simp; omega
    have hget : ∀ (i : Nat) (r : List D), ((rows.take u).drop l)[i]? = some r → rows[l + i]? = some r := fun i r hi => by
      rw [List.getElem?_drop, List.getElem?_take] at hi
      split at hi
      · exact hi
      · simp at hi
    have key : ∀ A', (((rows.take u).drop l) ≠ [] → ∃ b o, A' = some ⟨b, o, none⟩) → (∀ b o, A' = some ⟨b, o, none⟩ → ((rows.take u).drop l) ≠ [] → ∃ o', A = some ⟨b, o', none⟩ ∧ o = o' + l * e) →
        RepD w g.imm (.slc f e ((rows.take u).drop l)) (.slice A' (u - l) (m - l)) := by
      intro A' hA1 hA2
      have hrr := RepD.slc (w := w) (imm := g.imm) f e ((rows.take u).drop l) A' (m - l) (fun i j => vals (l + i) j) (by omega) (by omega) (fun hft => by have := hf hft; omega)
        (fun i r hi => hrow _ r (hget i r hi)) hA1 (fun b o hAo i r hi j x hj => by
          obtain ⟨o', ho1, ho2⟩ := hA2 b o hAo (by intro h0; rw [h0] at hi; simp at hi)
          have := hcell b o' ho1 (l + i) r (hget i r hi) j x hj
          rw [show o + i * e + j = o' + (l + i) * e + j by rw [ho2, Nat.add_mul]; omega]
          exact this)
        (fun i r hi j x hj => hrep _ r (hget i r hi) j x hj)
      rw [hlen] at hrr
      exact hrr
    split
    · rename_i hml
      refine key A (fun hne => ?_) (fun b o hA' hne => ?_)
      · exact absurd (List.length_eq_zero_iff.1 (by rw [hlen]; omega)) hne
      · exact absurd (List.length_eq_zero_iff.1 (by rw [hlen]; omega)) hne
    · refine key _ (fun hne => ?_) (fun b o hA' hne => ?_)
      · have : rows ≠ [] := by rintro rfl; simp at hne
        obtain ⟨b, o, rfl⟩ := hA this
        exact ⟨b, o + l * e, by simp [addr_add]⟩
      · have : rows ≠ [] := by rintro rfl; simp at hne
        obtain ⟨b', o', rfl⟩ := hA this
        simp only [Option.map_some, addr_add, Option.some.injEq, Addr.mk.injEq] at hA'
        obtain ⟨rfl, rfl, _⟩ := hA'
        exact ⟨o', rfl, rfl⟩

theorem run_sliceBound {P : Program} {k : IntKind} {n : Int} {bnd : Nat} {code : BoundsCode} (h0 : 0 ≤ n) (h1 : n ≤ bnd) (w : World) : (Instr.sliceBound (.int k n) bnd code).run P w = .ok n.toNat w := by
  unfold Instr.sliceBound
  simp [asIntOf, h0, h1]

theorem optInt_some {x : Option Operand} {r : Option Int} (h : Rel E s a w g) (hx : optInt E.glob s x = some r) :
    (r = none ∧ x = none) ∨ ∃ n k y, r = some n ∧ x = some y ∧ a.eval y = .int k n := by
  unfold optInt at hx
  split at hx
  · injection hx with hx; exact .inl ⟨hx.symm, rfl⟩
  · rename_i y
    split at hx
    · rename_i n hn
      injection hx with hx
      have hv := rel_ev h y
      unfold asInt at hn
      split at hn
      · rename_i k m he
        injection hn with hn
        subst hn
        rw [he] at hv
        exact .inr ⟨_, k, y, hx.symm, rfl, repV_int hv⟩
      · simp at hn
    · simp at hx

/-- A cut's bounds, by the operands. -/
theorem run_bounds {P : Program} {lo hi mx : Option Operand} {l h m : Option Int} (hr : Rel E s a w g) (h1 : optInt E.glob s lo = some l) (h2 : optInt E.glob s hi = some h) (h3 : optInt E.glob s mx = some m) (isS : Bool) (len cap : Nat)
    (hm : m = none ∨ h ≠ none) (L H M : Nat) (hM : M = (m.getD cap).toNat) (hH : H = (h.getD len).toNat) (hL : L = (l.getD 0).toNat)
    (g1 : ∀ x, l = some x → 0 ≤ x) (g2 : ∀ x, h = some x → 0 ≤ x) (g3 : ∀ x, m = some x → 0 ≤ x) (b1 : L ≤ H) (b2 : H ≤ M) (b3 : M ≤ cap) :
    (Instr.sliceBounds isS len cap (lo.map a.eval) (hi.map a.eval) (mx.map a.eval)).run P w = .ok (L, H, M) w := by
  unfold Instr.sliceBounds
  have e1 := optInt_some hr h1
  have e2 := optInt_some hr h2
  have e3 := optInt_some hr h3
  rcases e3 with ⟨rfl, rfl⟩ | ⟨m', km, ym, rfl, rfl, hym⟩
  · simp only [Option.getD_none, Int.toNat_natCast] at hM
    subst hM
    rcases e2 with ⟨rfl, rfl⟩ | ⟨h', kh, yh, rfl, rfl, hyh⟩
    · simp only [Option.getD_none, Int.toNat_natCast] at hH
      subst hH
      rcases e1 with ⟨rfl, rfl⟩ | ⟨l', kl, yl, rfl, rfl, hyl⟩
      · simp only [Option.getD_none, Int.toNat_zero] at hL
        subst hL
        simp
      · have := g1 _ rfl
        simp only [Option.getD_some] at hL
        simp [hyl, run_sliceBound this (bnd := H) (by omega), hL]
    · have hh := g2 _ rfl
      simp only [Option.getD_some] at hH
      rcases e1 with ⟨rfl, rfl⟩ | ⟨l', kl, yl, rfl, rfl, hyl⟩
      · simp only [Option.getD_none, Int.toNat_zero] at hL
        subst hL
        simp [hyh, run_sliceBound hh (bnd := M) (by omega), hH]
      · have := g1 _ rfl
        simp only [Option.getD_some] at hL
        subst hH
        simp [hyh, run_sliceBound hh (bnd := M) (by omega), hyl, run_sliceBound this (bnd := h'.toNat) (by omega), hL]
  · have hm0 := g3 _ rfl
    simp only [Option.getD_some] at hM
    subst hM
    rcases e2 with ⟨rfl, rfl⟩ | ⟨h', kh, yh, rfl, rfl, hyh⟩
    · exact absurd rfl (hm.resolve_left (by simp))
    · have hh := g2 _ rfl
      simp only [Option.getD_some] at hH
      subst hH
      rcases e1 with ⟨rfl, rfl⟩ | ⟨l', kl, yl, rfl, rfl, hyl⟩
      · simp only [Option.getD_none, Int.toNat_zero] at hL
        subst hL
        simp [hym, run_sliceBound hm0 (bnd := cap) (by omega), hyh, run_sliceBound hh (bnd := m'.toNat) (by omega)]
      · have := g1 _ rfl
        simp only [Option.getD_some] at hL
        simp [hym, run_sliceBound hm0 (bnd := cap) (by omega), hyh, run_sliceBound hh (bnd := m'.toNat) (by omega), hyl, run_sliceBound this (bnd := h'.toNat) (by omega), hL]

theorem sound_cut {t : TypeId} {x : Operand} {lo hi mx : Option Operand} {l h m : Option Int} {ti : TI} (ho : o.op = .slice t x lo hi mx) (hT : TIok E.P t ti) (hr : Rel E s a w g) (hd : ∀ d, o.dst = some d → d < E.nt)
    (h1 : optInt E.glob s lo = some l) (h2 : optInt E.glob s hi = some h) (h3 : optInt E.glob s mx = some m) (hg : ti.slc = true) {full : Bool} {rows : List (List D)}
    (hx : RepD w g.imm (.slc full ti.esz rows) (a.eval x)) (hk : cutRows full rows l h m fun f r => putK s o.dst (.d (.slc f ti.esz r)) K) : OpOk E o a w K := by
  obtain ⟨hu, hz, ie, hi1, hi2, _⟩ := hT.slc hg
  have hsz : (sizeOf ti.elem).run E.P w = .ok ti.esz w := by unfold sizeOf typeInfo; simp [hi1, hi2]
  have hxx := hx
  generalize hue : a.eval x = ue at hxx
  cases hxx with
  | slc _ esz _ A c vals hc hn hf hrow hA hcell hrep =>
    rw [hue] at hx
    have key : ∀ (L H M : Nat) (f : Bool) (rows' : List (List D)), (m = none ∨ h ≠ none) → M = (m.getD c).toNat → H = (h.getD rows.length).toNat → L = (l.getD 0).toNat →
        (∀ x, l = some x → 0 ≤ x) → (∀ x, h = some x → 0 ≤ x) → (∀ x, m = some x → 0 ≤ x) → L ≤ H → H ≤ M → M ≤ c → H ≤ rows.length → (f = true → M = H) → rows' = (rows.take H).drop L →
        putK s o.dst (.d (.slc f ti.esz rows')) K → OpOk E o a w K := by
      intro L H M f rows' q1 q2 q3 q4 q5 q6 q7 q8 q9 q10 q11 q12 q13 hk
      subst q13
      refine op_put hr hd ?_ (by simp only [RepV]; exact repD_cut hx hz L H M q8 q11 q9 q10 f q12) hk
      have hbd := run_bounds (P := E.P) hr h1 h2 h3 true rows.length c q1 L H M q2 q3 q4 q5 q6 q7 q8 q9 q10
      unfold execOp
      rw [ho]
      simp only [Instr.sliceAt, hue, Sem.run_bind, run_underlying hu, Result.andThen_ok, Instr.slice, hbd, hsz, Sem.run_pure]
    unfold cutRows at hk
    split at hk
    · refine key 0 rows.length c full rows (.inl rfl) (by simp) (by simp) (by simp) (by simp) (by simp) (by simp) (by omega) (by omega) (by omega) (by omega) (fun hft => hf hft) (by simp) hk
    · rename_i lv
      obtain ⟨a1, a2, hk⟩ := hk
      refine key lv.toNat rows.length c full _ (.inl rfl) (by simp) (by simp) (by simp) (by simpa using a1) (by simp) (by simp) (by omega) (by omega) (by omega) (by omega) (fun hft => hf hft) (by simp) hk
    · rename_i hv
      obtain ⟨a1, a2, hk⟩ := hk
      refine key 0 hv.toNat c false _ (.inl rfl) (by simp) (by simp) (by simp) (by simp) (by simpa using a1) (by simp) (by omega) (by omega) (by omega) (by omega) (by simp) (by simp) hk
    · rename_i lv hv
      obtain ⟨a1, a2, a3, hk⟩ := hk
      refine key lv.toNat hv.toNat c false _ (.inl rfl) (by simp) (by simp) (by simp) (by simpa using a1) (by simp; omega) (by simp) (by omega) (by omega) (by omega) (by omega) (by simp) rfl hk
    · rename_i hv mv
      obtain ⟨a1, a2, a3, hk⟩ := hk
      refine key 0 hv.toNat mv.toNat _ _ (.inr (by simp)) (by simp) (by simp) (by simp) (by simp) (by simpa using a1) (by simp; omega) (by omega) (by omega) (by omega) (by omega) (fun hft => by simp at hft; omega) (by simp) hk
    · rename_i lv hv mv
      obtain ⟨a1, a2, a3, a4, hk⟩ := hk
      refine key lv.toNat hv.toNat mv.toNat _ _ (.inr (by simp)) (by simp) (by simp) (by simp) (by simpa using a1) (by simp; omega) (by simp; omega) (by omega) (by omega) (by omega) (by omega) (fun hft => by simp at hft; omega) rfl hk
    · exact hk.elim

theorem sound_slice {t : TypeId} {x : Operand} {lo hi mx : Option Operand} {ti : TI} (ho : o.op = .slice t x lo hi mx) (hT : TIok E.P t ti) (hr : Rel E s a w g) (hd : ∀ d, o.dst = some d → d < E.nt)
    (hk : match optInt E.glob s lo, optInt E.glob s hi, optInt E.glob s mx with
      | some lo, some hi, some mx => match ti.slc, ti.str, ev E.glob s x with
        | true, _, .d (.slc full e rows) => match Nat.beq e ti.esz with
          | true => cutRows full rows lo hi mx fun f r => putK s o.dst (.d (.slc f e r)) K
          | false => False
        | true, _, .osl _ e rows => match Nat.beq e ti.esz with
          | true => cutRows false rows lo hi mx fun f r => putK s o.dst (.d (.slc f e r)) K
          | false => False
        | _, true, .d (.str b) => match lo, hi, mx with
          | none, none, none => putK s o.dst (.d (.str b)) K
          | some l, none, none => 0 ≤ l ∧ l ≤ b.size ∧ putK s o.dst (.d (.str (b.extract l.toNat b.size))) K
          | none, some h, none => 0 ≤ h ∧ h ≤ b.size ∧ putK s o.dst (.d (.str (b.extract 0 h.toNat))) K
          | some l, some h, none => 0 ≤ l ∧ l ≤ h ∧ h ≤ b.size ∧ putK s o.dst (.d (.str (b.extract l.toNat h.toNat))) K
          | _, _, _ => False
        | _, _, _ => False
      | _, _, _ => False) : OpOk E o a w K := by
  have hx := rel_ev hr x
  split at hk
  · rename_i l h m h1 h2 h3
    split at hk
    · rename_i full e rows hg he
      rw [he] at hx
      simp only [RepV] at hx
      split at hk
      · rename_i hee
        obtain rfl := Nat.eq_of_beq_eq_true hee
        exact sound_cut ho hT hr hd h1 h2 h3 hg hx hk
      · exact hk.elim
    · rename_i tok e rows hg he
      rw [he] at hx
      simp only [RepV] at hx
      split at hk
      · rename_i hee
        obtain rfl := Nat.eq_of_beq_eq_true hee
        exact sound_cut ho hT hr hd h1 h2 h3 hg hx.2.1 hk
      · exact hk.elim
    · rename_i b hs he
      rw [he] at hx
      have hx := repV_str hx
      have hu := hT.str hs
      have key : ∀ (L H : Nat), m = none → H = (h.getD b.size).toNat → L = (l.getD 0).toNat → (∀ x, l = some x → 0 ≤ x) → (∀ x, h = some x → 0 ≤ x) → L ≤ H → H ≤ b.size →
          putK s o.dst (.d (.str (b.extract L H))) K → OpOk E o a w K := by
        intro L H q1 q2 q3 q4 q5 q6 q7 hk'
        subst q1
        have hmx : mx = none := by
          rcases optInt_some hr h3 with ⟨_, h'⟩ | ⟨_, _, _, h', _⟩
          · exact h'
          · simp at h'
        subst hmx
        have hbd := run_bounds (P := E.P) hr h1 h2 h3 false b.size b.size (.inl rfl) L H b.size (by simp) q2 q3 q4 q5 (by simp) q6 q7 (Nat.le_refl _)
        refine op_put hr hd (u := .string (b.extract L H)) ?_ (repV_mkstr _ _) hk'
        unfold execOp
        rw [ho]
        simp only [Option.map_none] at hbd
        simp [Instr.sliceAt, hx, run_underlying hu, Instr.slice, hbd]
      split at hk
      · refine key 0 b.size rfl (by simp) (by simp) (by simp) (by simp) (by omega) (by omega) ?_
        rw [show b.extract 0 b.size = b by simp]; exact hk
      · rename_i lv
        exact key lv.toNat b.size rfl (by simp) (by simp) (by simpa using hk.1) (by simp) (by omega) (by omega) hk.2.2
      · rename_i hv
        exact key 0 hv.toNat rfl (by simp) (by simp) (by simp) (by simpa using hk.1) (by omega) (by omega) hk.2.2
      · rename_i lv hv
        exact key lv.toNat hv.toNat rfl (by simp) (by simp) (by simpa using hk.1) (by simp; omega) (by omega) (by omega) hk.2.2.2
      · exact hk.elim
    · exact hk.elim
  · exact hk.elim

end Go.Proofs.Ytnnmkenloijkcaa.Eng
