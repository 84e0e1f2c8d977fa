/- The engine, part D: operations that change no object. -/
import Derived.Test.YtnnmkenloijkcaaEngC
import Derived.Laws.StructEq
import Derived.Laws.Strings
set_option linter.unusedVariables false
set_option linter.unusedSimpArgs false
namespace Go.Proofs.Ytnnmkenloijkcaa.Eng
open Go

variable {E : Env} {s : St} {a : Act} {w : World} {g : Gh} {T : Tab} {C : Ctr} {q : Bool} {o : Oper} {K : St → Prop}

theorem rel_cv (w : World) (g : Gh) (hp : Nat → Obj) (v : Value) : RepV w g hp (cv v) v := by
  unfold cv
  split <;> simp only [RepV]
  · exact .bool _
  · exact .int _ _
  · exact .str _
  · exact .slc true 0 [] none 0 (fun _ _ => default) (by simp) (by simp) (by simp) (by simp) (by simp) (by simp) (by simp)
  · exact .nilp
  · exact .nilfn

theorem rel_ev (h : Rel E s a w g) (x : Operand) : RepV w g s.hp (ev E.glob s x) (a.eval x) := by
  cases x with
  | tmp t => exact h.slots t
  | const v => exact rel_cv _ _ _ _
  | global k => exact RepP.to rfl s.hp _ _ (h.globs k)
  | func f =>
    simp only [ev, Act.eval, RepV]
    exact .fn f [] [] rfl (by simp)

theorem rel_put (h : Rel E s a w g) {dst : Option Tmp} {v : V} {u : Value} (hv : RepV w g s.hp v u) (hd : ∀ d, dst = some d → d < E.nt) :
    Rel E (s.app dst v) (a.put dst u) w g := by
  cases dst with
  | none => exact h
  | some d =>
    have hd := hd d rfl
    refine { h with slots := fun t => ?_, nt := by simp [Act.put, h.nt], defers := h.defers }
    simp only [St.app, Act.put, upd_eq]
    by_cases ht : t = d
    · subst ht
      have : t < a.tmps.size := by rw [h.nt]; exact hd
      simp [Array.getD, this, hv]
    · simp only [ht, if_false]
      have := h.slots t
      simpa [Array.getD_eq_getD_getElem?, Array.getElem?_setIfInBounds_ne (fun e => ht e.symm)] using this

/-- What a sound operation gives. -/
def OpOk (E : Env) (o : Oper) (a : Act) (w : World) (K : St → Prop) : Prop :=
  ∀ (next : Act → World → Prop) (Q : Exit → Act → World → Prop), (∀ s' a' w' g', K s' → Rel E s' a' w' g' → next a' w') → o.wp E.P a w next Q

theorem op_value {u : Value} {w' : World} {g' : Gh} {s' : St} (hr : (execOp a.eval o).run E.P w = .ok (.value u) w') (hK : K s') (h : Rel E s' (a.put o.dst u) w' g') : OpOk E o a w K := by
  intro next Q hn
  unfold Oper.wp
  rw [hr]
  exact hn _ _ _ _ hK h
theorem op_skip {w' : World} {g' : Gh} {s' : St} (hr : (execOp a.eval o).run E.P w = .ok .skip w') (hK : K s') (h : Rel E s' (a.put o.dst Go.undef) w' g') : OpOk E o a w K := by
  intro next Q hn
  unfold Oper.wp
  rw [hr]
  exact hn _ _ _ _ hK h

/-- A slot alone is written. -/
theorem op_put (h : Rel E s a w g) (hd : ∀ d, o.dst = some d → d < E.nt) {v : V} {u : Value} (hr : (execOp a.eval o).run E.P w = .ok (.value u) w)
    (hv : RepV w g s.hp v u) (hK : putK s o.dst v K) : OpOk E o a w K := by
  rw [putK_eq] at hK
  exact op_value hr hK (rel_put h hv hd)

theorem repV_bool {hp : Nat → Obj} {b : Bool} {u : Value} (h : RepV w g hp (.d (.bool b)) u) : u = .bool b := by
  simp only [RepV] at h; cases h; rfl
theorem repV_int {hp : Nat → Obj} {k : IntKind} {n : Int} {u : Value} (h : RepV w g hp (.d (.int k n)) u) : u = .int k n := by
  simp only [RepV] at h; cases h; rfl
theorem repV_str {hp : Nat → Obj} {b : ByteArray} {u : Value} (h : RepV w g hp (.d (.str b)) u) : u = .string b := by
  simp only [RepV] at h; cases h; rfl
theorem repV_mkbool (hp : Nat → Obj) (b : Bool) : RepV w g hp (.d (.bool b)) (.bool b) := by simp only [RepV]; exact .bool _
theorem repV_mkint (hp : Nat → Obj) (k : IntKind) (n : Int) : RepV w g hp (.d (.int k n)) (.int k n) := by simp only [RepV]; exact .int _ _
theorem repV_mkstr (hp : Nat → Obj) (b : ByteArray) : RepV w g hp (.d (.str b)) (.string b) := by simp only [RepV]; exact .str _

theorem rowsOf_len {hp : Nat → Obj} {v : V} {u : Value} {e : Nat} {rows : List (List D)} (ho : ∀ id, ObjRep w g hp id (hp id)) (h : RepV w g hp v u) (hr : rowsOf hp v = some (e, rows)) :
    ∃ A c, u = .slice A rows.length c ∧ rows.length ≤ c ∧ rows.length ≤ 281474976710656 := by
  unfold rowsOf at hr
  split at hr
  · injection hr with hr; injection hr with h1 h2; subst h1; subst h2
    simp only [RepV] at h
    cases h with
    | slc full esz rows A c vals hc hn hf hrow hA hcell hrep => exact ⟨A, c, rfl, hc, by omega⟩
  · injection hr with hr; injection hr with h1 h2; subst h1; subst h2
    simp only [RepV] at h
    obtain ⟨_, h, _⟩ := h
    cases h with
    | slc full esz rows A c vals hc hn hf hrow hA hcell hrep => exact ⟨A, c, rfl, hc, by omega⟩
  · rename_i id
    split at hr
    · rename_i full e' rows' hid
      injection hr with hr; injection hr with h1 h2; subst h1; subst h2
      simp only [RepV] at h
      have := ho id
      rw [hid] at this
      obtain ⟨A, c, h1, h2, h3, _⟩ := this
      exact ⟨A, c, by rw [h.2.1, h1], h2, by omega⟩
    · simp at hr
  · simp at hr

theorem sound_move {x : Operand} (ho : o.op = .move x ∨ o.op = .assign x) (h : Rel E s a w g) (hd : ∀ d, o.dst = some d → d < E.nt)
    (hk : putK s o.dst (ev E.glob s x) K) : OpOk E o a w K := by
  refine op_put h hd ?_ (rel_ev h x) hk
  unfold execOp
  rcases ho with ho | ho <;> rw [ho] <;> rfl

theorem sound_pick {c x y : Operand} (ho : o.op = .pick c x y) (h : Rel E s a w g) (hd : ∀ d, o.dst = some d → d < E.nt)
    (hk : match ev E.glob s c with | .d (.bool b) => aIf b (putK s o.dst (ev E.glob s x) K) (putK s o.dst (ev E.glob s y) K) | _ => False) : OpOk E o a w K := by
  have hc := rel_ev h c
  split at hk
  · rename_i b hb
    rw [hb] at hc
    have hc := repV_bool hc
    refine op_put h hd (v := if b then ev E.glob s x else ev E.glob s y) (u := if b then a.eval x else a.eval y) ?_ ?_ ?_
    · unfold execOp; rw [ho]; simp [hc, asBool]
    · cases b <;> simp [rel_ev h]
    · cases b <;> simpa [aIf] using hk
  · exact hk.elim

theorem ibeq (x y : Int) : (x == y) = decide (x = y) := rfl

theorem intOp_sound {op : BinOp} {k : IntKind} {x y : Int} {K' : V → Prop} (hk : intOp op k x y K') :
    ∃ v u, K' v ∧ (∀ (w : World) (g : Gh) (hp : Nat → Obj), RepV w g hp v u) ∧ ∀ (P : Program) (t : TypeId) (w : World), (binOp op t (.int k x) (.int k y)).run P w = .ok u w := by
  unfold intOp at hk
  split at hk <;> first | exact hk.elim | skip
  · exact ⟨_, _, hk, fun _ _ _ => repV_mkint _ _ _, fun P t w => by simp [binOp, Op.intArith]⟩
  · exact ⟨_, _, hk, fun _ _ _ => repV_mkint _ _ _, fun P t w => by simp [binOp, Op.intArith]⟩
  · exact ⟨_, _, hk, fun _ _ _ => repV_mkint _ _ _, fun P t w => by simp [binOp, Op.intArith]⟩
  · exact ⟨_, _, hk.2, fun _ _ _ => repV_mkint _ _ _, fun P t w => by simp [binOp, Op.intDiv, hk.1]⟩
  · exact ⟨_, _, hk.2, fun _ _ _ => repV_mkint _ _ _, fun P t w => by simp [binOp, Op.intDiv, hk.1]⟩
  · exact ⟨_, _, hk, fun _ _ _ => repV_mkint _ _ _, fun P t w => by simp [binOp, Op.intBits]⟩
  · exact ⟨_, _, hk, fun _ _ _ => repV_mkint _ _ _, fun P t w => by simp [binOp, Op.intBits]⟩
  · exact ⟨_, _, hk, fun _ _ _ => repV_mkint _ _ _, fun P t w => by simp [binOp, Op.intBits]⟩
  · exact ⟨_, _, aP_iff.1 hk, fun _ _ _ => repV_mkbool _ _, fun P t w => by simp [binOp, Op.intCmp, bne, ibeq]⟩
  · exact ⟨_, _, aP_iff.1 hk, fun _ _ _ => repV_mkbool _ _, fun P t w => by simp [binOp, Op.intCmp, bne, ibeq]⟩
  · exact ⟨_, _, aP_iff.1 hk, fun _ _ _ => repV_mkbool _ _, fun P t w => by simp [binOp, Op.intCmp, bne, ibeq]⟩
  · exact ⟨_, _, aP_iff.1 hk, fun _ _ _ => repV_mkbool _ _, fun P t w => by simp [binOp, Op.intCmp, bne, ibeq]⟩
  · exact ⟨_, _, aP_iff.1 hk, fun _ _ _ => repV_mkbool _ _, fun P t w => by simp [binOp, Op.intCmp, bne, ibeq]⟩
  · exact ⟨_, _, aP_iff.1 hk, fun _ _ _ => repV_mkbool _ _, fun P t w => by simp [binOp, Op.intCmp, bne, ibeq]⟩

/-- Structs of plain cells: '==' is cell by cell. -/
def CmpOk (P : Program) (t : TypeId) (z : List D) : Prop :=
  ∀ (w : World) (g : Gh) (hp : Nat → Obj) (xs ys : List V) (us vs : Array Value) (b : Bool), RepVs w g hp xs us.toList → RepVs w g hp ys vs.toList → eqVs z xs ys = some b →
    ∀ (x y : Operand), (eqGuard .eql t x y (.agg us) (.agg vs)).run P w = .ok () w ∧ (eqGuard .neq t x y (.agg us) (.agg vs)).run P w = .ok () w ∧
      (binOp .eql t (.agg us) (.agg vs)).run P w = .ok (.bool b) w ∧ (binOp .neq t (.agg us) (.agg vs)).run P w = .ok (.bool (!b)) w

theorem eqGuard_plain (P : Program) (op : BinOp) (t : TypeId) (x y : Operand) (u v : Value) (w : World) (h : (∀ us, u ≠ .agg us) ∧ u ≠ .nilIface) : (eqGuard op t x y u v).run P w = .ok () w := by
  unfold eqGuard
  obtain ⟨h1, h2⟩ := h
  cases op <;> cases u <;> simp_all

theorem sound_binOp {op : BinOp} {t t' : TypeId} {x y : Operand} {ti : TI} (ho : o.op = .binOp op t x y t') (hT : TIok E.P t ti) (hc : ti.cmp = true → CmpOk E.P t ti.zero) (h : Rel E s a w g)
    (hd : ∀ d, o.dst = some d → d < E.nt) (hk : binV ti.cmp ti.bool ti.zero op (ev E.glob s x) (ev E.glob s y) fun v => putK s o.dst v K) : OpOk E o a w K := by
  have hx := rel_ev h x
  have hy := rel_ev h y
  have hex : execOp a.eval o = (do pure (.value (← (do eqGuard op t x y (a.eval x) (a.eval y); binOp op t (a.eval x) (a.eval y))))) := by
    unfold execOp; rw [ho]
  unfold binV at hk
  split at hk
  · rename_i k n k' m hxe hye
    rw [hxe] at hx; rw [hye] at hy
    have hx := repV_int hx
    have hy := repV_int hy
    rw [hx, hy] at hex
    have hgd := eqGuard_plain E.P op t x y (.int k n) (.int k' m) w ⟨by simp, by simp⟩
    split at hk
    · refine op_put h hd (u := .int k (k.wrap (n * 2 ^ (min m.toNat k.bits)))) ?_ (repV_mkint _ _ _) hk.2
      rw [hex]; simp [hgd, binOp, Op.shift, Int.not_lt.2 hk.1]
    · refine op_put h hd (u := .int k (n.fdiv (2 ^ (min m.toNat k.bits)))) ?_ (repV_mkint _ _ _) hk.2
      rw [hex]; simp [hgd, binOp, Op.shift, Int.not_lt.2 hk.1]
    · split at hk
      · rename_i hkk
        have hkk : k = k' := by simpa using hkk
        subst hkk
        obtain ⟨v, u, h1, h2, h3⟩ := intOp_sound hk
        refine op_put h hd (u := u) ?_ (h2 _ _ _) h1
        rw [hex]; simp [hgd, h3]
      · exact hk.elim
  · rename_i n m hxe hye
    rw [hxe] at hx; rw [hye] at hy
    have hx := repV_bool hx
    have hy := repV_bool hy
    rw [hx, hy] at hex
    have hgd := eqGuard_plain E.P op t x y (.bool n) (.bool m) w ⟨by simp, by simp⟩
    split at hk
    · have hu := hT.bool (by assumption)
      refine op_put h hd (u := .bool (n == m)) ?_ (repV_mkbool _ _) hk
      rw [hex]
      have := run_equalIn_bool' (P := E.P) w 9999 t n m hu
      simp [hgd, binOp, Op.equal, Op.maxDepth, this]
    · have hu := hT.bool (by assumption)
      refine op_put h hd (u := .bool (!(n == m))) ?_ (repV_mkbool _ _) hk
      rw [hex]
      have := run_equalIn_bool' (P := E.P) w 9999 t n m hu
      simp [hgd, binOp, Op.equal, Op.maxDepth, this]
    · exact hk.elim
  · rename_i n m hxe hye
    rw [hxe] at hx; rw [hye] at hy
    have hx := repV_str hx
    have hy := repV_str hy
    rw [hx, hy] at hex
    have hgd := eqGuard_plain E.P op t x y (.string n) (.string m) w ⟨by simp, by simp⟩
    split at hk
    · refine op_put h hd (u := .string (n ++ m)) ?_ (repV_mkstr _ _) hk.2
      have h1 := hk.1
      have : ¬ (((n.size + m.size : Nat) : Int) > IntKind.i64.max) := by
        have : IntKind.i64.max = 9223372036854775807 := by decide
        rw [this]; omega
      rw [hex]; simp only [Sem.run_bind, hgd, Result.andThen_ok, binOp, Op.stringOp, if_neg this, Sem.run_pure]
    · refine op_put h hd (u := .bool (n == m)) ?_ (repV_mkbool _ _) (aB_iff.1 hk)
      rw [hex]; simp [hgd, binOp, Op.stringOp, beq_toListBytes]
    · refine op_put h hd (u := .bool (!(n == m))) ?_ (repV_mkbool _ _) (aB_iff.1 hk)
      rw [hex]; simp [hgd, binOp, Op.stringOp, beq_toListBytes]
    · exact hk.elim
  · rename_i xs ys hxe hye
    rw [hxe] at hx; rw [hye] at hy
    simp only [RepV] at hx hy
    obtain ⟨us, hue, hus⟩ := hx
    obtain ⟨vs, hve, hvs⟩ := hy
    rw [hue, hve] at hex
    split at hk
    · rename_i b _ hb
      obtain ⟨h1, h2, h3, h4⟩ := hc (by assumption) w g s.hp xs ys us vs b hus hvs hb x y
      refine op_put h hd (u := .bool b) ?_ (repV_mkbool _ _) (aB_iff.1 hk)
      rw [hex]; simp [h1, h3]
    · rename_i b _ hb
      obtain ⟨h1, h2, h3, h4⟩ := hc (by assumption) w g s.hp xs ys us vs b hus hvs hb x y
      refine op_put h hd (u := .bool (!b)) ?_ (repV_mkbool _ _) (aB_iff.1 hk)
      rw [hex]; simp [h2, h4]
    · exact hk.elim
  · exact hk.elim

end Go.Proofs.Ytnnmkenloijkcaa.Eng
