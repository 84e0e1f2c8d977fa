/- The engine, part F: more operations that change no object. -/
import Derived.Test.YtnnmkenloijkcaaEngE
set_option linter.unusedVariables false
set_option linter.unusedSimpArgs false
namespace Go.Proofs.Ytnnmkenloijkcaa.Eng
open Go

variable {E : Env} {s : St} {a : Act} {w : World} {g : Gh} {T : Tab} {C : Ctr} {q : Bool} {o : Oper} {K : St → Prop}

theorem sound_nilCheck {x : Operand} (ho : o.op = .nilCheck x) (h : Rel E s a w g) (hd : ∀ d, o.dst = some d → d < E.nt)
    (hk : match ev E.glob s x with
      | .ref id r e f => putK s o.dst (.ref id r e f) K
      | .d (.ptr cs) => putK s o.dst (.d (.ptr cs)) K
      | .d (.fn f cs) => putK s o.dst (.d (.fn f cs)) K
      | .clo f cs => putK s o.dst (.clo f cs) K
      | _ => False) : OpOk E o a w K := by
  have hx := rel_ev h x
  have key : ∀ v, RepV w g s.hp v (a.eval x) → ((∃ b, a.eval x = .pointer (some b)) ∨ ∃ f c, a.eval x = .func (.func f) #[] c) → putK s o.dst v K → OpOk E o a w K := by
    intro v hv hs hk
    refine op_put h hd (u := a.eval x) ?_ hv hk
    unfold execOp
    rw [ho]
    rcases hs with ⟨b, hs⟩ | ⟨f, c, hs⟩ <;> simp only [hs] <;> rfl
  split at hk
  · rename_i he
    rw [he] at hx
    refine key _ hx ?_ hk
    simp only [RepV] at hx
    obtain ⟨_, _, b, _, hv⟩ := hx
    exact .inl ⟨_, hv⟩
  · rename_i he
    rw [he] at hx
    refine key _ hx ?_ hk
    simp only [RepV] at hx
    generalize a.eval x = u at hx
    cases hx; exact .inl ⟨_, rfl⟩
  · rename_i he
    rw [he] at hx
    refine key _ hx ?_ hk
    simp only [RepV] at hx
    generalize a.eval x = u at hx
    cases hx; exact .inr ⟨_, _, rfl⟩
  · rename_i he
    rw [he] at hx
    refine key _ hx ?_ hk
    simp only [RepV] at hx
    obtain ⟨us, hv, _⟩ := hx
    exact .inr ⟨_, _, hv⟩
  · exact hk.elim

theorem sound_unOp {op : UnOp} {t : TypeId} {x : Operand} (ho : o.op = .unOp op t x) (h : Rel E s a w g) (hd : ∀ d, o.dst = some d → d < E.nt)
    (hk : match (generalizing := false) op, ev E.glob s x with
      | .not, .d (.bool b) => putK s o.dst (.d (.bool (!b))) K
      | .neg, .d (.int k n) => putK s o.dst (.d (.int k (k.wrap (0 - n)))) K
      | .xor, .d (.int k n) => putK s o.dst (.d (.int k (k.wrap ((BitVec.ofInt k.bits (if k.signed then -1 else k.max) ^^^ BitVec.ofInt k.bits n).toNat)))) K
      | _, _ => False) : OpOk E o a w K := by
  have hx := rel_ev h x
  have hex : execOp a.eval o = (do pure (.value (← Op.unary op (a.eval x)))) := by unfold execOp; rw [ho]
  split at hk
  · rename_i b he
    rw [he] at hx
    refine op_put h hd (u := .bool (!b)) ?_ (repV_mkbool _ _) hk
    rw [hex, repV_bool hx]; simp [Op.unary]
  · rename_i k n he
    rw [he] at hx
    refine op_put h hd (u := .int k (k.wrap (0 - n))) ?_ (repV_mkint _ _ _) hk
    rw [hex, repV_int hx]; simp [Op.unary, Op.intArith]
  · rename_i k n he
    rw [he] at hx
    refine op_put h hd (u := .int k (k.wrap ((BitVec.ofInt k.bits (if k.signed then -1 else k.max) ^^^ BitVec.ofInt k.bits n).toNat))) ?_ (repV_mkint _ _ _) hk
    rw [hex, repV_int hx]; simp [Op.unary, Op.intBits]
  · exact hk.elim

theorem sound_convert {src dst : TypeId} {x : Operand} {ti si : TI} (ho : o.op = .convert src dst x) (hT : TIok E.P dst ti) (hS : TIok E.P src si) (h : Rel E s a w g) (hd : ∀ d, o.dst = some d → d < E.nt)
    (hk : match ev E.glob s x, ti.kind, si.kind with
      | .d (.int _ n), some k, some _ => putK s o.dst (.d (.int k (k.wrap n))) K
      | _, _, _ => False) : OpOk E o a w K := by
  have hx := rel_ev h x
  have hex : execOp a.eval o = (do pure (.value (← convert src dst (a.eval x)))) := by unfold execOp; rw [ho]
  split at hk
  · rename_i k0 n k k' he h1 h2
    rw [he] at hx
    refine op_put h hd (u := .int k (k.wrap n)) ?_ (repV_mkint _ _ _) hk
    rw [hex, repV_int hx]
    simp [convert, run_underlying (hT.kind _ h1), run_underlying (hS.kind _ h2), Conv.intToInt]
  · exact hk.elim

theorem evs_rep (h : Rel E s a w g) : ∀ (xs : List Operand), RepVs w g s.hp (xs.map (ev E.glob s)) (xs.map a.eval)
  | [] => by simp [RepVs]
  | x :: xs => by simp only [List.map_cons, RepVs]; exact ⟨_, _, rfl, rel_ev h x, evs_rep h xs⟩

theorem sound_makeFunc {f : FuncId} {first captured : Array Operand} (ho : o.op = .makeFunc (.func f) first captured) (h : Rel E s a w g) (hd : ∀ d, o.dst = some d → d < E.nt)
    (hk : match first.toList with
      | [] => putK s o.dst (.clo f (captured.toList.map (ev E.glob s))) K
      | _ => False) : OpOk E o a w K := by
  have hex : execOp a.eval o = (do pure (.value (← Instr.makeFunc (.func f) (first.map a.eval) (captured.map a.eval)))) := by unfold execOp; rw [ho]
  split at hk
  · rename_i hf
    have hf : first = #[] := by simpa using hf
    refine op_put h hd (u := .func (.func f) #[] (captured.map a.eval)) ?_ ?_ hk
    · rw [hex, hf]; simp [Instr.makeFunc]
    · simp only [RepV]
      exact ⟨_, rfl, by simpa using evs_rep h captured.toList⟩
  · exact hk.elim

theorem sound_extract {x : Operand} {i : Nat} (ho : o.op = .extract x i) (h : Rel E s a w g) (hd : ∀ d, o.dst = some d → d < E.nt)
    (hk : match ev E.glob s x with
      | .tup vs => match vs[i]? with | some v => putK s o.dst v K | none => False
      | _ => False) : OpOk E o a w K := by
  have hx := rel_ev h x
  have hex : execOp a.eval o = (do pure (.value (← Instr.extract (a.eval x) i))) := by unfold execOp; rw [ho]
  split at hk
  · rename_i vs he
    rw [he] at hx
    simp only [RepV] at hx
    obtain ⟨us, hv, hr⟩ := hx
    split at hk
    · rename_i v hi
      obtain ⟨u, hu, hrep⟩ := hr.get hi
      refine op_put h hd (u := u) ?_ hrep hk
      rw [hex, hv]
      simp only [Array.getElem?_toList] at hu
      simp [Instr.extract, hu]
    · exact hk.elim
  · exact hk.elim

theorem addr_add (b o n : Nat) : Addr.add ⟨b, o, none⟩ n = ⟨b, o + n, none⟩ := by
  unfold Addr.add
  split
  · rename_i hj; subst hj; rfl
  · rfl

theorem run_fieldAtT {P : Program} {t f fo n : Nat} {ti : TI} (hT : TIok P t ti) (hg : ti.agg = true) (hf : ti.flds[f]? = some (fo, n)) (b o : Nat) (w : World) :
    (Instr.fieldAt t (.pointer (some ⟨b, o, none⟩)) f).run P w = .ok (.pointer (some ⟨b, o + fo, none⟩)) w := by
  obtain ⟨fs, hu, hall⟩ := hT.flds hg
  obtain ⟨fl, h1, h2, h3, ⟨i, h4, h5⟩, _⟩ := hall f fo n hf
  unfold Instr.fieldAt fieldPlace
  have hs : (sizeOf fl.type).run P w = .ok n w := by unfold sizeOf typeInfo; simp [h4, h5]
  simp only [Sem.run_bind, run_underlying hu, Result.andThen_ok, h1, Instr.sureAddr, Sem.run_pure, hs, h3, if_false, h2, addr_add]

theorem sound_fieldAddr {t : TypeId} {x : Operand} {f : Nat} {ti : TI} (ho : o.op = .fieldAddr t x f) (hT : TIok E.P t ti) (h : Rel E s a w g) (hd : ∀ d, o.dst = some d → d < E.nt)
    (hk : match ti.agg, ev E.glob s x, ti.flds[f]? with
      | true, .ref id row esz off, some (fo, _) => putK s o.dst (.ref id row esz (off + fo)) K
      | true, .d (.ptr cells), some (fo, _) => putK s o.dst (.d (.ptr (cells.drop fo))) K
      | _, _, _ => False) : OpOk E o a w K := by
  have hx := rel_ev h x
  have hex : execOp a.eval o = (do pure (.value (← Instr.fieldAt t (a.eval x) f))) := by unfold execOp; rw [ho]
  split at hk
  · rename_i id row esz off fo n hg he hf
    rw [he] at hx
    simp only [RepV] at hx
    obtain ⟨hu, hng, b, hb, hv⟩ := hx
    refine op_put h hd (u := .pointer (some ⟨b, row * esz + off + fo, none⟩)) ?_ ?_ hk
    · rw [hex, hv]; simp [run_fieldAtT hT hg hf]
    · simp only [RepV]; exact ⟨hu, hng, b, hb, by rw [Nat.add_assoc]⟩
  · rename_i cells fo n hg he hf
    rw [he] at hx
    simp only [RepV] at hx
    generalize hue : a.eval x = ue at hx
    cases hx with
    | ptr _ b off vals hcell hrep =>
      refine op_put h hd (u := .pointer (some ⟨b, off + fo, none⟩)) ?_ ?_ hk
      · rw [hex, hue]; simp [run_fieldAtT hT hg hf]
      · simp only [RepV]
        refine .ptr _ b (off + fo) (fun j => vals (fo + j)) (fun j x hj => ?_) (fun j x hj => ?_)
        · rw [List.getElem?_drop] at hj
          have := hcell _ _ hj
          rwa [← Nat.add_assoc] at this
        · rw [List.getElem?_drop] at hj
          exact hrep _ _ hj
  · exact hk.elim

theorem repD_row {full : Bool} {e : Nat} {rows : List (List D)} {u : Value} (h : RepD w g.imm (.slc full e rows) u) :
    ∃ A c, u = .slice A rows.length c ∧ rows.length ≤ c ∧ ∀ (i : Nat) r, rows[i]? = some r → ∃ b off, A = some ⟨b, off, none⟩ ∧ r.length = e ∧ RepD w g.imm (.ptr r) (.pointer (some ⟨b, off + i * e, none⟩)) := by
  cases h with
  | slc full esz rows A c vals hc hn hf hrow hA hcell hrep =>
    refine ⟨A, c, rfl, hc, fun i r hi => ?_⟩
    obtain ⟨b, off, hA⟩ := hA (by intro h0; simp [h0] at hi)
    exact ⟨b, off, hA, hrow i r hi, .ptr r b (off + i * e) (fun j => vals i j) (fun j x hj => hcell b off hA i r hi j x hj) (fun j x hj => hrep i r hi j x hj)⟩

theorem run_indexAtT {P : Program} {t : Nat} {ti : TI} (hT : TIok P t ti) (hg : ti.slc = true) (b o n c : Nat) (k : IntKind) (i : Int) (h0 : 0 ≤ i) (h1 : i < n) (w : World) :
    (Instr.indexAt t (.slice (some ⟨b, o, none⟩) n c) (.int k i)).run P w = .ok (.pointer (some ⟨b, o + i.toNat * ti.esz, none⟩)) w := by
  obtain ⟨hu, hz, ie, h2, h3, _⟩ := hT.slc hg
  have hs : (sizeOf ti.elem).run P w = .ok ti.esz w := by unfold sizeOf typeInfo; simp [h2, h3]
  unfold Instr.indexAt
  simp only [Sem.run_bind, asIntOf, Sem.run_pure, Result.andThen_ok, run_underlying hu, h0, h1, and_self, if_true, hs, addr_add]

theorem sound_indexAddr {t : TypeId} {x i : Operand} {ti : TI} (ho : o.op = .indexAddr t x i) (hT : TIok E.P t ti) (h : Rel E s a w g) (hd : ∀ d, o.dst = some d → d < E.nt)
    (hk : match ti.slc with
      | true => match ev E.glob s x, ev E.glob s i with
        | .own id, .d (.int _ n) => match s.hp id with
          | .arr _ e rows => match Nat.beq e ti.esz with
            | true => 0 ≤ n ∧ n.toNat < rows.length ∧ putK s o.dst (.ref id n.toNat e 0) K
            | false => False
          | _ => False
        | .d (.slc _ e rows), .d (.int _ n) => match Nat.beq e ti.esz with
          | true => 0 ≤ n ∧ ∃ r, rows[n.toNat]? = some r ∧ putK s o.dst (.d (.ptr r)) K
          | false => False
        | .osl _ e rows, .d (.int _ n) => match Nat.beq e ti.esz with
          | true => 0 ≤ n ∧ ∃ r, rows[n.toNat]? = some r ∧ putK s o.dst (.d (.ptr r)) K
          | false => False
        | _, _ => False
      | false => False) : OpOk E o a w K := by
  have hx := rel_ev h x
  have hi := rel_ev h i
  have hex : execOp a.eval o = (do pure (.value (← Instr.indexAt t (a.eval x) (a.eval i)))) := by unfold execOp; rw [ho]
  have rd : ∀ (full : Bool) (e : Nat) (rows : List (List D)) (k : IntKind) (n : Int), RepD w g.imm (.slc full e rows) (a.eval x) → a.eval i = .int k n → ti.slc = true → Nat.beq e ti.esz = true →
      (0 ≤ n ∧ ∃ r, rows[n.toNat]? = some r ∧ putK s o.dst (.d (.ptr r)) K) → OpOk E o a w K := by
    intro full e rows k n hr hie hg hee ⟨h0, r, hrr, hk⟩
    obtain rfl := Nat.eq_of_beq_eq_true hee
    obtain ⟨A, c, hv, hc, hall⟩ := repD_row hr
    obtain ⟨b, off, hA, _, hp⟩ := hall _ r hrr
    have hlt := (List.getElem?_eq_some_iff.1 hrr).1
    refine op_put h hd (u := .pointer (some ⟨b, off + n.toNat * ti.esz, none⟩)) ?_ (by simpa only [RepV] using hp) hk
    rw [hex, hv, hA, hie]
    simp [run_indexAtT hT hg b off rows.length c k n h0 (by omega)]
  split at hk
  · rename_i hg
    split at hk
    · rename_i id k n he hie
      rw [he] at hx; rw [hie] at hi
      have hi := repV_int hi
      simp only [RepV] at hx
      obtain ⟨hu, hv, hng, _⟩ := hx
      have hob := h.objs id
      split at hk
      · rename_i full e rows hid
        rw [hid] at hob
        split at hk
        · rename_i hee
          obtain rfl := Nat.eq_of_beq_eq_true hee
          obtain ⟨h0, h1, hk⟩ := hk
          obtain ⟨A, c, h2, h3, h4, h5, h6, h7, h8⟩ := hob
          cases hblk : g.blk id with
          | none => have := h7 hblk; subst this; simp at h1
          | some b =>
            obtain ⟨h9, _⟩ := h8 b hblk
            refine op_put h hd (u := .pointer (some ⟨b, 0 + n.toNat * ti.esz, none⟩)) ?_ ?_ hk
            · rw [hex, hv, h2, h9, hi]
              simp [run_indexAtT hT hg b 0 rows.length c k n h0 (by omega)]
            · simp only [RepV]; exact ⟨hu, hng, b, hblk, by simp⟩
        · exact hk.elim
      · exact hk.elim
    · rename_i full e rows k n he hie
      rw [he] at hx; rw [hie] at hi
      have hi := repV_int hi
      simp only [RepV] at hx
      split at hk
      · exact rd full e rows k n hx hi hg (by assumption) hk
      · exact hk.elim
    · rename_i tok e rows k n he hie
      rw [he] at hx; rw [hie] at hi
      have hi := repV_int hi
      simp only [RepV] at hx
      split at hk
      · exact rd false e rows k n hx.2.1 hi hg (by assumption) hk
      · exact hk.elim
    · exact hk.elim
  · exact hk.elim

end Go.Proofs.Ytnnmkenloijkcaa.Eng
