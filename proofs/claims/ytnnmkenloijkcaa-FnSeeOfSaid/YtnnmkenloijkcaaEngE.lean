/- The engine, part E: reading. -/
import Derived.Test.YtnnmkenloijkcaaEngD
set_option linter.unusedVariables false
set_option linter.unusedSimpArgs false
namespace Go.Proofs.Ytnnmkenloijkcaa.Eng
open Go

section lists
variable {w : World} {g : Gh} {hp : Nat → Obj}
theorem RepVs.len : ∀ {cs : List V} {us : List Value}, RepVs w g hp cs us → us.length = cs.length
  | [], us, h => by simp only [RepVs] at h; subst h; rfl
  | c :: cs, us, h => by
    simp only [RepVs] at h
    obtain ⟨u, us', rfl, _, h⟩ := h
    simp [RepVs.len h]
theorem RepVs.get : ∀ {cs : List V} {us : List Value}, RepVs w g hp cs us → ∀ {i : Nat} {c : V}, cs[i]? = some c → ∃ u, us[i]? = some u ∧ RepV w g hp c u
  | [], us, h, i, c, hi => by simp at hi
  | c' :: cs, us, h, i, c, hi => by
    simp only [RepVs] at h
    obtain ⟨u, us', rfl, h1, h⟩ := h
    cases i with
    | zero => simp only [List.getElem?_cons_zero, Option.some.injEq] at hi; subst hi; exact ⟨u, rfl, h1⟩
    | succ i => simpa using RepVs.get h (i := i) (c := c) (by simpa using hi)
theorem RepVs.of_get : ∀ {cs : List V} {us : List Value}, us.length = cs.length → (∀ (i : Nat) c u, cs[i]? = some c → us[i]? = some u → RepV w g hp c u) → RepVs w g hp cs us
  | [], us, hl, h => by simp only [List.length_nil, List.length_eq_zero_iff] at hl; simp [RepVs, hl]
  | c :: cs, [], hl, h => by simp at hl
  | c :: cs, u :: us, hl, h => by
    simp only [RepVs]
    exact ⟨u, us, rfl, h 0 c u rfl rfl, RepVs.of_get (by simpa using hl) (fun i c' u' h1 h2 => h (i + 1) c' u' (by simpa using h1) (by simpa using h2))⟩
theorem RepVs.drop {cs : List V} {us : List Value} (h : RepVs w g hp cs us) (n : Nat) : RepVs w g hp (cs.drop n) (us.drop n) :=
  RepVs.of_get (by simp [h.len]) fun i c u h1 h2 => by
    rw [List.getElem?_drop] at h1 h2
    obtain ⟨u', h3, h4⟩ := h.get h1
    rw [h3] at h2; injection h2 with h2; subst h2; exact h4
theorem RepVs.take {cs : List V} {us : List Value} (h : RepVs w g hp cs us) (n : Nat) : RepVs w g hp (cs.take n) (us.take n) :=
  RepVs.of_get (by simp [h.len]) fun i c u h1 h2 => by
    rw [List.getElem?_take] at h1 h2
    split at h1
    · rename_i hi
      rw [if_pos hi] at h2
      obtain ⟨u', h3, h4⟩ := h.get h1
      rw [h3] at h2; injection h2 with h2; subst h2; exact h4
    · simp at h1
theorem RepVs.set {cs : List V} {us : List Value} (h : RepVs w g hp cs us) (n : Nat) {c : V} {u : Value} (hc : RepV w g hp c u) : RepVs w g hp (cs.set n c) (us.set n u) :=
  RepVs.of_get (by simp [h.len]) fun i c' u' h1 h2 => by
    rw [List.getElem?_set] at h1 h2
    have hl := h.len
    split at h1
    · rename_i hi
      subst hi
      split at h1
      · rename_i hn
        rw [if_pos rfl, if_pos (by omega)] at h2
        injection h1 with h1; injection h2 with h2; subst h1; subst h2; exact hc
      · simp at h1
    · rename_i hi
      rw [if_neg hi] at h2
      obtain ⟨u'', h3, h4⟩ := h.get h1
      rw [h3] at h2; injection h2 with h2; subst h2; exact h4
theorem RepVs.ofD {imm : Imm} (himm : imm = g.imm) {xs : List D} {us : List Value} (hl : us.length = xs.length) (h : ∀ (i : Nat) x u, xs[i]? = some x → us[i]? = some u → RepD w imm x u) : RepVs w g hp (xs.map .d) us :=
  RepVs.of_get (by simp [hl]) fun i c u h1 h2 => by
    rw [List.getElem?_map] at h1
    cases hx : xs[i]? with
    | none => simp [hx] at h1
    | some x =>
      simp only [hx, Option.map_some, Option.some.injEq] at h1
      subst h1
      simp only [RepV]
      exact himm ▸ h i x u hx h2
/-- A value's cells. -/
theorem RepV.cells {v : V} {u : Value} (h : RepV w g hp v u) (h1 : v ≠ .undef) (h2 : ∀ vs, v ≠ .tup vs) : RepVs w g hp v.cells u.cells.toList := by
  cases v with
  | undef => exact absurd rfl h1
  | tup vs => exact absurd rfl (h2 vs)
  | agg cs => simp only [RepV] at h; obtain ⟨us, rfl, h⟩ := h; exact h
  | d x =>
    have : u.cells = #[u] := by
      simp only [RepV] at h
      cases h <;> rfl
    rw [this]; simp only [V.cells, RepVs]; exact ⟨u, [], rfl, h, rfl⟩
  | ref id r e f =>
    have : u.cells = #[u] := by simp only [RepV] at h; obtain ⟨_, _, b, _, rfl⟩ := h; rfl
    rw [this]; simp only [V.cells, RepVs]; exact ⟨u, [], rfl, h, rfl⟩
  | own id =>
    have : u.cells = #[u] := by simp only [RepV] at h; obtain ⟨_, _, _, A, n, c, rfl⟩ := h; rfl
    rw [this]; simp only [V.cells, RepVs]; exact ⟨u, [], rfl, h, rfl⟩
  | osl t e rows =>
    have : u.cells = #[u] := by
      simp only [RepV] at h
      obtain ⟨_, h, _⟩ := h
      cases h <;> rfl
    rw [this]; simp only [V.cells, RepVs]; exact ⟨u, [], rfl, h, rfl⟩
  | clo f cs =>
    have : u.cells = #[u] := by simp only [RepV] at h; obtain ⟨us, rfl, _⟩ := h; rfl
    rw [this]; simp only [V.cells, RepVs]; exact ⟨u, [], rfl, h, rfl⟩
theorem RepV.one {v : V} {u : Value} (h : RepV w g hp v u) (hl : v.leaf = true) : u.oneCell' = true := by
  cases v with
  | undef => simp [V.leaf] at hl
  | tup vs => simp [V.leaf] at hl
  | agg cs => simp [V.leaf] at hl
  | d x => simp only [RepV] at h; cases h <;> rfl
  | ref id r e f => simp only [RepV] at h; obtain ⟨_, _, b, _, rfl⟩ := h; rfl
  | own id => simp only [RepV] at h; obtain ⟨_, _, _, A, n, c, rfl⟩ := h; rfl
  | osl t e rows => simp only [RepV] at h; obtain ⟨_, h, _⟩ := h; cases h <;> rfl
  | clo f cs => simp only [RepV] at h; obtain ⟨us, rfl, _⟩ := h; rfl
end lists

theorem run_isAgg {P : Program} {t : Nat} {ti : TI} (hT : TIok P t ti) (w : World) : (isAgg t).run P w = .ok ti.agg w := by
  obtain ⟨d, hd, hg⟩ := hT.und
  unfold isAgg
  simp only [Sem.run_bind, run_underlying hd, Result.andThen_ok]
  cases d <;> simp_all

theorem run_sizeOfT {P : Program} {t : Nat} {ti : TI} (hT : TIok P t ti) (w : World) : (sizeOf t).run P w = .ok ti.size w := by
  obtain ⟨i, hi, hs, _⟩ := hT.info
  unfold sizeOf typeInfo
  simp [hi, hs]

/-- A variable's cells, read. -/
theorem run_loadVarT {P : Program} {t : Nat} {ti : TI} (hT : TIok P t ti) (w : World) (b o : Nat) (us : List Value) (hl : us.length = ti.size)
    (hc : ∀ (j : Nat) v, us[j]? = some v → w.cell? ⟨b, o + j, none⟩ = some v) :
    (loadVar t ⟨b, o, none⟩).run P w = .ok (if ti.agg then .agg us.toArray else us.headD Go.undef) w := by
  unfold loadVar
  simp only [Sem.run_bind, run_isAgg hT, Result.andThen_ok]
  have hadd : ∀ j, Addr.add ⟨b, o, none⟩ j = ⟨b, o + j, none⟩ := fun j => by
    unfold Addr.add
    split
    · rename_i hj; subst hj; rfl
    · rfl
  cases hg : ti.agg with
  | true =>
    simp only [if_true, Sem.run_bind, run_sizeOfT hT, Result.andThen_ok, ← hl]
    rw [run_loadCells_list w ⟨b, o, none⟩ us (fun j v hj => by rw [hadd]; exact hc j v hj)]
    rfl
  | false =>
    have h1 := hT.one hg
    cases us with
    | nil => simp at hl; exact absurd hl.symm h1
    | cons u us =>
      have := hc 0 u rfl
      simp only [Nat.add_zero] at this
      simp [run_load, this]

theorem repV_mkV {w : World} {g : Gh} {hp : Nat → Obj} {cs : List V} {us : List Value} (h : RepVs w g hp cs us) (agg : Bool) :
    RepV w g hp (mkV agg cs) (if agg then .agg us.toArray else us.headD Go.undef) := by
  cases agg with
  | true => simp only [mkV, if_true, RepV]; exact ⟨_, rfl, h⟩
  | false =>
    cases cs with
    | nil => simp [mkV, RepV]
    | cons c cs =>
      simp only [RepVs] at h
      obtain ⟨u, us', rfl, h1, _⟩ := h
      simpa [mkV] using h1

theorem cell_of {w : World} {b : Nat} {us : Array Value} {e : Nat} (hb : w.heap[b]? = some (.cells us e (0, 0))) (j : Nat) : w.cell? ⟨b, j, none⟩ = us[j]? := by
  unfold World.cell?; simp [hb]

variable {E : Env} {s : St} {a : Act} {w : World} {g : Gh} {T : Tab} {C : Ctr} {q : Bool} {o : Oper} {K : St → Prop}

theorem sound_load {t : TypeId} {x : Operand} {ti : TI} (ho : o.op = .load t x) (hT : TIok E.P t ti) (h : Rel E s a w g) (hd : ∀ d, o.dst = some d → d < E.nt)
    (hk : match ev E.glob s x with
      | .ref id row esz off => match s.hp id with
        | .box cells => match Nat.ble (off + ti.size) cells.length, row with
          | true, 0 => putK s o.dst (mkV ti.agg ((cells.drop off).take ti.size)) K
          | _, _ => False
        | .arr _ e rows => match Nat.beq e esz with
          | true => ∃ r, rows[row]? = some r ∧ match Nat.ble (off + ti.size) r.length with
            | true => putK s o.dst (mkV ti.agg (((r.drop off).take ti.size).map .d)) K
            | false => False
          | false => False
        | _ => False
      | .d (.ptr cells) => match Nat.ble ti.size cells.length with
        | true => putK s o.dst (mkV ti.agg ((cells.take ti.size).map .d)) K
        | false => False
      | _ => False) : OpOk E o a w K := by
  have hx := rel_ev h x
  have hex : execOp a.eval o = (do pure (.value (← Instr.loadAt t (a.eval x)))) := by unfold execOp; rw [ho]
  have key : ∀ (b off : Nat) (cs : List V) (us : List Value), a.eval x = .pointer (some ⟨b, off, none⟩) → us.length = ti.size → (∀ (j : Nat) v, us[j]? = some v → w.cell? ⟨b, off + j, none⟩ = some v) →
      RepVs w g s.hp cs us → putK s o.dst (mkV ti.agg cs) K → OpOk E o a w K := by
    intro b off cs us he hl hc hr hk
    refine op_put h hd ?_ (repV_mkV hr ti.agg) hk
    rw [hex, he]
    simp only [Instr.loadAt, Instr.sureAddr, Sem.run_bind, Sem.run_pure, Result.andThen_ok, run_loadVarT hT w b off us hl hc]
  split at hk
  · rename_i id row esz off he
    rw [he] at hx
    simp only [RepV] at hx
    obtain ⟨hu, hng, b, hb, hv⟩ := hx
    have hob := h.objs id
    split at hk
    · rename_i cells hid
      rw [hid] at hob
      obtain ⟨b', us, e, hb', hcell, hr, _⟩ := hob
      rw [hb] at hb'; injection hb' with hb'; subst hb'
      split at hk
      · rename_i hle
        have hle := Nat.le_of_ble_eq_true hle
        have hlen := hr.len
        refine key b off _ ((us.toList.drop off).take ti.size) (by rw [hv]; simp) (by simp at hlen ⊢; omega) (fun j v hj => ?_) ((hr.drop off).take _) hk
        rw [cell_of hcell]
        rw [List.getElem?_take] at hj
        split at hj
        · rw [List.getElem?_drop] at hj; simpa using hj
        · simp at hj
      · exact hk.elim
    · rename_i full e rows hid
      rw [hid] at hob
      split at hk
      · rename_i hee
        obtain rfl := Nat.eq_of_beq_eq_true hee
        obtain ⟨r, hr, hk⟩ := hk
        obtain ⟨A, c, h1, h2, h3, h4, h5, h6, h7⟩ := hob
        obtain ⟨h8, h9, us, ee, hcell, h10⟩ := h7 b hb
        split at hk
        · rename_i hle
          have hle := Nat.le_of_ble_eq_true hle
          have hall : ∀ (j : Nat) x, r[j]? = some x → ∃ u, us[row * e + j]? = some u ∧ RepD w g.imm x u := h10 row r hr
          have hus : ∀ j, off + j < r.length → row * e + (off + j) < us.size := fun j hj => by
            obtain ⟨u, hu, _⟩ := hall (off + j) _ (List.getElem?_eq_getElem hj)
            rcases Nat.lt_or_ge (row * e + (off + j)) us.size with h' | h'
            · exact h'
            · simp [Array.getElem?_eq_none h'] at hu
          refine key b (row * e + off) _ ((us.toList.drop (row * e + off)).take ti.size) hv ?_ (fun j v hj => ?_) (RepVs.ofD rfl ?_ ?_) hk
          · simp only [List.length_take, List.length_drop, Array.length_toList]
            rcases Nat.eq_zero_or_pos ti.size with hz | hz
            · omega
            · have := hus (ti.size - 1) (by omega); omega
          · rw [cell_of hcell]
            rw [List.getElem?_take] at hj
            split at hj
            · rw [List.getElem?_drop] at hj; simpa using hj
            · simp at hj
          · simp only [List.length_take, List.length_drop, Array.length_toList]
            rcases Nat.eq_zero_or_pos ti.size with hz | hz
            · omega
            · have := hus (ti.size - 1) (by omega); omega
          · intro i x u h1 h2
            rw [List.getElem?_take] at h1 h2
            split at h1
            · rename_i hi
              rw [if_pos hi] at h2
              rw [List.getElem?_drop] at h1 h2
              obtain ⟨u', h3, h4⟩ := hall _ _ h1
              rw [show row * e + off + i = row * e + (off + i) by omega] at h2
              simp only [Array.getElem?_toList] at h2
              rw [h3] at h2; injection h2 with h2; subst h2; exact h4
            · simp at h1
        · exact hk.elim
      · exact hk.elim
    · exact hk.elim
  · rename_i cells he
    rw [he] at hx
    simp only [RepV] at hx
    split at hk
    · rename_i hle
      have hle := Nat.le_of_ble_eq_true hle
      generalize hue : a.eval x = ue at hx
      cases hx with
      | ptr _ b off vals hcell hrep =>
        refine key b off _ ((List.range ti.size).map vals) hue (by simp) (fun j v hj => ?_) (RepVs.ofD rfl (by simp; omega) ?_) hk
        · simp only [List.getElem?_map] at hj
          rcases Nat.lt_or_ge j ti.size with hj' | hj'
          · simp [hj'] at hj
            obtain ⟨_, h2⟩ := hcell j _ (List.getElem?_eq_getElem (by omega))
            rw [h2, hj]
          · simp [List.getElem?_eq_none, hj'] at hj
        · intro i x u h1 h2
          rw [List.getElem?_take] at h1
          split at h1
          · rename_i hi
            simp [hi] at h2
            subst h2
            exact hrep i x h1
          · simp at h1
    · exact hk.elim
  · exact hk.elim
end Go.Proofs.Ytnnmkenloijkcaa.Eng
