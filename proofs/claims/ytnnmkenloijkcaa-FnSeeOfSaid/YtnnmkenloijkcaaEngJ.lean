/- The engine, part J: stores. -/
import Derived.Test.YtnnmkenloijkcaaEngI
set_option linter.unusedVariables false
set_option linter.unusedSimpArgs false
namespace Go.Proofs.Ytnnmkenloijkcaa.Eng
open Go

variable {E : Env} {s : St} {a : Act} {w : World} {g : Gh} {T : Tab} {C : Ctr} {q : Bool} {o : Oper} {K : St → Prop}

theorem setVals_eq : ∀ (vs us : List Value) (off : Nat), off + vs.length ≤ us.length → setVals us off vs = us.take off ++ vs ++ us.drop (off + vs.length)
  | [], us, off, _ => by simp [setVals]
  | v :: vs, us, off, h => by
    simp only [setVals]
    rw [setVals_eq vs _ (off + 1) (by simp at h ⊢; omega)]
    simpa using list_seg_step us off v vs (by simpa using h)

theorem leaves_one {hp : Nat → Obj} : ∀ {cs : List V} {us : List Value}, leavesB cs = true → RepVs w g hp cs us → ∀ u ∈ us, u.oneCell' = true
  | [], us, _, h, u, hu => by simp only [RepVs] at h; subst h; simp at hu
  | c :: cs, us, hl, h, u, hu => by
    simp only [RepVs] at h
    obtain ⟨u', us', rfl, h1, h2⟩ := h
    unfold leavesB at hl
    split at hl
    · rename_i hlf
      rcases List.mem_cons.1 hu with rfl | hu
      · exact h1.one hlf
      · exact leaves_one hl h2 u hu
    · simp at hl

theorem run_storeVarT {P : Program} {t : Nat} {ti : TI} (hT : TIok P t ti) {b off : Nat} {cur : Array Value} {e : TypeId} {v : Value} (hb : w.heap[b]? = some (.cells cur e (0, 0))) (hs : v.cells.size = ti.size)
    (hfit : off + ti.size ≤ cur.size) (h1 : ∀ u ∈ v.cells.toList, u.oneCell' = true) :
    (storeVar t ⟨b, off, none⟩ v).run P w = .ok () (w.setRow b (cur.toList.take off ++ v.cells.toList ++ cur.toList.drop (off + ti.size)).toArray) := by
  unfold storeVar
  simp only [Sem.run_bind, run_sizeOfT hT, Result.andThen_ok, hs, ne_eq, not_true_eq_false, if_false]
  have := run_storeCells_at P b off e v.cells.toList 0 cur w hb (by simp; omega) h1
  simpa [hs] using this

theorem leafs_cells {hp : Nat → Obj} : ∀ {cs : List V} {us : List Value} {l : List D}, leafs (leaf0 (fun _ => .none)) cs = some l → RepVs w g hp cs us →
    l.length = us.length ∧ (∀ (i : Nat) x u, l[i]? = some x → us[i]? = some u → RepD w g.imm x u) ∧ ∀ u ∈ us, u.oneCell' = true
  | [], us, l, hl, h => by
    simp only [leafs, Option.some.injEq] at hl
    simp only [RepVs] at h
    subst hl; subst h
    simp
  | c :: cs, us, l, hl, h => by
    simp only [RepVs] at h
    obtain ⟨u, us', rfl, h1, h2⟩ := h
    unfold leafs at hl
    split at hl
    · rename_i x xs hx hxs
      injection hl with hl
      subst hl
      obtain ⟨i1, i2, i3⟩ := leafs_cells hxs h2
      have hr : RepD w g.imm x u ∧ u.oneCell' = true := by
        unfold leaf0 at hx
        split at hx
        · injection hx with hx; subst hx
          exact ⟨by simpa only [RepV] using h1, h1.one rfl⟩
        · injection hx with hx; subst hx
          refine ⟨?_, h1.one rfl⟩
          simp only [RepV] at h1
          exact h1.2.1
        · simp at hx
        · simp at hx
      refine ⟨by simp [i1], fun i y u' hy hu' => ?_, fun u' hu' => ?_⟩
      · cases i with
        | zero => simp at hy hu'; subst hy; subst hu'; exact hr.1
        | succ i => exact i2 i y u' (by simpa using hy) (by simpa using hu')
      · rcases List.mem_cons.1 hu' with rfl | hu'
        · exact hr.2
        · exact i3 u' hu'
    · simp at hl

theorem sound_store {t : TypeId} {p x : Operand} {ti : TI} (ho : o.op = .store t p x) (hT : TIok E.P t ti) (h : Rel E s a w g) (hd : ∀ d, o.dst = some d → d < E.nt)
    (hk : match ev E.glob s p with
      | .ref id row esz off => match s.hp id, Nat.beq (ev E.glob s x).cells.length ti.size with
        | .box cells, true => match Nat.ble (off + ti.size) cells.length, row, leavesB (ev E.glob s x).cells with
          | true, 0, true => forceL (setCells cells off (ev E.glob s x).cells) fun cs => putK ⟨s.sl, upd s.hp id (.box cs)⟩ o.dst .undef K
          | _, _, _ => False
        | .arr full e rows, true => match Nat.beq e esz, leafs (leaf0 (fun _ => .none)) (ev E.glob s x).cells with
          | true, some l => ∃ r, rows[row]? = some r ∧ match Nat.ble (off + ti.size) r.length with
            | true => putK ⟨s.sl, upd s.hp id (.arr full e (rows.set row (r.take off ++ l ++ r.drop (off + ti.size))))⟩ o.dst .undef K
            | false => False
          | _, _ => False
        | _, _ => False
      | _ => False) : OpOk E o a w K := by
  have hp := rel_ev h p
  have hx := rel_ev h x
  have hex : execOp a.eval o = (do Instr.storeAt t (a.eval p) (a.eval x); pure .skip) := by unfold execOp; rw [ho]
  split at hk
  · rename_i id row esz off he
    rw [he] at hp
    simp only [RepV] at hp
    obtain ⟨hu, hng, b, hb, hv⟩ := hp
    have hob := h.objs id
    split at hk
    · rename_i cells hid hlen
      rw [hid] at hob
      have hlen := Nat.eq_of_beq_eq_true hlen
      split at hk
      · rename_i hle hlv
        have hle := Nat.le_of_ble_eq_true hle
        rw [forceL_eq, putK_eq] at hk
        obtain ⟨b', us, e, hb', hcell, hr, hni⟩ := hob
        rw [hb] at hb'; injection hb' with hb'; subst hb'
        have hne1 : ev E.glob s x ≠ .undef := fun e => by rw [e] at hlv; simp [V.cells, leavesB, V.leaf] at hlv
        have hne2 : ∀ vs, ev E.glob s x ≠ .tup vs := fun vs e => by rw [e] at hlv; simp [V.cells, leavesB, V.leaf] at hlv
        have hxc := hx.cells hne1 hne2
        have hsz : (a.eval x).cells.size = ti.size := by have := hxc.len; simp at this; omega
        have hul := hr.len
        have hfit : off + ti.size ≤ us.size := by simp at hul; omega
        have hrun := run_storeVarT hT hcell hsz hfit (leaves_one hlv hxc)
        refine op_skip (w' := w.setRow b (us.toList.take off ++ (a.eval x).cells.toList ++ us.toList.drop (off + ti.size)).toArray) (g' := g) ?_ hk ?_
        · rw [hex, hv]
          simp only [Nat.zero_mul, Nat.zero_add, Instr.storeAt, Instr.sureAddr, Sem.run_bind, Sem.run_pure, Result.andThen_ok, hrun]
        · have hrw := rel_write (w' := w.setRow b (us.toList.take off ++ (a.eval x).cells.toList ++ us.toList.drop (off + ti.size)).toArray) (ob := .box (setCells cells off (ev E.glob s x).cells)) h (by rw [hid]; rfl) rfl (by simp) hb (by simp) (fun b' hb' => setRow_other w b b' _ hb') hni
            (fun e' => ⟨b, _, e, hb, setRow_heap w b us _ e _ hcell, by
              have h1 := repVs_setCells off hr hxc
              rw [setVals_eq _ _ _ (by simp; omega)] at h1
              simp only [Array.length_toList, hsz] at h1
              exact RepVs.ext e' _ _ h1, hni⟩)
          exact rel_put hrw (by simp [RepV]) hd
      · exact hk.elim
    · rename_i full e rows hid hlen
      rw [hid] at hob
      have hlen := Nat.eq_of_beq_eq_true hlen
      split at hk
      · rename_i l hee hl
        obtain rfl := Nat.eq_of_beq_eq_true hee
        obtain ⟨r, hrr, hk⟩ := hk
        split at hk
        · rename_i hle
          have hle := Nat.le_of_ble_eq_true hle
          rw [putK_eq] at hk
          obtain ⟨A, c, h1, h2, h3, h4, h5, h6, h7⟩ := hob
          obtain ⟨h8, h9, us, ee, hcell, h10⟩ := h7 b hb
          have hne1 : ev E.glob s x ≠ .undef := fun e => by rw [e] at hl; simp [V.cells, leafs, leaf0] at hl
          have hne2 : ∀ vs, ev E.glob s x ≠ .tup vs := fun vs e => by rw [e] at hl; simp [V.cells, leafs, leaf0] at hl
          have hxc := hx.cells hne1 hne2
          obtain ⟨l1, l2, l3⟩ := leafs_cells hl hxc
          have hsz : (a.eval x).cells.size = ti.size := by have := hxc.len; simp at this; omega
          have hlsz : l.length = ti.size := by simp at l1; omega
          have hrl := h5 row r hrr
          have hrow := (List.getElem?_eq_some_iff.1 hrr).1
          have hfit : row * e + off + ti.size ≤ us.size := by
            rcases Nat.eq_zero_or_pos (off + ti.size) with hz | hz
            · rcases Nat.eq_zero_or_pos e with he0 | he0
              · subst he0; omega
              · obtain ⟨u, hu', _⟩ := h10 row r hrr 0 _ (List.getElem?_eq_getElem (by omega))
                have := (Array.getElem?_eq_some_iff.1 hu').1
                omega
            · obtain ⟨u, hu', _⟩ := h10 row r hrr (off + ti.size - 1) _ (List.getElem?_eq_getElem (by omega))
              have := (Array.getElem?_eq_some_iff.1 hu').1
              omega
          have hrun := run_storeVarT (off := row * e + off) hT hcell hsz hfit l3
          refine op_skip (w' := w.setRow b (us.toList.take (row * e + off) ++ (a.eval x).cells.toList ++ us.toList.drop (row * e + off + ti.size)).toArray) (g' := g) ?_ hk ?_
          · rw [hex, hv]
            simp only [Instr.storeAt, Instr.sureAddr, Sem.run_bind, Sem.run_pure, Result.andThen_ok, hrun]
          · have hrw := rel_write (w' := w.setRow b (us.toList.take (row * e + off) ++ (a.eval x).cells.toList ++ us.toList.drop (row * e + off + ti.size)).toArray) (ob := .arr full e (rows.set row (r.take off ++ l ++ r.drop (off + ti.size)))) h (by rw [hid]; rfl) rfl (by simp) hb (by simp) (fun b' hb' => setRow_other w b b' _ hb') h9
              (fun e' => ⟨A, c, by simpa using h1, by simpa using h2, by simpa using h3, by simpa using h4, fun i r' hi => by
                rw [List.getElem?_set] at hi
                by_cases hri : row = i
                · rw [if_pos hri] at hi
                  rw [if_pos (by omega)] at hi
                  injection hi with hi
                  subst hi
                  simp; omega
                · rw [if_neg hri] at hi
                  exact h5 i r' hi, fun hn => by rw [hb] at hn; simp at hn, fun b' hb' => by
                rw [hb] at hb'; injection hb' with hb'; subst hb'
                refine ⟨h8, h9, _, ee, setRow_heap w b us _ ee _ hcell, fun i r' hi j y hj => ?_⟩
                simp only [List.getElem?_toArray]
                rw [List.getElem?_set] at hi
                have hltk : (us.toList.take (row * e + off)).length = row * e + off := by simp; omega
                by_cases hin : i = row
                · rw [if_pos hin.symm, if_pos (by omega)] at hi
                  injection hi with hi
                  subst hi
                  subst hin
                  have hltr : (r.take off).length = off := by simp; omega
                  have hjl : j < e := by
                    have := (List.getElem?_eq_some_iff.1 hj).1
                    simp at this; omega
                  rcases Nat.lt_or_ge j off with hj1 | hj1
                  · rw [List.append_assoc, List.getElem?_append_left (by omega), List.getElem?_take, if_pos hj1] at hj
                    obtain ⟨u, hu1, hu2⟩ := h10 i r hrr j y hj
                    refine ⟨u, ?_, hu2.ext e'.ext⟩
                    rw [List.append_assoc, List.getElem?_append_left (by omega), List.getElem?_take, if_pos (by omega)]
                    simpa using hu1
                  · rcases Nat.lt_or_ge j (off + ti.size) with hj2 | hj2
                    · rw [List.append_assoc, List.getElem?_append_right (by omega), List.getElem?_append_left (by omega), hltr] at hj
                      have hjv : j - off < (a.eval x).cells.toList.length := by simp; omega
                      refine ⟨_, ?_, (l2 _ _ _ hj (List.getElem?_eq_getElem hjv)).ext e'.ext⟩
                      rw [List.append_assoc, List.getElem?_append_right (by omega), List.getElem?_append_left (by rw [hltk]; simp; omega), hltk, show i * e + j - (i * e + off) = j - off by omega, List.getElem?_eq_getElem hjv]
                    · rw [List.append_assoc, List.getElem?_append_right (by omega), List.getElem?_append_right (by omega), hltr, List.getElem?_drop] at hj
                      obtain ⟨u, hu1, hu2⟩ := h10 i r hrr _ y hj
                      refine ⟨u, ?_, hu2.ext e'.ext⟩
                      rw [List.append_assoc, List.getElem?_append_right (by omega), List.getElem?_append_right (by rw [hltk]; simp; omega), hltk, List.getElem?_drop]
                      simp only [Array.length_toList, Array.getElem?_toList]
                      rw [← hu1]; congr 1; omega
                · rw [if_neg (fun e => hin e.symm)] at hi
                  obtain ⟨u, hu1, hu2⟩ := h10 i r' hi j y hj
                  refine ⟨u, ?_, hu2.ext e'.ext⟩
                  have hjl : j < e := by
                    have := (List.getElem?_eq_some_iff.1 hj).1
                    have := h5 i r' hi; omega
                  rcases Nat.lt_or_ge i row with hlt | hge
                  · have hm : i * e + e ≤ row * e := by rw [← Nat.succ_mul]; exact Nat.mul_le_mul_right _ hlt
                    rw [List.append_assoc, List.getElem?_append_left (by omega), List.getElem?_take, if_pos (by omega)]
                    simpa using hu1
                  · have hm : row * e + e ≤ i * e := by rw [← Nat.succ_mul]; exact Nat.mul_le_mul_right _ (by omega)
                    rw [List.append_assoc, List.getElem?_append_right (by omega), List.getElem?_append_right (by rw [hltk]; simp; omega), hltk, List.getElem?_drop]
                    simp only [Array.length_toList, Array.getElem?_toList]
                    rw [← hu1]; congr 1; omega⟩)
            exact rel_put hrw (by simp [RepV]) hd
        · exact hk.elim
      · exact hk.elim
    · exact hk.elim
  · exact hk.elim

end Go.Proofs.Ytnnmkenloijkcaa.Eng
