/- A game's moves as plain functions. The letters a, b, c say which of a game's slices are full. -/
import Derived.Test.YtnnmkenloijkcaaSpecA
set_option linter.unusedVariables false
namespace Go.Proofs.Ytnnmkenloijkcaa
open Go Eng

structure GV where
  (a b c : Bool)
  g : Game
def GV.v (x : GV) : V := vGame x.a x.b x.c x.g
def Ent0 : Ent := ⟨0, 0, 0, 0, 0⟩
def entAt (l : List Ent) (k : Int) : Ent := (l[k.toNat]?).getD Ent0
def intAt (l : List Int) (k : Int) : Int := (l[k.toNat]?).getD 0
def atF (l : List Ent) (c : Int) : Int := match l.findIdx? (fun e => decide (e.client = c)) with | some i => (i : Nat) | none => -1
def under (l : List Ent) (c : Int) : Nat := (l.takeWhile (fun e => decide (e.client < c))).length
def joinF (l : List Ent) (c : Int) : List Ent := l.take (under l c) ++ [⟨c, c - 1, c - 1, 3, 0⟩] ++ l.drop (under l c)
def nearF (a b : Ent) : Bool := inB (a.x - b.x) (-1) 1 && inB (a.y - b.y) (-1) 1
def at4 (e : Ent) : Int := e.y * 4 + e.x
def addAt (l : List Int) (k : Int) (n : Int) : List Int := l.set k.toNat (intAt l k + n)
def dropV (x : GV) (k : Int) : GV :=
  let e := entAt x.g.ents k
  ⟨false, false, x.c, ⟨x.g.ents.take k.toNat ++ x.g.ents.drop (k.toNat + 1), addAt x.g.floor (at4 e) e.gold, x.g.last⟩⟩
def setEnt (l : List Ent) (k : Int) (e : Ent) : List Ent := l.set k.toNat e
def hurt (l : List Ent) (n : Int) : List Ent := setEnt l n { entAt l n with life := (entAt l n).life - 1 }
def hitV (x : GV) (k n : Int) : GV × Int :=
  if n < 0 ∨ n = k ∨ nearF (entAt x.g.ents k) (entAt x.g.ents n) = false then (x, 8)
  else
    let y : GV := ⟨false, x.b, x.c, ⟨hurt x.g.ents n, x.g.floor, x.g.last⟩⟩
    (if (entAt x.g.ents n).life - 1 ≤ 0 then dropV y n else y, 0)
def actV (x : GV) (k : Int) (r : Req) : GV × Int :=
  let e := entAt x.g.ents k
  if r.op = 2 then
    if inB (e.x + r.x) 0 3 = false ∨ inB (e.y + r.y) 0 3 = false then (x, 6)
    else (⟨false, x.b, x.c, ⟨setEnt x.g.ents k { e with x := e.x + r.x, y := e.y + r.y }, x.g.floor, x.g.last⟩⟩, 0)
  else if r.op = 3 then
    if intAt x.g.floor (at4 e) = 0 then (x, 7)
    else (⟨false, false, x.c, ⟨setEnt x.g.ents k { e with gold := e.gold + 1 }, addAt x.g.floor (at4 e) (-1), x.g.last⟩⟩, 0)
  else if r.op = 4 then hitV x k (atF x.g.ents r.x)
  else
    let n := atF x.g.ents r.x
    if n < 0 ∨ n = k ∨ nearF e (entAt x.g.ents n) = false then (x, 8)
    else if e.gold < r.y then (x, 7)
    else (⟨false, x.b, x.c, ⟨setEnt (setEnt x.g.ents n { entAt x.g.ents n with gold := (entAt x.g.ents n).gold + r.y }) k { e with gold := e.gold - r.y }, x.g.floor, x.g.last⟩⟩, 0)
def Req0 : Req := ⟨0, 0, 0, 0, 0⟩
def reqNone (r : Req) : Bool := decide (r.client = 0 ∧ r.num = 0 ∧ r.op = 0 ∧ r.x = 0 ∧ r.y = 0)
def doV (x : GV) (r : Req) : GV × Int :=
  if reqNone r = true then (x, 2)
  else if r.num ≤ intAt x.g.last (r.client - 1) then (x, 3)
  else
    let y : GV := ⟨x.a, x.b, false, ⟨x.g.ents, x.g.floor, x.g.last.set (r.client - 1).toNat r.num⟩⟩
    let k := atF x.g.ents r.client
    if r.op = 1 then
      if 0 ≤ k then (y, 4) else (⟨false, y.b, y.c, ⟨joinF y.g.ents r.client, y.g.floor, y.g.last⟩⟩, 0)
    else if k < 0 then (y, 5)
    else actV y k r

theorem vGame_ext {a b c : Bool} {E F L : List (List D)} {g : Game} (h1 : E = g.ents.map encEnt) (h2 : F = g.floor.map encI) (h3 : L = g.last.map encI) : V.agg [.d (.slc a 5 E), .d (.slc b 1 F), .d (.slc c 1 L)] = vGame a b c g := by
  subst h1; subst h2; subst h3; rfl
theorem entAt_row {l : List Ent} {k : Int} (h0 : 0 ≤ k) (h1 : k < l.length) : (l.map encEnt)[k.toNat]? = some (encEnt (entAt l k)) := by
  have : k.toNat < l.length := by omega
  exact row_map (by unfold entAt; simp [this])
theorem intAt_row {l : List Int} {k : Int} (h0 : 0 ≤ k) (h1 : k < l.length) : (l.map encI)[k.toNat]? = some (encI (intAt l k)) := by
  have : k.toNat < l.length := by omega
  exact row_map (by unfold intAt; simp [this])
theorem entAt_get {l : List Ent} {k : Int} (h1 : k.toNat < l.length) : l[k.toNat]? = some (entAt l k) := by unfold entAt; simp [h1]
theorem intAt_get {l : List Int} {k : Int} (h1 : k.toNat < l.length) : l[k.toNat]? = some (intAt l k) := by unfold intAt; simp [h1]

theorem atF_some {l : List Ent} {c : Int} {i : Nat} {e : Ent} (he : l[i]? = some e) (hc : e.client = c) (hb : ∀ (j : Nat) x, j < i → l[j]? = some x → x.client ≠ c) : atF l c = i := by
  have : l.findIdx? (fun e => decide (e.client = c)) = some i := by
    rw [List.findIdx?_eq_some_iff_getElem]
    obtain ⟨hlt, hge⟩ := List.getElem?_eq_some_iff.1 he
    refine ⟨hlt, by rw [hge]; simpa using hc, fun j hj => ?_⟩
    have := hb j l[j] hj (by simp)
    simpa using this
  unfold atF
  rw [this]
theorem atF_none {l : List Ent} {c : Int} (hb : ∀ (j : Nat) x, l[j]? = some x → x.client ≠ c) : atF l c = -1 := by
  have : l.findIdx? (fun e => decide (e.client = c)) = none := by
    rw [List.findIdx?_eq_none_iff]
    intro x hx
    obtain ⟨j, hj⟩ := List.mem_iff_getElem?.1 hx
    simpa using hb j x hj
  unfold atF
  rw [this]
theorem atF_spec (l : List Ent) (c : Int) : (atF l c = -1 ∧ ∀ (j : Nat) x, l[j]? = some x → x.client ≠ c) ∨ ∃ i : Nat, atF l c = i ∧ i < l.length ∧ (entAt l i).client = c := by
  unfold atF
  cases h : l.findIdx? (fun e => decide (e.client = c)) with
  | none =>
    rw [List.findIdx?_eq_none_iff] at h
    refine .inl ⟨rfl, fun j x hj => ?_⟩
    simpa using h x (List.mem_of_getElem? hj)
  | some i =>
    rw [List.findIdx?_eq_some_iff_getElem] at h
    obtain ⟨h1, h2, _⟩ := h
    exact .inr ⟨i, rfl, h1, by simpa [entAt, h1] using h2⟩

theorem under_spec {l : List Ent} {c : Int} {k : Nat} (hk : k ≤ l.length) (hb : ∀ (j : Nat) x, j < k → l[j]? = some x → x.client < c) (he : ∀ x, l[k]? = some x → ¬ x.client < c) : under l c = k := by
  unfold under
  induction l generalizing k with
  | nil => simp at hk ⊢; omega
  | cons a l ih =>
    cases k with
    | zero =>
      have := he a rfl
      simp [List.takeWhile_cons, this]
    | succ k =>
      have h0 := hb 0 a (by omega) rfl
      simp only [List.takeWhile_cons, h0, decide_true, if_true, List.length_cons]
      rw [ih (by simpa using hk) (fun j x hj hx => hb (j + 1) x (by omega) (by simpa using hx)) (fun x hx => he x (by simpa using hx))]
end Go.Proofs.Ytnnmkenloijkcaa
