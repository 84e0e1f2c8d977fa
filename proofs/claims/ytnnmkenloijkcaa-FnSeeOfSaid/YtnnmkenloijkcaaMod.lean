/- Games, figures and asks as plain data, and how the program holds them. -/
import Derived.Test.YtnnmkenloijkcaaBase
set_option linter.unusedVariables false
namespace Go.Proofs.Ytnnmkenloijkcaa
open Go Eng

structure Ent where
  (client x y life gold : Int)
structure Game where
  ents : List Ent
  floor : List Int
  last : List Int
structure Req where
  (client num op x y : Int)
def encI (n : Int) : List D := [.int .i64 n]
def encEnt (e : Ent) : List D := [.int .i64 e.client, .int .i64 e.x, .int .i64 e.y, .int .i64 e.life, .int .i64 e.gold]
def encReq (r : Req) : List D := [.int .i64 r.client, .int .i64 r.num, .int .i64 r.op, .int .i64 r.x, .int .i64 r.y]
def vEnt (e : Ent) : V := .agg [vi e.client, vi e.x, vi e.y, vi e.life, vi e.gold]
def vReq (r : Req) : V := .agg [vi r.client, vi r.num, vi r.op, vi r.x, vi r.y]
def dInts (a : Bool) (l : List Int) : D := .slc a 1 (l.map encI)
def dEnts (a : Bool) (l : List Ent) : D := .slc a 5 (l.map encEnt)
def vGame (a b c : Bool) (g : Game) : V := .agg [.d (dEnts a g.ents), .d (dInts b g.floor), .d (dInts c g.last)]

def inB (n lo hi : Int) : Bool := decide (lo ≤ n ∧ n ≤ hi)
theorem inB_t {n lo hi : Int} : inB n lo hi = true ↔ lo ≤ n ∧ n ≤ hi := by simp [inB]
theorem inB_f {n lo hi : Int} : inB n lo hi = false ↔ ¬ (lo ≤ n ∧ n ≤ hi) := by rw [← Bool.not_eq_true, inB_t]
def entOk (e : Ent) : Bool := inB e.client 1 4 && inB e.x 0 3 && inB e.y 0 3 && inB e.life 0 3 && inB e.gold 0 20

structure OkG (g : Game) : Prop where
  ent : ∀ (i : Nat) e, g.ents[i]? = some e → entOk e = true
  ord : ∀ (i : Nat) p e, g.ents[i]? = some p → g.ents[i + 1]? = some e → p.client < e.client
  floor : ∀ (i : Nat) n, g.floor[i]? = some n → inB n 0 20 = true
  last : ∀ (i : Nat) n, g.last[i]? = some n → inB n 0 30 = true
  nfloor : g.floor.length = 16
  nlast : g.last.length = 4
  sum : (g.ents.map Ent.gold).sum + g.floor.sum = 20
open Classical in
noncomputable def okG (g : Game) : Bool := decide (OkG g)
theorem okG_t {g : Game} (h : OkG g) : okG g = true := by simp [okG, h]
theorem okG_f {g : Game} (h : ¬ OkG g) : okG g = false := by simp [okG, h]
theorem of_okG {g : Game} (h : okG g = true) : OkG g := by simpa [okG] using h

theorem sum_succ {l : List Int} {i : Nat} {n : Int} (h : l[i]? = some n) : (l.take (i + 1)).sum = (l.take i).sum + n := by
  rw [List.take_add_one, h]; simp
theorem sum_range {l : List Int} {k : Int} (hk : 0 ≤ k) (h : ∀ (i : Nat) n, l[i]? = some n → 0 ≤ n ∧ n ≤ k) : 0 ≤ l.sum ∧ l.sum ≤ k * l.length := by
  induction l with
  | nil => simp
  | cons a l ih =>
    have h1 := h 0 a rfl
    have h2 := ih fun i n hi => h (i + 1) n (by simpa using hi)
    simp only [List.sum_cons, List.length_cons, Int.natCast_add, Int.mul_add]
    omega
theorem entsAt {α : Type} {l : List α} {i : Nat} (h : i < l.length) : ∃ e, l[i]? = some e := ⟨l[i], by simp [h]⟩
theorem lt_map {α β : Type} {f : α → β} {l : List α} {i : Nat} (h : (i : Int) < (l.map f).length) : i < l.length := by simpa using h
theorem ge_map {α β : Type} {f : α → β} {l : List α} {i : Nat} (h : ¬ (i : Int) < (l.map f).length) (hi : i ≤ l.length) : i = l.length := by
  have : ¬ i < l.length := fun h' => h (by simpa using h')
  omega
theorem le_map {α β : Type} {f : α → β} {l : List α} {n : Nat} (h : (l.map f).length ≤ n) : l.length ≤ n := by simpa using h
end Go.Proofs.Ytnnmkenloijkcaa
