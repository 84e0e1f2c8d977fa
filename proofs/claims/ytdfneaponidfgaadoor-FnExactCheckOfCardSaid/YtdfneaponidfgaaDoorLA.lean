/- Parts of the proof, in order: the engine, the contracts of the functions, the laws. -/
import Derived.Orders
import Derived.Tactics
import Derived.Laws.Cells
import Derived.Laws.Append
import Derived.WalkKit
import Derived.Laws.StructEq
import Derived.Laws.Strings
import Derived.Laws.AppendOwn
/- The engine, part A: pure data, abstract states, and what it means that memory holds them. -/
set_option linter.unusedVariables false
set_option linter.unusedSimpArgs false
namespace Go.Proofs.YtdfneaponidfgaaDoor.Eng
open Go

/-- Pure data of one cell. -/
inductive D where
  | bool (b : Bool)
  | int (k : IntKind) (n : Int)
  | str (s : ByteArray)
  | slc (full : Bool) (esz : Nat) (rows : List (List D))
  | ptr (cells : List D)
  | nilp
  | nilfn
  | fn (f : FuncId) (caps : List D)
  deriving Inhabited

/-- What a slot or a boxed cell holds. -/
inductive V where
  | undef
  | d (x : D)
  | ref (id row esz off : Nat)
  | own (id : Nat)
  | osl (tok esz : Nat) (rows : List (List D))
  | view (id esz lo n : Nat)
  | any
  | agg (cs : List V)
  | tup (vs : List V)
  | clo (f : FuncId) (caps : List V)
  deriving Inhabited

/-- An object of the call's own. -/
inductive Obj where
  | none
  | dead
  | box (cells : List V)
  | arr (full : Bool) (esz : Nat) (rows : List (List D))
  | grow (esz n : Nat)
  deriving Inhabited

def Obj.used : Obj → Bool
  | .none => false
  | _ => true
def Obj.live : Obj → Bool
  | .none => false
  | .dead => false
  | _ => true

structure St where
  sl : Nat → V
  hp : Nat → Obj

def upd {α : Type} (f : Nat → α) (d : Nat) (v : α) (t : Nat) : α := match Nat.beq t d with | true => v | false => f t
theorem upd_same {α : Type} (f : Nat → α) (d : Nat) (v : α) : upd f d v d = v := by simp [upd]
theorem upd_ne {α : Type} (f : Nat → α) {d t : Nat} (v : α) (h : t ≠ d) : upd f d v t = f t := by
  unfold upd
  cases hb : Nat.beq t d with
  | true => exact absurd (Nat.eq_of_beq_eq_true hb) h
  | false => rfl
theorem upd_eq {α : Type} (f : Nat → α) (d t : Nat) (v : α) : upd f d v t = if t = d then v else f t := by
  by_cases h : t = d
  · subst h; simp [upd_same]
  · simp [upd_ne _ _ h, h]
theorem upd_comm {α : Type} (f : Nat → α) {d e : Nat} (v u : α) (h : d ≠ e) : upd (upd f d v) e u = upd (upd f e u) d v := by
  funext t
  simp only [upd_eq]
  by_cases h1 : t = e <;> by_cases h2 : t = d <;> simp [h1, h2]
  · exact absurd (h2.symm.trans h1) h
  · intro h3; exact absurd h3.symm h
  · intro h3; exact absurd h3 h

abbrev Imm := Nat → Nat → Prop

inductive RepD (w : World) (imm : Imm) : D → Value → Prop where
  | bool (b) : RepD w imm (.bool b) (.bool b)
  | int (k n) : RepD w imm (.int k n) (.int k n)
  | str (s : ByteArray) : RepD w imm (.str s) (.string s)
  | slc (full : Bool) (esz : Nat) (rows : List (List D)) (A : Option Addr) (c : Nat) (vals : Nat → Nat → Value)
      (hc : rows.length ≤ c) (hn : rows.length ≤ 2 ^ 48) (hf : full = true → c = rows.length)
      (hrow : ∀ (i : Nat) (r : List D), rows[i]? = some r → r.length = esz)
      (hA : rows ≠ [] → ∃ b o, A = some ⟨b, o, none⟩)
      (hcell : ∀ b o, A = some ⟨b, o, none⟩ → ∀ (i : Nat) (r : List D), rows[i]? = some r → ∀ (j : Nat) (x : D), r[j]? = some x →
        imm b (o + i * esz + j) ∧ w.cell? ⟨b, o + i * esz + j, none⟩ = some (vals i j))
      (hrep : ∀ (i : Nat) (r : List D), rows[i]? = some r → ∀ (j : Nat) (x : D), r[j]? = some x → RepD w imm x (vals i j)) :
      RepD w imm (.slc full esz rows) (.slice A rows.length c)
  | ptr (cells : List D) (b o : Nat) (vals : Nat → Value)
      (hcell : ∀ (j : Nat) (x : D), cells[j]? = some x → imm b (o + j) ∧ w.cell? ⟨b, o + j, none⟩ = some (vals j))
      (hrep : ∀ (j : Nat) (x : D), cells[j]? = some x → RepD w imm x (vals j)) :
      RepD w imm (.ptr cells) (.pointer (some ⟨b, o, none⟩))
  | nilp : RepD w imm .nilp (.pointer none)
  | nilfn : RepD w imm .nilfn .nilFunc
  | fn (f : FuncId) (caps : List D) (us : List Value) (hl : us.length = caps.length)
      (hrep : ∀ (j : Nat) (x : D) (u : Value), caps[j]? = some x → us[j]? = some u → RepD w imm x u) :
      RepD w imm (.fn f caps) (.func (.func f) #[] us.toArray)

/-- The world goes on: frozen cells stay, more are frozen. -/
structure Ext (w : World) (imm : Imm) (w' : World) (imm' : Imm) : Prop where
  sub : ∀ b o, imm b o → imm' b o
  cell : ∀ b o, imm b o → w'.cell? ⟨b, o, none⟩ = w.cell? ⟨b, o, none⟩

theorem Ext.refl (w : World) (imm : Imm) : Ext w imm w imm := ⟨fun _ _ h => h, fun _ _ _ => rfl⟩
theorem Ext.trans {w w1 w2 : World} {i i1 i2 : Imm} (h : Ext w i w1 i1) (k : Ext w1 i1 w2 i2) : Ext w i w2 i2 :=
  ⟨fun b o x => k.sub b o (h.sub b o x), fun b o x => (k.cell b o (h.sub b o x)).trans (h.cell b o x)⟩

theorem RepD.ext {w w' : World} {imm imm' : Imm} (e : Ext w imm w' imm') {x : D} {v : Value} (h : RepD w imm x v) : RepD w' imm' x v := by
  induction h with
  | bool b => exact .bool b
  | int k n => exact .int k n
  | str s => exact .str s
  | slc full esz rows A c vals hc hn hf hrow hA hcell hrep ih =>
    exact .slc full esz rows A c vals hc hn hf hrow hA
      (fun b o ha i r hi j x hj => ⟨e.sub _ _ (hcell b o ha i r hi j x hj).1, (e.cell _ _ (hcell b o ha i r hi j x hj).1).trans (hcell b o ha i r hi j x hj).2⟩) ih
  | ptr cells b o vals hcell hrep ih =>
    exact .ptr cells b o vals (fun j x hj => ⟨e.sub _ _ (hcell j x hj).1, (e.cell _ _ (hcell j x hj).1).trans (hcell j x hj).2⟩) ih
  | nilp => exact .nilp
  | nilfn => exact .nilfn
  | fn f caps us hl hrep ih => exact .fn f caps us hl ih

theorem RepD.weak {w : World} {imm : Imm} {full : Bool} {esz : Nat} {rows : List (List D)} {v : Value} (h : RepD w imm (.slc full esz rows) v) : RepD w imm (.slc false esz rows) v := by
  cases h with
  | slc full esz rows A c vals hc hn hf hrow hA hcell hrep => exact .slc false esz rows A c vals hc hn (by simp) hrow hA hcell hrep

/-- Where the objects lie. -/
structure Gh where
  imm : Imm
  blk : Nat → Option Nat
  val : Nat → Value

mutual
def RepV (w : World) (g : Gh) (hp : Nat → Obj) : V → Value → Prop
  | .undef, _ => True
  | .d x, v => RepD w g.imm x v
  | .ref id row esz off, v => (hp id).used = true ∧ (∀ e n, hp id ≠ .grow e n) ∧ ∃ b, g.blk id = some b ∧ v = .pointer (some ⟨b, row * esz + off, none⟩)
  | .own id, v => (hp id).used = true ∧ v = g.val id ∧ (∀ e n, hp id ≠ .grow e n) ∧ ∃ A n c, v = .slice A n c
  | .osl tok esz rows, v => (hp tok).used = true ∧ RepD w g.imm (.slc false esz rows) v ∧ ∀ e n, hp tok = .grow e n → e = esz ∧ rows.length ≤ n ∧ (rows.length = n → v = g.val tok)
  | .view id e lo n, v => (hp id).used = true ∧ (∀ e n, hp id ≠ .grow e n) ∧ ∃ A N c A', g.val id = .slice A N c ∧ lo + n ≤ N ∧ v = .slice A' n (c - lo) ∧ (c - lo ≠ 0 → A' = A.map (·.add (lo * e)))
  | .any, v => v.oneCell' = true
  | .agg cs, v => ∃ us : Array Value, v = .agg us ∧ RepVs w g hp cs us.toList
  | .tup vs, v => ∃ us : Array Value, v = .tuple us ∧ RepVs w g hp vs us.toList
  | .clo f caps, v => ∃ us : Array Value, v = .func (.func f) #[] us ∧ RepVs w g hp caps us.toList
def RepVs (w : World) (g : Gh) (hp : Nat → Obj) : List V → List Value → Prop
  | [], us => us = []
  | c :: cs, us => ∃ u us', us = u :: us' ∧ RepV w g hp c u ∧ RepVs w g hp cs us'
end

/-- The old objects' places stay; none is made unused; a growing one grows. -/
structure GExt (w : World) (g : Gh) (hp : Nat → Obj) (w' : World) (g' : Gh) (hp' : Nat → Obj) : Prop where
  ext : Ext w g.imm w' g'.imm
  used : ∀ id, (hp id).used = true → (hp' id).used = true
  blk : ∀ id, (hp id).used = true → (∀ e n, hp id ≠ .grow e n) → g'.blk id = g.blk id
  val : ∀ id, (hp id).used = true → (∀ e n, hp id ≠ .grow e n) → g'.val id = g.val id
  nogrow : ∀ id, (hp id).used = true → (∀ e n, hp id ≠ .grow e n) → ∀ e n, hp' id ≠ .grow e n
  grow : ∀ id e n, (hp id).used = true → hp' id = .grow e n → ∃ m, hp id = .grow e m ∧ m ≤ n ∧ (m = n → g'.val id = g.val id)

theorem GExt.refl (w : World) (g : Gh) (hp : Nat → Obj) : GExt w g hp w g hp :=
  ⟨Ext.refl _ _, fun _ h => h, fun _ _ _ => rfl, fun _ _ _ => rfl, fun _ _ h => h, fun _ e n _ h => ⟨n, h, Nat.le_refl _, fun _ => rfl⟩⟩

theorem GExt.trans {w w1 w2 : World} {g g1 g2 : Gh} {h h1 h2 : Nat → Obj} (a : GExt w g h w1 g1 h1) (b : GExt w1 g1 h1 w2 g2 h2) : GExt w g h w2 g2 h2 where
  ext := a.ext.trans b.ext
  used := fun id u => b.used id (a.used id u)
  blk := fun id u n => (b.blk id (a.used id u) (a.nogrow id u n)).trans (a.blk id u n)
  val := fun id u n => (b.val id (a.used id u) (a.nogrow id u n)).trans (a.val id u n)
  nogrow := fun id u n => b.nogrow id (a.used id u) (a.nogrow id u n)
  grow := fun id e n u k => by
    obtain ⟨m, h3, h4, h5⟩ := b.grow id e n (a.used id u) k
    obtain ⟨m', h6, h7, h8⟩ := a.grow id e m u h3
    refine ⟨m', h6, by omega, fun q => ?_⟩
    rw [h5 (by omega), h8 (by omega)]

mutual
theorem RepV.ext {w w' : World} {g g' : Gh} {hp hp' : Nat → Obj} (e : GExt w g hp w' g' hp') :
    ∀ (x : V) (v : Value), RepV w g hp x v → RepV w' g' hp' x v
  | .undef, v, h => by simp [RepV]
  | .d x, v, h => by simp only [RepV] at h ⊢; exact h.ext e.ext
  | .ref id row esz off, v, h => by
    simp only [RepV] at h ⊢
    obtain ⟨h1, h2, b, h3, h4⟩ := h
    exact ⟨e.used _ h1, e.nogrow _ h1 h2, b, (e.blk _ h1 h2).trans h3, h4⟩
  | .own id, v, h => by
    simp only [RepV] at h ⊢
    obtain ⟨h1, h2, h3, h4⟩ := h
    exact ⟨e.used _ h1, h2.trans (e.val _ h1 h3).symm, e.nogrow _ h1 h3, h4⟩
  | .osl tok esz rows, v, h => by
    simp only [RepV] at h ⊢
    obtain ⟨h1, h2, h3⟩ := h
    refine ⟨e.used _ h1, h2.ext e.ext, fun e' n hn => ?_⟩
    obtain ⟨m, hm, hmn, hv⟩ := e.grow tok e' n h1 hn
    obtain ⟨h4, h5, h6⟩ := h3 e' m hm
    refine ⟨h4, Nat.le_trans h5 hmn, fun hl => ?_⟩
    rw [hv (by omega)]
    exact h6 (by omega)
  | .view id e' lo n, v, h => by
    simp only [RepV] at h ⊢
    obtain ⟨h1, h2, h3⟩ := h
    rw [e.val _ h1 h2]
    exact ⟨e.used _ h1, e.nogrow _ h1 h2, h3⟩
  | .any, v, h => by simpa only [RepV] using h
  | .agg cs, v, h => by
    simp only [RepV] at h ⊢
    obtain ⟨us, rfl, h⟩ := h
    exact ⟨us, rfl, RepVs.ext e cs _ h⟩
  | .tup cs, v, h => by
    simp only [RepV] at h ⊢
    obtain ⟨us, rfl, h⟩ := h
    exact ⟨us, rfl, RepVs.ext e cs _ h⟩
  | .clo f cs, v, h => by
    simp only [RepV] at h ⊢
    obtain ⟨us, rfl, h⟩ := h
    exact ⟨us, rfl, RepVs.ext e cs _ h⟩
theorem RepVs.ext {w w' : World} {g g' : Gh} {hp hp' : Nat → Obj} (e : GExt w g hp w' g' hp') :
    ∀ (xs : List V) (vs : List Value), RepVs w g hp xs vs → RepVs w' g' hp' xs vs
  | [], vs, h => by simpa [RepVs] using h
  | c :: cs, vs, h => by
    simp only [RepVs] at h ⊢
    obtain ⟨u, us', rfl, h1, h2⟩ := h
    exact ⟨u, us', rfl, RepV.ext e c u h1, RepVs.ext e cs us' h2⟩
end

/-- Pure values: no object of a call is in them. -/
def gh0 (imm : Imm) : Gh := ⟨imm, fun _ => none, fun _ => Go.undef⟩
def RepP (w : World) (imm : Imm) (v : V) (u : Value) : Prop := RepV w (gh0 imm) (fun _ => .none) v u
def RepPs (w : World) (imm : Imm) (vs : List V) (us : List Value) : Prop := RepVs w (gh0 imm) (fun _ => .none) vs us

mutual
theorem RepP.to {w : World} {imm : Imm} {g : Gh} (hi : imm = g.imm) (hp : Nat → Obj) : ∀ (v : V) (u : Value), RepV w (gh0 imm) (fun _ => .none) v u → RepV w g hp v u
  | .undef, u, h => by simp [RepV]
  | .d x, u, h => by subst hi; simpa only [RepV, gh0] using h
  | .ref id r e f, u, h => by simp [RepV, Obj.used] at h
  | .own id, u, h => by simp [RepV, Obj.used] at h
  | .osl t e rows, u, h => by simp [RepV, Obj.used] at h
  | .view .., u, h => by simp [RepV, Obj.used] at h
  | .any, u, h => by simpa only [RepV] using h
  | .agg cs, u, h => by
    simp only [RepV] at h ⊢
    obtain ⟨us, rfl, h⟩ := h
    exact ⟨us, rfl, RepPs.to hi hp cs _ h⟩
  | .tup cs, u, h => by
    simp only [RepV] at h ⊢
    obtain ⟨us, rfl, h⟩ := h
    exact ⟨us, rfl, RepPs.to hi hp cs _ h⟩
  | .clo f cs, u, h => by
    simp only [RepV] at h ⊢
    obtain ⟨us, rfl, h⟩ := h
    exact ⟨us, rfl, RepPs.to hi hp cs _ h⟩
theorem RepPs.to {w : World} {imm : Imm} {g : Gh} (hi : imm = g.imm) (hp : Nat → Obj) : ∀ (vs : List V) (us : List Value), RepVs w (gh0 imm) (fun _ => .none) vs us → RepVs w g hp vs us
  | [], us, h => by simpa [RepVs] using h
  | c :: cs, us, h => by
    simp only [RepVs] at h ⊢
    obtain ⟨u, us', rfl, h1, h2⟩ := h
    exact ⟨u, us', rfl, RepP.to hi hp c u h1, RepPs.to hi hp cs us' h2⟩
end

theorem RepP.ext {w w' : World} {imm imm' : Imm} (e : Ext w imm w' imm') {v : V} {u : Value} (h : RepP w imm v u) : RepP w' imm' v u :=
  RepV.ext (g := gh0 imm) (g' := gh0 imm') (hp := fun _ => .none) (hp' := fun _ => .none) ⟨e, fun _ h => h, fun _ _ _ => rfl, fun _ _ _ => rfl, fun _ _ h => h, fun _ e n _ h => ⟨n, h, Nat.le_refl _, fun _ => rfl⟩⟩ _ _ h

/-- What an object's block holds. -/
def ObjRep (w : World) (g : Gh) (hp : Nat → Obj) (id : Nat) : Obj → Prop
  | .none => True
  | .dead => True
  | .box cells => ∃ b us e, g.blk id = some b ∧ w.heap[b]? = some (.cells us e (0, 0)) ∧ RepVs w g hp cells us.toList ∧ ∀ o, ¬ g.imm b o
  | .arr full esz rows => ∃ A c, g.val id = .slice A rows.length c ∧ rows.length ≤ c ∧ rows.length ≤ 2 ^ 48 ∧ (full = true → c = rows.length) ∧
      (∀ (i : Nat) (r : List D), rows[i]? = some r → r.length = esz) ∧ (g.blk id = none → rows = [] ∧ c = 0) ∧
      ∀ b, g.blk id = some b → A = some ⟨b, 0, none⟩ ∧ (∀ o, ¬ g.imm b o) ∧ ∃ us e, w.heap[b]? = some (.cells us e (0, 0)) ∧ c * esz ≤ us.size ∧
        ∀ (i : Nat) (r : List D), rows[i]? = some r → ∀ (j : Nat) (x : D), r[j]? = some x → ∃ u, us[i * esz + j]? = some u ∧ RepD w g.imm x u
  | .grow esz n => ∃ A c, g.val id = .slice A n c ∧ n ≤ c ∧ n ≤ 2 ^ 48 ∧ (g.blk id = none → c = n) ∧
      ∀ b, g.blk id = some b → A = some ⟨b, 0, none⟩ ∧ (∀ o, n * esz ≤ o → ¬ g.imm b o) ∧ ∃ us e, w.heap[b]? = some (.cells us e (0, 0)) ∧ us.size = c * esz

/-- The environment of a call: program, types' and variables' tables, where it began. -/
structure Env where
  P : Program
  nt : Nat
  n0 : Nat
  own0 : Nat → Prop
  w0 : World
  i0 : Imm
  glob : Nat → V
  g0 : Gh
  hp0 : Nat → Obj

/-- What goes in and out of the program is as it was. -/
def SameIO (w w' : World) : Prop := w'.os = w.os ∧ w'.output = w.output
theorem SameIO.trans {a b c : World} (h : SameIO a b) (k : SameIO b c) : SameIO a c := ⟨k.1.trans h.1, k.2.trans h.2⟩

structure Rel (E : Env) (s : St) (a : Act) (w : World) (g : Gh) : Prop where
  slots : ∀ t, RepV w g s.hp (s.sl t) (a.tmps.getD t Go.undef)
  objs : ∀ id, ObjRep w g s.hp id (s.hp id)
  dist : ∀ i j b, i ≠ j → (s.hp i).live = true → (s.hp j).live = true → g.blk i = some b → g.blk j ≠ some b
  bound : ∀ b o, g.imm b o → b < w.heap.size
  globs : ∀ k, RepP w g.imm (E.glob k) (.pointer (some ⟨k, 0, none⟩))
  low : ∀ id b, (s.hp id).live = true → g.blk id = some b → E.n0 ≤ b ∨ E.own0 b
  frame : ∀ b, b < E.n0 → ¬ E.own0 b → w.heap[b]? = E.w0.heap[b]?
  size : E.n0 ≤ w.heap.size
  start : Ext E.w0 E.i0 w g.imm
  fresh : ∀ b o, g.imm b o → b < E.n0 → E.i0 b o ∨ E.own0 b
  nt : a.tmps.size = E.nt
  defers : a.defers = []
  old : GExt E.w0 E.g0 E.hp0 w g s.hp
  io : SameIO E.w0 w

end Go.Proofs.YtdfneaponidfgaaDoor.Eng
/- The engine, part B: what each operation does to an abstract state. -/
set_option linter.unusedVariables false
set_option linter.unusedSimpArgs false
namespace Go.Proofs.YtdfneaponidfgaaDoor.Eng
open Go

/-- What the engine knows of a type. -/
structure TI where
  agg : Bool := false
  size : Nat := 1
  bytes : Nat := 8
  zero : List D := []
  flds : List (Nat × Nat) := []
  slc : Bool := false
  str : Bool := false
  elem : Nat := 0
  esz : Nat := 0
  ebytes : Nat := 0
  ezero : List D := []
  scalar : Bool := false
  cmp : Bool := false
  bool : Bool := false
  kind : Option IntKind := none
  deriving Inhabited

abbrev Tab := List (Nat × TI)
def Tab.get : Tab → Nat → Option TI
  | [], _ => none
  | (k, i) :: r, t => match Nat.beq k t with | true => some i | false => Tab.get r t

def aIf (b : Bool) (p q : Prop) : Prop := match b with | true => p | false => q
theorem aIf_of {b : Bool} {p q : Prop} (h1 : b = true → p) (h2 : b = false → q) : aIf b p q := by cases b <;> simp_all [aIf]

def V.cells : V → List V
  | .agg cs => cs
  | v => [v]
/-- A cell's value is of one cell. -/
def V.leaf : V → Bool
  | .undef | .agg _ | .tup _ => false
  | _ => true
def V.isTup : V → Bool
  | .tup _ => true
  | _ => false
def D.scalar : D → Bool
  | .bool _ => true
  | .int _ _ => true
  | .str _ => true
  | _ => false
mutual
def V.scalar : V → Bool
  | .d x => x.scalar
  | .agg cs => scalars cs
  | .tup cs => scalars cs
  | _ => false
def scalars : List V → Bool
  | [] => true
  | c :: cs => match c.scalar with | true => scalars cs | false => false
end
mutual
def V.plain : V → Bool
  | .d _ => true
  | .agg cs => plains cs
  | .tup cs => plains cs
  | _ => false
def plains : List V → Bool
  | [] => true
  | c :: cs => match c.plain with | true => plains cs | false => false
end
mutual
/-- What a value is, without what lies behind it. -/
def V.forget : V → V
  | .d x => match x.scalar with | true => .d x | false => .any
  | .agg cs => .agg (forgets cs)
  | .tup cs => .tup (forgets cs)
  | _ => .undef
def forgets : List V → List V
  | [] => []
  | c :: cs => c.forget :: forgets cs
end
def leavesB : List V → Bool
  | [] => true
  | v :: vs => match v.leaf with | true => leavesB vs | false => false
def mkV (agg : Bool) (cs : List V) : V := match agg with | true => .agg cs | false => cs.headD .undef

def cv : Value → V
  | .bool b => .d (.bool b)
  | .int k n => .d (.int k n)
  | .string s => .d (.str s)
  | .slice none 0 0 => .d (.slc true 0 [])
  | .pointer none => .d .nilp
  | .nilFunc => .d .nilfn
  | _ => .undef

def ev (G : Nat → V) (s : St) : Operand → V
  | .tmp t => s.sl t
  | .const v => cv v
  | .global g => G g
  | .func f => .d (.fn f [])

/-- A cell's value as pure data. -/
def leaf0 (hp : Nat → Obj) : V → Option D
  | .d x => some x
  | .osl _ e rows => some (.slc false e rows)
  | .own id => match hp id with | .arr full e rows => some (.slc full e rows) | _ => none
  | .view id e lo n => match hp id with | .arr _ e' rows => (match Nat.beq e e' with | true => some (.slc false e ((rows.drop lo).take n)) | false => none) | _ => none
  | _ => none
def leafs (f : V → Option D) : List V → Option (List D)
  | [] => some []
  | c :: cs => match f c, leafs f cs with | some x, some xs => some (x :: xs) | _, _ => none
def leaf1 (hp : Nat → Obj) : V → Option D
  | .ref id 0 0 off => match hp id with | .box cells => (leafs (leaf0 hp) (cells.drop off)).map .ptr | _ => none
  | v => leaf0 hp v
def leaf2 (hp : Nat → Obj) : V → Option D
  | .clo f caps => (leafs (leaf1 hp) caps).map (.fn f)
  | v => leaf1 hp v
def pureV (hp : Nat → Obj) : V → Option V
  | .agg cs => (leafs (leaf0 hp) cs).map fun l => .agg (l.map .d)
  | .tup _ => none
  | v => (leaf2 hp v).map .d
def pureVs (hp : Nat → Obj) : List V → Option (List V)
  | [] => some []
  | c :: cs => match pureV hp c, pureVs hp cs with | some x, some xs => some (x :: xs) | _, _ => none

/-- The objects that a value leads to. -/
def ids0 : V → List Nat
  | .own id => [id]
  | .view id _ _ _ => [id]
  | _ => []
def ids1 (hp : Nat → Obj) : V → List Nat
  | .ref id _ _ off => id :: match hp id with | .box cells => (cells.drop off).flatMap ids0 | _ => []
  | v => ids0 v
def idsV (hp : Nat → Obj) : V → List Nat
  | .agg cs => cs.flatMap ids0
  | .clo _ caps => caps.flatMap (ids1 hp)
  | v => ids1 hp v

/-- With the number of a slice that grows. -/
def toks : V → List Nat
  | .osl t _ _ => [t]
  | _ => []
def idsT (hp : Nat → Obj) (v : V) : List Nat := toks v ++ idsV hp v
def kill (hp : Nat → Obj) : List Nat → Nat → Obj
  | [] => hp
  | i :: is => upd (kill hp is) i .dead

def St.app (s : St) (dst : Option Tmp) (v : V) : St :=
  match dst with | some d => ⟨upd s.sl d v, s.hp⟩ | none => s
def St.set (s : St) (id : Nat) (o : Obj) : St := ⟨s.sl, upd s.hp id o⟩
def St.kill (s : St) (is : List Nat) : St := ⟨s.sl, Eng.kill s.hp is⟩

def setCells (cs : List V) (off : Nat) : List V → List V
  | [] => cs
  | x :: xs => setCells (cs.set off x) (off + 1) xs

/-- The fields of a struct, filled. -/
def fillFlds (flds : List (Nat × Nat)) (zero : List V) : List (Nat × V) → Option (List V)
  | [] => some zero
  | (_, .undef) :: _ => none
  | (_, .tup _) :: _ => none
  | (i, v) :: r => match flds[i]? with
    | some (off, size) => match Nat.beq v.cells.length size with
      | true => fillFlds flds (setCells zero off v.cells) r
      | false => none
    | none => none

def byteAt (s : ByteArray) (i : Int) : Int := ((s.data.toList[i.toNat]?).getD 0).toNat

def eqD : D → D → D → Option Bool
  | .bool _, .bool a, .bool b => some (a == b)
  | .int k0 _, .int k a, .int k' b => match decide (k = k0), decide (k' = k0) with | true, true => some (a == b) | _, _ => none
  | .str _, .str a, .str b => some (a == b)
  | _, _, _ => none
def eqVs : List D → List V → List V → Option Bool
  | [], [], [] => some true
  | [z], [.d x], [.d y] => eqD z x y
  | z :: zs, .d x :: xs, .d y :: ys => match eqD z x y, eqVs zs xs ys with | some a, some b => some (a && b) | _, _ => none
  | _, _, _ => none

/-- A truth value is split where it arises. -/
def aP (p : Prop) (K : V → Prop) : Prop := (p → K (.d (.bool true))) ∧ (¬ p → K (.d (.bool false)))
def aB (b : Bool) (K : V → Prop) : Prop := (b = true → K (.d (.bool true))) ∧ (b = false → K (.d (.bool false)))
theorem aP_iff {p : Prop} [Decidable p] {K : V → Prop} : aP p K ↔ K (.d (.bool (decide p))) := by
  unfold aP; by_cases h : p <;> simp [h]
theorem aB_iff {b : Bool} {K : V → Prop} : aB b K ↔ K (.d (.bool b)) := by
  unfold aB; cases b <;> simp

def intOp (op : BinOp) (k : IntKind) (a b : Int) (K : V → Prop) : Prop :=
  match op with
  | .add => K (.d (.int k (k.wrap (a + b))))
  | .sub => K (.d (.int k (k.wrap (a - b))))
  | .mul => K (.d (.int k (k.wrap (a * b))))
  | .quo => b ≠ 0 ∧ K (.d (.int k (k.wrap (a.tdiv b))))
  | .rem => b ≠ 0 ∧ K (.d (.int k (a.tmod b)))
  | .and => K (.d (.int k (k.wrap ((BitVec.ofInt k.bits a &&& BitVec.ofInt k.bits b).toNat))))
  | .or => K (.d (.int k (k.wrap ((BitVec.ofInt k.bits a ||| BitVec.ofInt k.bits b).toNat))))
  | .xor => K (.d (.int k (k.wrap ((BitVec.ofInt k.bits a ^^^ BitVec.ofInt k.bits b).toNat))))
  | .eql => aP (a = b) K
  | .neq => aP (a ≠ b) K
  | .lss => aP (a < b) K
  | .leq => aP (a ≤ b) K
  | .gtr => aP (b < a) K
  | .geq => aP (b ≤ a) K
  | _ => False

def binV (cmp bl : Bool) (z : List D) (op : BinOp) (x y : V) (K : V → Prop) : Prop :=
  match x, y with
  | .d (.int k a), .d (.int k' b) => match op with
    | .shl => 0 ≤ b ∧ K (.d (.int k (k.wrap (a * 2 ^ (min b.toNat k.bits)))))
    | .shr => 0 ≤ b ∧ K (.d (.int k (a.fdiv (2 ^ (min b.toNat k.bits)))))
    | op => match decide (k = k') with | true => intOp op k a b K | false => False
  | .d (.bool a), .d (.bool b) => match bl, op with
    | true, .eql => K (.d (.bool (a == b)))
    | true, .neq => K (.d (.bool (!(a == b))))
    | _, _ => False
  | .d (.str a), .d (.str b) => match op with
    | .add => (a.size + b.size ≤ 9223372036854775807) ∧ K (.d (.str (a ++ b)))
    | .eql => aB (a == b) K
    | .neq => aB (!(a == b)) K
    | _ => False
  | .agg xs, .agg ys => match cmp, op, eqVs z xs ys with
    | true, .eql, some b => aB b K
    | true, .neq, some b => aB (!b) K
    | _, _, _ => False
  | _, _ => False

/-- The rows of a value that is read as a slice. -/
def rowsOf (hp : Nat → Obj) : V → Option (Nat × List (List D))
  | .d (.slc _ e rows) => some (e, rows)
  | .osl _ e rows => some (e, rows)
  | .own id => match hp id with | .arr _ e rows => some (e, rows) | _ => none
  | .view id e lo n => match hp id with | .arr _ e' rows => (match Nat.beq e e' with | true => some (e, (rows.drop lo).take n) | false => none) | _ => none
  | _ => none

def asInt : V → Option Int
  | .d (.int _ n) => some n
  | _ => none

/-- 'x[lo:hi:max]' of rows: the rows, and whether none is left behind them. -/
def cutRows (full : Bool) (rows : List (List D)) (lo hi mx : Option Int) (K : Bool → List (List D) → Prop) : Prop :=
  match lo, hi, mx with
  | none, none, none => K full rows
  | some l, none, none => 0 ≤ l ∧ l ≤ rows.length ∧ K full (rows.drop l.toNat)
  | none, some h, none => 0 ≤ h ∧ h ≤ rows.length ∧ K false (rows.take h.toNat)
  | some l, some h, none => 0 ≤ l ∧ l ≤ h ∧ h ≤ rows.length ∧ K false ((rows.take h.toNat).drop l.toNat)
  | none, some h, some m => 0 ≤ h ∧ h ≤ m ∧ m ≤ rows.length ∧ K (decide (h = m)) (rows.take h.toNat)
  | some l, some h, some m => 0 ≤ l ∧ l ≤ h ∧ h ≤ m ∧ m ≤ rows.length ∧ K (decide (h = m)) ((rows.take h.toNat).drop l.toNat)
  | _, _, _ => False

def optInt (G : Nat → V) (s : St) : Option Operand → Option (Option Int)
  | none => some none
  | some x => match asInt (ev G s x) with | some n => some (some n) | none => none

/-- What calls are known to do: function, arguments, and what is told of the result. -/
structure Ctr where
  pure : FuncId → List V → (V → Prop) → Prop
  heap : FuncId → (Nat → Obj) → List V → (V → List (Nat × Obj) → Prop) → Prop
  /-- Functions that are called with what their objects are. -/
  kind : FuncId → Bool
  /-- Those of them that only read. -/
  ro : FuncId → Bool
  /-- Appends whose result is an array of the call's own. -/
  own : Nat → Bool
  keep : List Nat
  /-- Functions whose arguments are not frozen, and whose results are forgotten. -/
  lend : FuncId → Bool

abbrev HP := List (Nat × Obj)
def look {α : Type} (d : α) : List (Nat × α) → Nat → α
  | [], _ => d
  | (k, v) :: r, t => match Nat.beq t k with | true => v | false => look d r t
def hpOf (l : HP) : Nat → Obj := look .none l
/-- The objects behind a call that gave some back. -/
def overlay (hp : Nat → Obj) (l : HP) (i : Nat) : Obj := look (hp i) l i
/-- Nothing of a new object's number was there. -/
def freshHp (s : St) (ids : List Nat) : HP → Prop
  | [] => True
  | (i, _) :: r => (match ids.contains i with | true => True | false => s.hp i = .none) ∧ freshHp s ids r
mutual
def okV (ids : List Nat) : V → Bool
  | .ref id _ _ _ => ids.contains id
  | .own id => ids.contains id
  | .osl tok _ _ => ids.contains tok
  | .view id _ _ _ => ids.contains id
  | .agg cs => okVs ids cs
  | .tup cs => okVs ids cs
  | .clo _ cs => okVs ids cs
  | _ => true
def okVs (ids : List Nat) : List V → Bool
  | [] => true
  | c :: cs => okV ids c && okVs ids cs
end
def okO (ids : List Nat) : Obj → Bool
  | .box cs => okVs ids cs
  | .arr .. => true
  | .grow .. => true
  | .dead => true
  | _ => false
def weakHp (s : St) (ids : List Nat) : List (Nat × Obj) → Prop
  | [] => True
  | (k, o) :: r => s.hp k = o ∧ okO ids o = true ∧ weakHp s ids r

def Ctr.wr (C : Ctr) (f : FuncId) : Bool := match C.ro f with | true => false | false => C.kind f
/-- The value, as far as its head. -/
def forceD (x : D) (K : D → Prop) : Prop :=
  match x with
  | .bool b => K (.bool b)
  | .int k n => K (.int k n)
  | .str s => K (.str s)
  | .slc f e rows => K (.slc f e rows)
  | .ptr cs => K (.ptr cs)
  | .nilp => K .nilp
  | .nilfn => K .nilfn
  | .fn f cs => K (.fn f cs)
def force (v : V) (K : V → Prop) : Prop :=
  match v with
  | .undef => K .undef
  | .d x => forceD x fun x => K (.d x)
  | .ref a b c d => K (.ref a b c d)
  | .own i => K (.own i)
  | .osl t e rows => K (.osl t e rows)
  | .view i e lo n => K (.view i e lo n)
  | .any => K .any
  | .agg cs => K (.agg cs)
  | .tup cs => K (.tup cs)
  | .clo f cs => K (.clo f cs)
def forceL (vs : List V) (K : List V → Prop) : Prop :=
  match vs with
  | [] => K []
  | v :: vs => force v fun v => forceL vs fun vs => K (v :: vs)
theorem forceD_eq (x : D) (K : D → Prop) : forceD x K = K x := by cases x <;> rfl
theorem force_eq (v : V) (K : V → Prop) : force v K = K v := by cases v <;> first | rfl | exact forceD_eq _ (fun x => K (.d x))
theorem forceL_eq (vs : List V) (K : List V → Prop) : forceL vs K = K vs := by
  induction vs generalizing K with
  | nil => rfl
  | cons v vs ih => simp [forceL, force_eq, ih]
/-- A state's two parts: no state is named twice in the next. -/
def withS (s : St) (k : (Nat → V) → (Nat → Obj) → Prop) : Prop := match s with | ⟨sl, hp⟩ => k sl hp
theorem withS_eq (s : St) (k : (Nat → V) → (Nat → Obj) → Prop) : withS s k = k s.sl s.hp := rfl
def forceN (l : List Nat) (K : List Nat → Prop) : Prop :=
  match l with
  | [] => K []
  | n :: r => forceN r fun r => K (n :: r)
theorem forceN_eq (l : List Nat) (K : List Nat → Prop) : forceN l K = K l := by
  induction l generalizing K with
  | nil => rfl
  | cons n l ih => simp [forceN, ih]
/-- A slot is written. -/
def putK (s : St) (dst : Option Tmp) (v : V) (K : St → Prop) : Prop :=
  match dst with
  | some d => force v fun v => withS s fun sl hp => K ⟨upd sl d v, hp⟩
  | none => K s
theorem putK_eq (s : St) (dst : Option Tmp) (v : V) (K : St → Prop) : putK s dst v K = K (s.app dst v) := by
  cases dst <;> simp [putK, St.app, force_eq, withS_eq]

/-- A slice is no longer than this. -/
def lenK (q : Bool) (n : Nat) (K : Prop) : Prop := match q with | true => K | false => n ≤ 281474976710656 → K

def ownB (C : Ctr) (o : Oper) : Bool := match o.dst with | some d => C.own d | none => false
/-- A slice of an array of the call's own: the array is not written any more. -/
def frz (q : Bool) (s : St) (x : Operand) : Option St :=
  match q, x with
  | false, .tmp t => match s.sl t with
    | .own id => match s.hp id with
      | .arr full e rows => match s with | ⟨sl, hp⟩ => some ⟨upd sl t (.d (.slc full e rows)), Eng.kill hp [id]⟩
      | _ => none
    | _ => none
  | _, _ => none
theorem frz_true (s : St) (x : Operand) : frz true s x = none := by cases x <;> rfl
def aSlice (T : Tab) (G : Nat → V) (s : St) (dst : Option Tmp) (t : TypeId) (x : Operand) (lo hi mx : Option Operand) (K : St → Prop) : Prop :=
  match T.get t with
    | some ti => match optInt G s lo, optInt G s hi, optInt G s mx with
      | some lo, some hi, some mx => match ti.slc, ti.str, ev G s x with
        | true, _, .d (.slc full e rows) => match Nat.beq e ti.esz with
          | true => cutRows full rows lo hi mx fun f r => putK s dst (.d (.slc f e r)) K
          | false => False
        | true, _, .osl _ e rows => match Nat.beq e ti.esz with
          | true => cutRows false rows lo hi mx fun f r => putK s dst (.d (.slc f e r)) K
          | false => False
        | _, true, .d (.str b) => match lo, hi, mx with
          | none, none, none => putK s dst (.d (.str b)) K
          | some l, none, none => 0 ≤ l ∧ l ≤ b.size ∧ putK s dst (.d (.str (b.extract l.toNat b.size))) K
          | none, some h, none => 0 ≤ h ∧ h ≤ b.size ∧ putK s dst (.d (.str (b.extract 0 h.toNat))) K
          | some l, some h, none => 0 ≤ l ∧ l ≤ h ∧ h ≤ b.size ∧ putK s dst (.d (.str (b.extract l.toNat h.toNat))) K
          | _, _, _ => False
        | _, _, _ => False
      | _, _, _ => False
    | none => False

/-- 'x[:n:n]' of an array of the call's own, of n rows: the array goes on under the new slot's number. -/
def aClip (T : Tab) (G : Nat → V) (s : St) (dst : Option Tmp) (t : TypeId) (x : Operand) (lo hi mx : Option Operand) (K : St → Prop) : Prop :=
  match T.get t, dst, ev G s x, lo with
  | some ti, some d, .own id, none => match s.hp id, s.hp d, optInt G s hi, optInt G s mx with
    | .arr _ e rows, .none, some (some h), some (some m) => match ti.slc, Nat.beq e ti.esz with
      | true, true => h = rows.length ∧ m = rows.length ∧ withS s fun sl hp => K ⟨upd sl d (.own d), upd (upd hp id .dead) d (.arr true e rows)⟩
      | _, _ => False
    | _, _, _, _ => False
  | _, _, _, _ => False
/-- A slice that is nil has the size of its type's elements. -/
def asgV (T : Tab) (ty : TypeId) (x : Operand) (v : V) : V :=
  match x with
  | .const (.slice none 0 0) => match T.get ty with
    | some ti => .d (.slc true ti.esz [])
    | none => v
  | _ => v
/-- A slice that is compared to nil. -/
def nilCmp (hp : Nat → Obj) (x : V) (y : Operand) : Option (Nat × List (List D)) :=
  match y with
  | .const (.slice none 0 0) => rowsOf hp x
  | _ => none
def nilK (op : BinOp) (rows : List (List D)) (K : V → Prop) : Prop :=
  match op with
  | .eql => (rows = [] → K (.d (.bool true))) ∧ K (.d (.bool false))
  | .neq => (rows = [] → K (.d (.bool false))) ∧ K (.d (.bool true))
  | _ => False

def aOp.leafRows : List V → Option (List (List D))
  | [] => some []
  | v :: vs => match v.isTup with
    | true => none
    | false => match leafs (leaf0 (fun _ => .none)) v.cells, aOp.leafRows vs with
      | some x, some xs => some (x :: xs)
      | _, _ => none

/-- A slice of an array of the call's own. -/
structure Vw where
  id : Nat
  e : Nat
  lo : Nat
  n : Nat
  full : Bool
  rows : List (List D)
def viewOf (hp : Nat → Obj) : V → Option Vw
  | .own id => match hp id with | .arr full e rows => some ⟨id, e, 0, rows.length, full, rows⟩ | _ => none
  | .view id e lo n => match hp id with | .arr full e' rows => (match Nat.beq e e' with | true => some ⟨id, e, lo, n, full, rows⟩ | false => none) | _ => none
  | _ => none
/-- 'x[lo:hi:max]' of such a slice. -/
def vwCut (v : Vw) (lo hi mx : Option Int) (K : Nat → Nat → Prop) : Prop :=
  match mx with
  | none => 0 ≤ lo.getD 0 ∧ lo.getD 0 ≤ hi.getD v.n ∧ v.lo + (hi.getD v.n).toNat ≤ v.rows.length ∧ K (lo.getD 0).toNat (hi.getD v.n).toNat
  | some m => match v.full, hi with
    | true, some h => m = v.rows.length - v.lo ∧ v.lo ≤ v.rows.length ∧ 0 ≤ lo.getD 0 ∧ lo.getD 0 ≤ h ∧ v.lo + h.toNat ≤ v.rows.length ∧ K (lo.getD 0).toNat h.toNat
    | _, _ => False
def Vw.splice (v : Vw) (at_ : Nat) (new : List (List D)) : Obj := .arr v.full v.e (v.rows.take at_ ++ new ++ v.rows.drop (at_ + new.length))
/-- Operations on slices of arrays of the call's own. -/
def vwB (G : Nat → V) (C : Ctr) (o : Oper) (s : St) : Bool :=
  match o.op with
  | .slice _ x lo _ mx => match ev G s x with
    | .view .. => true
    | .own _ => match ownB C o with
      | true => match lo, mx with | none, some _ => false | _, _ => true
      | false => false
    | _ => false
  | .call c => match c.callee with
    | .builtin .append => match c.args.toList with
      | x :: _ => match ev G s x with | .view .. => true | .own _ => true | _ => false
      | [] => false
    | .builtin .cap => match c.args.toList with
      | x :: _ => match ev G s x with | .view .. => true | .own _ => true | _ => false
      | [] => false
    | .builtin .copy => true
    | .builtin .clear => true
    | _ => false
  | .convert _ _ x => match ev G s x with
    | .d (.int _ _) => false
    | _ => true
  | _ => false
/-- The bytes of rows. -/
def u8s : List (List D) → Option (List UInt8)
  | [] => some []
  | [.int .u8 n] :: r => match u8s r with | some l => some (UInt8.ofNat n.toNat :: l) | none => none
  | _ => none
/-- A number that is not in use: the slot's own, or another one. -/
def altK (hp : Nat → Obj) (d : Nat) (K : Nat → Prop) : Prop :=
  match hp d with
  | .none => K d
  | _ => K (Nat.add d 1000000)
/-- What is appended: rows, or so many zero ones. -/
def newRows (T : Tab) (hp : Nat → Obj) (ti : TI) (tx ty : TypeId) (y : V) : Option (List (List D)) :=
  match y with
  | .d (.int _ m) => match T.get ty with
    | some tj => match tj.kind with | some _ => some (List.replicate m.toNat ti.ezero) | none => none
    | none => none
  | y => match Nat.beq tx ty, rowsOf hp y with
    | true, some (e, rows) => match Nat.beq e ti.esz with | true => some rows | false => none
    | _, _ => none
def aVw (T : Tab) (G : Nat → V) (C : Ctr) (q : Bool) (o : Oper) (s : St) (K : St → Prop) : Prop :=
  match o.op with
  | .slice t x lo hi mx => match T.get t, viewOf s.hp (ev G s x) with
    | some ti, some v => match optInt G s lo, optInt G s hi, optInt G s mx with
      | some lo, some hi, some mx => match ti.slc, Nat.beq v.e ti.esz with
        | true, true => vwCut v lo hi mx fun l h => putK s o.dst (.view v.id v.e (v.lo + l) (h - l)) K
        | _, _ => False
      | _, _, _ => False
    | _, _ => False
  | .call c => match c.callee, c.args.toList, c.argTypes.toList with
    | .builtin .append, [x, y], [tx, ty] => match T.get tx, viewOf s.hp (ev G s x), o.dst with
      | some ti, some v, some d => match ti.slc, Nat.beq v.e ti.esz, q with
        | true, true, true => match Nat.beq tx ty, rowsOf s.hp (ev G s y) with
          | true, some (e, rows2) => match Nat.beq e ti.esz with
            | true => v.lo + v.n + rows2.length ≤ v.rows.length ∧ withS s fun sl hp => K ⟨upd sl d (.view v.id v.e v.lo (v.n + rows2.length)), upd hp v.id (v.splice (v.lo + v.n) rows2)⟩
            | false => False
          | _, _ => False
        | true, true, false => match v.full with
          | true => match s.hp d, newRows T s.hp ti tx ty (ev G s y) with
            | .none, some rows2 => v.rows.length < v.lo + v.n + rows2.length ∧ v.lo ≤ v.rows.length ∧ (v.n + rows2.length) * ti.ebytes ≤ 2 ^ 47 ∧ v.n + rows2.length ≤ 2 ^ 47 ∧
              withS s fun sl hp => K ⟨upd sl d (.own d), upd hp d (.arr false v.e ((v.rows.drop v.lo).take v.n ++ rows2))⟩
            | _, _ => False
          | false => match ev G s x, Nat.beq tx ty, rowsOf s.hp (ev G s y) with
            | .own _, true, some (e2, rows2) => match Nat.beq e2 ti.esz with
              | true => (v.n + rows2.length) * ti.ebytes ≤ 2 ^ 47 ∧ v.n + rows2.length ≤ 2 ^ 47 ∧
                altK s.hp d fun d2 => match s.hp d2 with
                  | .none => withS s fun sl hp => K ⟨upd sl d (.own d2), upd (upd hp v.id .dead) d2 (.arr false v.e (v.rows ++ rows2))⟩
                  | _ => False
              | false => False
            | _, _, _ => False
        | _, _, _ => False
      | _, _, _ => False
    | .builtin .cap, [x], t :: _ => match T.get t, viewOf s.hp (ev G s x) with
      | some ti, some v => match ti.slc, v.full with
        | true, true => v.lo ≤ v.rows.length ∧ putK s o.dst (.d (.int .i64 (v.rows.length - v.lo))) K
        | _, _ => False
      | _, _ => False
    | .builtin .copy, [x, y], [tx, _] => match T.get tx, viewOf s.hp (ev G s x), rowsOf s.hp (ev G s y) with
      | some ti, some v, some (e, rows2) => match ti.slc, Nat.beq v.e ti.esz, Nat.beq e ti.esz with
        | true, true, true => withS s fun sl hp => putK ⟨sl, upd hp v.id (v.splice v.lo (rows2.take v.n))⟩ o.dst .undef K
        | _, _, _ => False
      | _, _, _ => False
    | .builtin .clear, [x], [t] => match T.get t, viewOf s.hp (ev G s x), q with
      | some ti, some v, false => match ti.slc, Nat.beq v.e ti.esz with
        | true, true => withS s fun sl hp => putK ⟨sl, upd hp v.id (v.splice v.lo (List.replicate v.n ti.ezero))⟩ o.dst .undef K
        | _, _ => False
      | _, _, _ => False
    | _, _, _ => False
  | .convert src dst x => match T.get dst, T.get src, rowsOf s.hp (ev G s x) with
    | some ti, some si, some (e, rows) => match T.get si.elem, u8s rows with
      | some te, some l => match ti.str, si.slc, te.kind, Nat.beq e si.esz, Nat.beq e 1 with
        | true, true, some .u8, true, true => putK s o.dst (.d (.str ⟨l.toArray⟩)) K
        | _, _, _, _, _ => False
      | _, _ => False
    | _, _, _ => False
  | _ => False

/-- One operation. q: in a region that draws its order (no told results then). -/
def aOp0 (T : Tab) (G : Nat → V) (C : Ctr) (q : Bool) (o : Oper) (s : St) (K : St → Prop) : Prop :=
  let put (v : V) : Prop := putK s o.dst v K
  match o.op with
  | .move x => put (ev G s x)
  | .assign x => put (asgV T o.type x (ev G s x))
  | .pick c a b => match ev G s c with
    | .d (.bool c) => aIf c (put (ev G s a)) (put (ev G s b))
    | _ => False
  | .alloc t => match o.dst, T.get t with
    | some d, some ti => match s.hp d, ti.zero with
      | .none, _ :: _ => forceL (ti.zero.map .d) fun cs => withS s fun sl hp => K ⟨upd sl d (.ref d 0 0 0), upd hp d (.box cs)⟩
      | _, _ => False
    | _, _ => False
  | .box _ x => match o.dst with
    | some d => match s.hp d, ev G s x with
      | .none, .undef => False
      | .none, .tup _ => False
      | .none, v => forceL v.cells fun cs => withS s fun sl hp => K ⟨upd sl d (.ref d 0 0 0), upd hp d (.box cs)⟩
      | _, _ => False
    | none => False
  | .build t parts => match T.get t with
    | some ti => match ti.agg, fillFlds ti.flds (ti.zero.map .d) (parts.toList.map fun p => (p.1, ev G s p.2)) with
      | true, some cs => put (.agg cs)
      | _, _ => False
    | none => False
  | .load t a => match T.get t with
    | some ti => match ev G s a with
      | .ref id row esz off => match s.hp id with
        | .box cells => match Nat.ble (off + ti.size) cells.length, row with
          | true, 0 => put (mkV ti.agg ((cells.drop off).take ti.size))
          | _, _ => False
        | .arr _ e rows => match Nat.beq e esz with
          | true => ∃ r, rows[row]? = some r ∧ match Nat.ble (off + ti.size) r.length with
            | true => put (mkV ti.agg (((r.drop off).take ti.size).map .d))
            | false => False
          | false => False
        | _ => False
      | .d (.ptr cells) => match Nat.ble ti.size cells.length with
        | true => put (mkV ti.agg ((cells.take ti.size).map .d))
        | false => False
      | _ => False
    | none => False
  | .store t a x => match T.get t with
    | some ti => match ev G s a with
      | .ref id row esz off => match s.hp id, Nat.beq (ev G s x).cells.length ti.size with
        | .box cells, true => match Nat.ble (off + ti.size) cells.length, row, leavesB (ev G s x).cells with
          | true, 0, true => forceL (setCells cells off (ev G s x).cells) fun cs => withS s fun sl hp => putK ⟨sl, upd hp id (.box cs)⟩ o.dst .undef K
          | _, _, _ => False
        | .arr full e rows, true => match Nat.beq e esz, leafs (leaf0 (fun _ => .none)) (ev G s x).cells with
          | true, some l => ∃ r, rows[row]? = some r ∧ match Nat.ble (off + ti.size) r.length with
            | true => withS s fun sl hp => putK ⟨sl, upd hp id (.arr full e (rows.set row (r.take off ++ l ++ r.drop (off + ti.size))))⟩ o.dst .undef K
            | false => False
          | _, _ => False
        | _, _ => False
      | _ => False
    | none => False
  | .nilCheck x => match ev G s x with
    | .ref id r e f => put (.ref id r e f)
    | .d (.ptr cs) => put (.d (.ptr cs))
    | .d (.fn f cs) => put (.d (.fn f cs))
    | .clo f cs => put (.clo f cs)
    | _ => False
  | .binOp op t x y _ => match T.get t with
    | some ti => match q, nilCmp s.hp (ev G s x) y with
      | false, some (e, rows) => match ti.slc, Nat.beq e ti.esz with
        | true, true => nilK op rows put
        | _, _ => False
      | _, _ => binV ti.cmp ti.bool ti.zero op (ev G s x) (ev G s y) put
    | none => False
  | .unOp op _ x => match op, ev G s x with
    | .not, .d (.bool b) => put (.d (.bool (!b)))
    | .neg, .d (.int k n) => put (.d (.int k (k.wrap (0 - n))))
    | .xor, .d (.int k n) => put (.d (.int k (k.wrap ((BitVec.ofInt k.bits (if k.signed then -1 else k.max) ^^^ BitVec.ofInt k.bits n).toNat))))
    | _, _ => False
  | .convert src dst x => match T.get dst, T.get src with
    | some ti, some si => match ev G s x, ti.kind, si.kind with
      | .d (.int _ n), some k, some _ => put (.d (.int k (k.wrap n)))
      | _, _, _ => False
    | _, _ => False
  | .makeFunc (.func f) first captured => match first.toList with
    | [] => put (.clo f (captured.toList.map (ev G s)))
    | _ => False
  | .fieldAddr t x f => match T.get t with
    | some ti => match ti.agg, ev G s x, ti.flds[f]? with
      | true, .ref id row esz off, some (fo, _) => put (.ref id row esz (off + fo))
      | true, .d (.ptr cells), some (fo, _) => put (.d (.ptr (cells.drop fo)))
      | _, _, _ => False
    | none => False
  | .indexAddr t x i => match T.get t with
    | some ti => match ti.slc with
      | true => match ev G s x, ev G s i with
        | .own id, .d (.int _ n) => match s.hp id with
          | .arr _ e rows => match Nat.beq e ti.esz with
            | true => 0 ≤ n ∧ n.toNat < rows.length ∧ put (.ref id n.toNat e 0)
            | false => False
          | _ => False
        | .d (.slc _ e rows), .d (.int _ n) => match Nat.beq e ti.esz with
          | true => 0 ≤ n ∧ ∃ r, rows[n.toNat]? = some r ∧ put (.d (.ptr r))
          | false => False
        | .osl _ e rows, .d (.int _ n) => match Nat.beq e ti.esz with
          | true => 0 ≤ n ∧ ∃ r, rows[n.toNat]? = some r ∧ put (.d (.ptr r))
          | false => False
        | _, _ => False
      | false => False
    | none => False
  | .index t x i => match ev G s x, ev G s i with
    | .d (.str b), .d (.int _ n) => match T.get t with
      | some ti => match ti.str with
        | true => 0 ≤ n ∧ n < b.size ∧ put (.d (.int .u8 (byteAt b n)))
        | false => False
      | none => False
    | _, _ => False
  | .extract x i => match ev G s x with
    | .tup vs => match vs[i]? with | some v => put v | none => False
    | _ => False
  | .buildSlice t len parts => match T.get t with
    | some ti => match ti.slc, aOp.leafRows (parts.toList.map fun p => ev G s p.2) with
      | true, some rows => match Nat.beq rows.length len, decide (parts.toList.map (·.1) = List.range len), rows.all (fun r => Nat.beq r.length ti.esz), Nat.ble (len * ti.esz) (2 ^ 24) with
        | true, true, true, true => match ownB C o with
          | false => put (.d (.slc true ti.esz rows))
          | true => match o.dst with
            | some d => match s.hp d with
              | .none => withS s fun sl hp => K ⟨upd sl d (.own d), upd hp d (.arr true ti.esz rows)⟩
              | _ => False
            | none => False
        | _, _, _, _ => False
      | _, _ => False
    | none => False
  | .makeSlice t l c => match T.get t with
    | some ti => match ti.slc, ev G s l, ev G s c, o.dst with
      | true, .d (.int _ n), .d (.int _ m), some d => match s.hp d with
        | .none => n = m ∧ 0 ≤ n ∧ n * ti.ebytes ≤ 2 ^ 47 ∧ n ≤ 2 ^ 47 ∧ withS s fun sl hp => K ⟨upd sl d (.own d), upd hp d (.arr true ti.esz (List.replicate n.toNat ti.ezero))⟩
        | _ => False
      | _, _, _, _ => False
    | none => False
  | .slice t x lo hi mx => match q, ownB C o with
    | false, true => aClip T G s o.dst t x lo hi mx K
    | _, _ => match frz q s x with
      | some s2 => aSlice T G s2 o.dst t x lo hi mx K
      | none => aSlice T G s o.dst t x lo hi mx K
  | .call c => match c.callee with
    | .builtin .len => match c.args.toList, c.argTypes.toList with
      | [x], t :: _ => match T.get t with
        | some ti => match ti.str, ti.slc, ev G s x with
          | true, _, .d (.str b) => put (.d (.int .i64 b.size))
          | _, true, v => match rowsOf s.hp v with
            | some (_, rows) => lenK q rows.length (put (.d (.int .i64 rows.length)))
            | none => False
          | _, _, _ => False
        | none => False
      | _, _ => False
    | .builtin .cap => match c.args.toList, c.argTypes.toList with
      | [x], t :: _ => match T.get t with
        | some ti => match ti.slc, ev G s x with
          | true, .d (.slc true _ rows) => put (.d (.int .i64 rows.length))
          | _, _ => False
        | none => False
      | _, _ => False
    | .builtin .min => match c.args.toList with
      | [x, y] => match ev G s x, ev G s y with
        | .d (.int k n), .d (.int _ m) => put (.d (.int k (if m < n then m else n)))
        | _, _ => False
      | _ => False
    | .builtin .append => match c.args.toList, c.argTypes.toList, o.dst with
      | [x, y], [tx, ty], some d => match T.get tx, T.get ty with
        | some ti, some tj => match ti.slc, tj.slc, rowsOf s.hp (ev G s y) with
          | true, true, some (e2, rows2) => match Nat.beq e2 ti.esz && Nat.beq tx ty, ev G s x with
            | true, .d (.slc true e rows) => match s.hp d, Nat.beq e ti.esz with
              | .none, true => match C.own d, rows with
                | true, [] => rows2.length * ti.ebytes ≤ 2 ^ 47 ∧ rows2.length ≤ 2 ^ 47 ∧ withS s fun sl hp => K ⟨upd sl d (.own d), upd hp d (.arr false e rows2)⟩
                | _, rows => (rows.length + rows2.length) * ti.ebytes ≤ 2 ^ 47 ∧ rows.length + rows2.length ≤ 2 ^ 47 ∧
                  withS s fun sl hp => K ⟨upd sl d (.osl d e (rows ++ rows2)), upd hp d (.grow e (rows.length + rows2.length))⟩
              | _, _ => False
            | true, .osl tok e rows => match s.hp tok, Nat.beq e ti.esz with
              | .grow _ n, true => n = rows.length ∧ (rows.length + rows2.length) * ti.ebytes ≤ 2 ^ 47 ∧ rows.length + rows2.length ≤ 2 ^ 47 ∧
                  withS s fun sl hp => K ⟨upd sl d (.osl tok e (rows ++ rows2)), upd hp tok (.grow e (rows.length + rows2.length))⟩
              | _, _ => False
            | _, _ => False
          | _, _, _ => False
        | _, _ => False
      | _, _, _ => False
    | .value f => match ev G s f with
      | .d (.fn fid caps) => match C.kind fid with
        | true => match q with
          | true => match ownB C o with
            | true => match f, o.dst with
              | .func _, some d => match s.hp d, plains (c.args.toList.map (ev G s)) with
                | .none, true => ∃ ob, C.heap fid (hpOf []) (c.args.toList.map (ev G s) ++ caps.map .d) (fun r l => r = .own d ∧ l = [(d, ob)]) ∧
                  match ob with
                  | .arr .. => withS s fun sl hp => K ⟨upd sl d (.own d), upd hp d ob⟩
                  | _ => False
                | _, _ => False
              | _, _ => False
            | false => match C.ro fid with
              | true => ∃ hin r, C.heap fid (hpOf hin) (c.args.toList.map (ev G s) ++ caps.map .d) (fun r' l => r' = r ∧ l = hin) ∧ weakHp s (hin.map (·.1)) hin ∧
                okVs (hin.map (·.1)) (c.args.toList.map (ev G s)) = true ∧ okV (hin.map (·.1)) r = true ∧ (hin.all fun p => ((c.args.toList.map (ev G s)).flatMap (idsV s.hp)).contains p.1) = true ∧ putK s o.dst r K
              | false => match f, c.args.toList.map (ev G s) with
                | .func _, .ref id 0 0 0 :: as => match s.hp id with
                  | .box cells => ∃ r cells', C.heap fid (hpOf [(id, .box cells)]) ((.ref id 0 0 0 :: as) ++ caps.map .d) (fun r' l => r' = r ∧ l = [(id, .box cells')]) ∧
                    match plains as, plains cells, r.plain, plains cells' with
                    | true, true, true, true => withS s fun sl hp => putK ⟨sl, upd hp id (.box cells')⟩ o.dst r K
                    | _, _, _, _ => False
                  | _ => False
                | .func _, .own id :: as => match s.hp id with
                  | .arr fl e rows => ∃ r, C.heap fid (hpOf [(id, .arr fl e rows)]) ((.own id :: as) ++ caps.map .d) (fun r' l => r' = r ∧ l = [(id, .dead)]) ∧
                    match plains as, r.plain with
                    | true, true => withS s fun sl hp => putK ⟨sl, upd hp id .dead⟩ o.dst r K
                    | _, _ => False
                  | _ => False
                | _, _ => False
          | false => ∃ hin φ, C.heap fid (hpOf hin) (c.args.toList.map (ev G s) ++ caps.map .d) φ ∧ weakHp s (hin.map (·.1)) hin ∧ okVs (hin.map (·.1)) (c.args.toList.map (ev G s)) = true ∧
            ∀ r l, φ r l → freshHp s (hin.map (·.1)) l ∧ withS s fun sl hp => putK ⟨sl, overlay hp l⟩ o.dst r K
        | false => match pureVs s.hp (c.args.toList.map (ev G s)) with
          | some args => match q with
            | true => ∃ r, C.pure fid (args ++ caps.map .d) (· = r) ∧ match r.scalar with
              | true => putK s o.dst r K
              | false => match (c.args.toList.map (ev G s)).flatMap (idsV s.hp), r.plain with
                | [], true => putK s o.dst r K
                | _, _ => False
            | false => ∃ φ, C.pure fid (args ++ caps.map .d) φ ∧ ∀ r, φ r → match r.scalar with
              | true => putK s o.dst r K
              | false => match C.lend fid with
                | true => putK s o.dst r.forget K
                | false => forceN ((c.args.toList.map (ev G s)).flatMap (idsV s.hp)) fun ids => withS s fun sl hp => putK ⟨sl, Eng.kill hp ids⟩ o.dst r K
          | none => False
      | _ => False
    | _ => False
  | _ => False

def aOp (T : Tab) (G : Nat → V) (C : Ctr) (q : Bool) (o : Oper) (s : St) (K : St → Prop) : Prop :=
  match vwB G C o s with
  | true => aVw T G C q o s K
  | false => aOp0 T G C q o s K

/-- The operation, if its guard lets it. -/
def aStep (T : Tab) (G : Nat → V) (C : Ctr) (q : Bool) (ops : Array Oper) (o : Oper) (s : St) (K : St → Prop) : Prop :=
  match o.guard with
  | none => aOp T G C q o s K
  | some (j, want) => match (ops[j]?).bind (·.dst) with
    | some g => match s.sl g with
      | .d (.bool b) => aIf b (match want with | true => aOp T G C q o s K | false => putK s o.dst (.tup []) K) (match want with | false => aOp T G C q o s K | true => putK s o.dst (.tup []) K)
      | .tup [] => putK s o.dst (.tup []) K
      | _ => False
    | none => False

def aOps (T : Tab) (G : Nat → V) (C : Ctr) (q : Bool) (ops : Array Oper) : List Oper → St → (St → Prop) → Prop
  | [], s, K => K s
  | o :: r, s, K => aStep T G C q ops o s fun s' => aOps T G C q ops r s' K

/-- What writes objects that were there. -/
def isW (kd : FuncId → Bool) : Op → Bool
  | .store .. => true
  | .call c => match c.callee with
    | .value (.func f) => kd f
    | .builtin .append => true
    | .builtin .copy => true
    | .builtin .clear => true
    | _ => false
  | _ => false
def bindsB (e : Edge) : Bool := match e.ground with | .textOnly _ => false | .gcOnly _ => false | _ => true
def maskOf (ms : List Nat) : List Edge → Nat
  | [] => 0
  | e :: r => match bindsB e with | true => Nat.lor (Nat.lor (2 ^ e.on) (ms.getD e.on 0)) (maskOf ms r) | false => maskOf ms r
/-- For each operation those that come before it in each order. -/
def masks : List Oper → List Nat → List Nat
  | [], acc => acc
  | o :: r, acc => masks r (acc ++ [maskOf acc o.after.toList])
/-- Pairs in no order, one of them a store. -/
def specialsOf (kd : FuncId → Bool) (ops : List Oper) : List (Nat × Nat) :=
  let ms := masks ops []
  (List.range ops.length).flatMap fun i => (List.range i).filter (fun j => match ops[i]?, ops[j]? with
    | some o, some x => !(ms.getD i 0).testBit j && (isW kd o.op || isW kd x.op)
    | _, _ => false) |>.map fun j => (j, i)
/-- What does not look at objects, though it may be given their places. -/
def heedless : Op → Bool
  | .move _ => true
  | .assign _ => true
  | .nilCheck _ => true
  | .fieldAddr .. => true
  | _ => false
def touch (G : Nat → V) (s : St) (o : Oper) : List Nat :=
  match heedless o.op with
  | true => []
  | false => o.op.operands.toList.flatMap fun x => idsT s.hp (ev G s x)
def disj (xs ys : List Nat) : Bool := xs.all fun x => !ys.contains x
def disjB (ts : List (List Nat)) (ps : List (Nat × Nat)) : Bool := ps.all fun p => disj (ts.getD p.1 []) (ts.getD p.2 [])
def aOpsT (T : Tab) (G : Nat → V) (C : Ctr) (ops : Array Oper) (ps : List (Nat × Nat)) : List (List Nat) → List Oper → St → (St → Prop) → Prop
  | acc, [], s, K => match disjB acc.reverse ps with | true => K s | false => False
  | acc, o :: r, s, K => aStep T G C true ops o s fun s' => aOpsT T G C ops ps (touch G s o :: acc) r s' K
/-- A region that draws its order. -/
def aDraw (T : Tab) (G : Nat → V) (C : Ctr) (ops : Array Oper) (s : St) (K : St → Prop) : Prop :=
  match ops.toList.any (fun o => isW C.wr o.op) with
  | false => aOps T G C true ops ops.toList s K
  | true => aOpsT T G C ops (specialsOf C.wr ops.toList) [] ops.toList s K

inductive Ex where
  | normal
  | exit (id : Nat)
  | ret

def Ex.seq (k : St → Prop) (Q : Ex → St → Prop) : Ex → St → Prop
  | .normal, s => k s
  | e, s => Q e s
def Ex.block (id : Nat) (Q : Ex → St → Prop) : Ex → St → Prop
  | .exit i, s => match Nat.beq i id with | true => Q .normal s | false => Q (.exit i) s
  | e, s => Q e s

/-- A state given by lists: what is known of slots, and the objects. -/
structure SL where
  sl : List (Nat × V)
  hp : List (Nat × Obj) := []

def SL.st (l : SL) : St := ⟨look .undef l.sl, look .none l.hp⟩

def weakSl (s : St) (ids : List Nat) : List (Nat × V) → Prop
  | [] => True
  | (k, v) :: r => s.sl k = v ∧ okV ids v = true ∧ weakSl s ids r
/-- A state that knows at least what the lists say. -/
def keepB (kp : List Nat) (l : SL) : Bool := kp.all fun i => (l.hp.map (·.1)).contains i
def Weak (kp : List Nat) (s : St) (l : SL) : Prop := weakSl s (l.hp.map (·.1)) l.sl ∧ weakHp s (l.hp.map (·.1)) l.hp ∧ keepB kp l = true

def aWp (T : Tab) (G : Nat → V) (C : Ctr) : Code → (Ex → St → Prop) → St → Prop
  | .skip, Q, s => Q .normal s
  | .region _ ops draw, Q, s => match draw with
    | false => aOps T G C false ops ops.toList s (Q .normal)
    | true => aDraw T G C ops s (Q .normal)
  | .seq a b, Q, s => aWp T G C a (Ex.seq (aWp T G C b Q) Q) s
  | .cond c a b, Q, s => match ev G s c with
    | .d (.bool b') => aIf b' (aWp T G C a Q s) (aWp T G C b Q s)
    | _ => False
  | .block id b, Q, s => aWp T G C b (Ex.block id Q) s
  | .loop b, Q, s => ∃ (ι : Type) (I : ι → SL) (m : ι → Nat) (x0 : ι), Weak C.keep s (I x0) ∧
      ∀ x, aWp T G C b (Ex.seq (fun s' => ∃ y, m y < m x ∧ Weak C.keep s' (I y)) Q) (I x).st
  | .exit id, Q, s => Q (.exit id) s
  | .ret, Q, s => Q .ret s
  | _, _, _ => False

end Go.Proofs.YtdfneaponidfgaaDoor.Eng
/- The engine, part C: the table of types holds; what Rel says is kept. -/
set_option linter.unusedVariables false
set_option linter.unusedSimpArgs false
namespace Go.Proofs.YtdfneaponidfgaaDoor.Eng
open Go

def zeroB : D → Value → Bool
  | .bool a, .bool b => a == b
  | .int k a, .int k' b => k == k' && a == b
  | .str a, .string b => a.size == 0 && b.size == 0
  | .slc true _ [], .slice none 0 0 => true
  | .nilp, .pointer none => true
  | .nilfn, .nilFunc => true
  | _, _ => false
def zerosB : List D → List Value → Bool
  | [], [] => true
  | x :: xs, v :: vs => zeroB x v && zerosB xs vs
  | _, _ => false
def fldsB (P : Program) (m : Nat) : List Field → List (Nat × Nat) → Bool
  | [], [] => true
  | f :: fs, (o, n) :: r => f.offset == o && n != 0 && (match P.info? f.type with | some i => i.size == n | none => false) && Nat.ble (o + n) m && fldsB P m fs r
  | _, _ => false
def tiB (P : Program) (t : Nat) (ti : TI) : Bool :=
  match P.info? t, P.underlying t with
  | some i, some d =>
    i.size == ti.size && i.bytes == ti.bytes && (ti.agg || ti.size != 0) &&
    (ti.zero.isEmpty || match i.zero with | some z => zerosB ti.zero z.cells.toList | none => false) &&
    (match d with
     | .struct fs => !ti.zero.isEmpty && !ti.bool && ti.agg && ti.kind.isNone && !ti.slc && !ti.str && fldsB P ti.zero.length fs.toList ti.flds
     | .slice e => !ti.bool && !ti.agg && ti.kind.isNone && ti.slc && !ti.str && !ti.cmp && e == ti.elem && ti.esz != 0 &&
        (match P.info? e with
         | some ie => ie.size == ti.esz && ie.bytes == ti.ebytes && (match ie.zero with | some z => zerosB ti.ezero z.cells.toList && z.cells.size == ti.esz | none => false)
         | none => false)
     | .int k => !ti.bool && !ti.agg && !ti.slc && !ti.str && !ti.cmp && ti.kind == some k
     | .bool => ti.bool && !ti.agg && !ti.slc && !ti.str && !ti.cmp && ti.kind.isNone
     | .string => !ti.bool && !ti.agg && !ti.slc && ti.str && !ti.cmp && ti.kind.isNone
     | .array .. => false
     | _ => !ti.bool && !ti.agg && !ti.slc && !ti.str && !ti.cmp && ti.kind.isNone)
  | _, _ => false
def tabB (P : Program) : Tab → Bool
  | [] => true
  | (t, ti) :: r => tiB P t ti && tabB P r

structure TIok (P : Program) (t : Nat) (ti : TI) : Prop where
  one : ti.agg = false → ti.size ≠ 0
  nz : ti.agg = true → ti.zero ≠ []
  info : ∃ i, P.info? t = some i ∧ i.size = ti.size ∧ i.bytes = ti.bytes ∧ (ti.zero ≠ [] → ∃ z, i.zero = some z ∧ zerosB ti.zero z.cells.toList = true)
  und : ∃ d, P.underlying t = some d ∧ ((match d with | .struct _ | .array _ _ => true | _ => false) = ti.agg)
  flds : ti.agg = true → ∃ fs : Array Field, P.underlying t = some (.struct fs) ∧ ∀ (f fo n : Nat), ti.flds[f]? = some (fo, n) →
    ∃ fl, fs[f]? = some fl ∧ fl.offset = fo ∧ n ≠ 0 ∧ (∃ i, P.info? fl.type = some i ∧ i.size = n) ∧ fo + n ≤ ti.zero.length
  nflds : ti.agg = true → ∃ fs : Array Field, P.underlying t = some (.struct fs) ∧ fs.size = ti.flds.length
  slc : ti.slc = true → P.underlying t = some (.slice ti.elem) ∧ ti.esz ≠ 0 ∧ ∃ i, P.info? ti.elem = some i ∧ i.size = ti.esz ∧ i.bytes = ti.ebytes ∧
    ∃ z, i.zero = some z ∧ zerosB ti.ezero z.cells.toList = true ∧ z.cells.size = ti.esz
  str : ti.str = true → P.underlying t = some .string
  kind : ∀ k, ti.kind = some k → P.underlying t = some (.int k)
  cmp : ti.cmp = true → ti.agg = true
  bool : ti.bool = true → P.underlying t = some .bool

theorem fldsB_ok {P : Program} {m : Nat} : ∀ (fs : List Field) (l : List (Nat × Nat)), fldsB P m fs l = true → ∀ (f fo n : Nat), l[f]? = some (fo, n) →
    ∃ fl, fs[f]? = some fl ∧ fl.offset = fo ∧ n ≠ 0 ∧ (∃ i, P.info? fl.type = some i ∧ i.size = n) ∧ fo + n ≤ m
  | [], [], _, f, fo, n, h => by simp at h
  | x :: fs, (o, k) :: r, hb, f, fo, n, h => by
    simp only [fldsB, Bool.and_eq_true] at hb
    obtain ⟨⟨⟨⟨h1, h2⟩, h3⟩, h5⟩, h4⟩ := hb
    cases f with
    | zero =>
      simp only [List.getElem?_cons_zero, Option.some.injEq, Prod.mk.injEq] at h
      obtain ⟨rfl, rfl⟩ := h
      refine ⟨x, rfl, by simpa using h1, by simpa using h2, ?_, Nat.le_of_ble_eq_true h5⟩
      cases hi : P.info? x.type with
      | none => simp [hi] at h3
      | some i => exact ⟨i, rfl, by simpa [hi] using h3⟩
    | succ f => exact fldsB_ok fs r h4 f fo n (by simpa using h)
  | [], _ :: _, hb, _, _, _, _ => by simp [fldsB] at hb
  | _ :: _, [], hb, _, _, _, _ => by simp [fldsB] at hb

theorem fldsB_len {P : Program} {m : Nat} : ∀ (fs : List Field) (l : List (Nat × Nat)), fldsB P m fs l = true → fs.length = l.length
  | [], [], _ => rfl
  | x :: fs, (o, k) :: r, hb => by
    simp only [fldsB, Bool.and_eq_true] at hb
    simp [fldsB_len fs r hb.2]
  | [], _ :: _, hb => by simp [fldsB] at hb
  | _ :: _, [], hb => by simp [fldsB] at hb

theorem tiB_ok {P : Program} {t : Nat} {ti : TI} (h : tiB P t ti = true) : TIok P t ti := by
  unfold tiB at h
  cases hi : P.info? t with
  | none => simp [hi] at h
  | some i =>
    cases hu : P.underlying t with
    | none => simp [hi, hu] at h
    | some d =>
      simp only [hi, hu, Bool.and_eq_true] at h
      obtain ⟨⟨⟨⟨h1, h2⟩, h2'⟩, h3⟩, h4⟩ := h
      have hone : ti.agg = false → ti.size ≠ 0 := fun hg => by simpa [hg] using h2'
      have hinfo : ∃ i', P.info? t = some i' ∧ i'.size = ti.size ∧ i'.bytes = ti.bytes ∧ (ti.zero ≠ [] → ∃ z, i'.zero = some z ∧ zerosB ti.zero z.cells.toList = true) := by
        refine ⟨i, hi, by simpa using h1, by simpa using h2, fun hz => ?_⟩
        simp only [Bool.or_eq_true] at h3
        rcases h3 with h3 | h3
        · exact absurd (by simpa using h3) hz
        · cases hzz : i.zero with
          | none => simp [hzz] at h3
          | some z => exact ⟨z, rfl, by simpa [hzz] using h3⟩
      cases d with
      | struct fs =>
        simp only [Bool.and_eq_true, Bool.not_eq_true', Option.isNone_iff_eq_none] at h4
        obtain ⟨⟨⟨⟨⟨⟨az, a0⟩, a1⟩, a2⟩, a3⟩, a4⟩, a5⟩ := h4
        refine ⟨hone, fun _ => by simpa using az, hinfo, ⟨_, hu, a1.symm⟩, fun _ => ⟨fs, hu, fun f fo n hf => ?_⟩, fun _ => ⟨fs, hu, by simpa using fldsB_len _ _ a5⟩, by simp [a3], by simp [a4], by simp [a2], fun _ => a1, by simp [a0]⟩
        obtain ⟨fl, b1, b2⟩ := fldsB_ok _ _ a5 f fo n hf
        exact ⟨fl, by simpa using b1, b2⟩
      | slice e =>
        simp only [Bool.and_eq_true, Bool.not_eq_true', Option.isNone_iff_eq_none, beq_iff_eq, bne_iff_ne] at h4
        obtain ⟨⟨⟨⟨⟨⟨⟨⟨a0, a1⟩, a2⟩, a3⟩, a4⟩, a4'⟩, a5⟩, a6⟩, a7⟩ := h4
        refine ⟨hone, by simp [a1], hinfo, ⟨_, hu, a1.symm⟩, by simp [a1], by simp [a1], fun _ => ⟨by rw [hu, a5], a6, ?_⟩, by simp [a4], by simp [a2], by simp [a4'], by simp [a0]⟩
        subst a5
        cases hie : P.info? ti.elem with
        | none => simp [hie] at a7
        | some ie =>
          simp only [hie, Bool.and_eq_true, beq_iff_eq] at a7
          obtain ⟨⟨b1, b2⟩, b3⟩ := a7
          refine ⟨ie, rfl, b1, b2, ?_⟩
          cases hzz : ie.zero with
          | none => simp [hzz] at b3
          | some z =>
            simp only [hzz, Bool.and_eq_true, beq_iff_eq] at b3
            exact ⟨z, rfl, b3⟩
      | int k =>
        simp only [Bool.and_eq_true, Bool.not_eq_true', beq_iff_eq] at h4
        obtain ⟨⟨⟨⟨⟨a0, a1⟩, a2⟩, a3⟩, a3'⟩, a4⟩ := h4
        refine ⟨hone, by simp [a1], hinfo, ⟨_, hu, a1.symm⟩, by simp [a1], by simp [a1], by simp [a2], by simp [a3], fun k' hk => ?_, by simp [a3'], by simp [a0]⟩
        rw [a4] at hk; injection hk with hk; subst hk; exact hu
      | string =>
        simp only [Bool.and_eq_true, Bool.not_eq_true', Option.isNone_iff_eq_none] at h4
        obtain ⟨⟨⟨⟨⟨a0, a1⟩, a2⟩, a3⟩, a3'⟩, a4⟩ := h4
        exact ⟨hone, by simp [a1], hinfo, ⟨_, hu, a1.symm⟩, by simp [a1], by simp [a1], by simp [a2], fun _ => hu, by simp [a4], by simp [a3'], by simp [a0]⟩
      | bool =>
        simp only [Bool.and_eq_true, Bool.not_eq_true', Option.isNone_iff_eq_none] at h4
        obtain ⟨⟨⟨⟨⟨a0, a1⟩, a2⟩, a3⟩, a3'⟩, a4⟩ := h4
        exact ⟨hone, by simp [a1], hinfo, ⟨_, hu, a1.symm⟩, by simp [a1], by simp [a1], by simp [a2], by simp [a3], by simp [a4], by simp [a3'], fun _ => hu⟩
      | array n e => simp at h4
      | _ =>
        simp only [Bool.and_eq_true, Bool.not_eq_true', Option.isNone_iff_eq_none] at h4
        obtain ⟨⟨⟨⟨⟨a0, a1⟩, a2⟩, a3⟩, a3'⟩, a4⟩ := h4
        exact ⟨hone, by simp [a1], hinfo, ⟨_, hu, a1.symm⟩, by simp [a1], by simp [a1], by simp [a2], by simp [a3], by simp [a4], by simp [a3'], by simp [a0]⟩

theorem tab_ok {P : Program} : ∀ {T : Tab}, tabB P T = true → ∀ {t : Nat} {ti : TI}, T.get t = some ti → TIok P t ti
  | [], _, t, ti, h => by simp [Tab.get] at h
  | (k, i) :: r, hb, t, ti, h => by
    simp only [tabB, Bool.and_eq_true] at hb
    unfold Tab.get at h
    split at h
    · rename_i hk
      obtain rfl := Nat.eq_of_beq_eq_true hk
      injection h with h
      subst h
      exact tiB_ok hb.1
    · exact tab_ok hb.2 h

theorem zeroB_rep {x : D} {v : Value} (h : zeroB x v = true) (w : World) (imm : Imm) : RepD w imm x v := by
  unfold zeroB at h
  split at h
  · simp only [beq_iff_eq] at h; subst h; exact .bool _
  · simp only [Bool.and_eq_true, beq_iff_eq] at h; obtain ⟨rfl, rfl⟩ := h; exact .int _ _
  · rename_i a b
    simp only [Bool.and_eq_true, beq_iff_eq] at h
    have : a = b := by
      obtain ⟨⟨a⟩⟩ := a; obtain ⟨⟨b⟩⟩ := b
      obtain ⟨h1, h2⟩ := h
      simp [ByteArray.size] at h1 h2
      subst h1; subst h2; rfl
    subst this; exact .str _
  · rename_i e
    exact .slc true e [] none 0 (fun _ _ => default) (by simp) (by simp) (by simp) (by simp) (by simp) (by simp) (by simp)
  · exact .nilp
  · exact .nilfn
  · simp at h

theorem zerosB_reps (w : World) (g : Gh) (hp : Nat → Obj) : ∀ (xs : List D) (vs : List Value), zerosB xs vs = true → RepVs w g hp (xs.map .d) vs
  | [], [], _ => by simp [RepVs]
  | x :: xs, v :: vs, h => by
    simp only [zerosB, Bool.and_eq_true] at h
    simp only [List.map_cons, RepVs]
    exact ⟨v, vs, rfl, by simpa only [RepV] using zeroB_rep h.1 w g.imm, zerosB_reps w g hp xs vs h.2⟩
  | [], _ :: _, h => by simp [zerosB] at h
  | _ :: _, [], h => by simp [zerosB] at h

end Go.Proofs.YtdfneaponidfgaaDoor.Eng
/- The engine, part D: operations that change no object. -/
set_option linter.unusedVariables false
set_option linter.unusedSimpArgs false
namespace Go.Proofs.YtdfneaponidfgaaDoor.Eng
open Go

variable {E : Env} {s : St} {a : Act} {w : World} {g : Gh} {T : Tab} {C : Ctr} {q : Bool} {o : Oper} {K : St → Prop}

theorem rel_cv (w : World) (g : Gh) (hp : Nat → Obj) (v : Value) : RepV w g hp (cv v) v := by
  unfold cv
  split <;> simp only [RepV]
  · exact .bool _
  · exact .int _ _
  · exact .str _
  · exact .slc true 0 [] none 0 (fun _ _ => default) (by simp) (by simp) (by simp) (by simp) (by simp) (by simp) (by simp)
  · exact .nilp
  · exact .nilfn

theorem rel_ev (h : Rel E s a w g) (x : Operand) : RepV w g s.hp (ev E.glob s x) (a.eval x) := by
  cases x with
  | tmp t => exact h.slots t
  | const v => exact rel_cv _ _ _ _
  | global k => exact RepP.to rfl s.hp _ _ (h.globs k)
  | func f =>
    simp only [ev, Act.eval, RepV]
    exact .fn f [] [] rfl (by simp)

theorem rel_put (h : Rel E s a w g) {dst : Option Tmp} {v : V} {u : Value} (hv : RepV w g s.hp v u) (hd : ∀ d, dst = some d → d < E.nt) :
    Rel E (s.app dst v) (a.put dst u) w g := by
  cases dst with
  | none => exact h
  | some d =>
    have hd := hd d rfl
    refine { h with slots := fun t => ?_, nt := by simp [Act.put, h.nt], defers := h.defers }
    simp only [St.app, Act.put, upd_eq]
    by_cases ht : t = d
    · subst ht
      have : t < a.tmps.size := by rw [h.nt]; exact hd
      simp [Array.getD, this, hv]
    · simp only [ht, if_false]
      have := h.slots t
      simpa [Array.getD_eq_getD_getElem?, Array.getElem?_setIfInBounds_ne (fun e => ht e.symm)] using this

/-- What a sound operation gives. -/
def OpOk (E : Env) (o : Oper) (a : Act) (w : World) (K : St → Prop) : Prop :=
  ∀ (next : Act → World → Prop) (Q : Exit → Act → World → Prop), (∀ s' a' w' g', K s' → Rel E s' a' w' g' → next a' w') → o.wp E.P a w next Q

theorem op_value {u : Value} {w' : World} {g' : Gh} {s' : St} (hr : (execOp a.eval o).run E.P w = .ok (.value u) w') (hK : K s') (h : Rel E s' (a.put o.dst u) w' g') : OpOk E o a w K := by
  intro next Q hn
  unfold Oper.wp
  rw [hr]
  exact hn _ _ _ _ hK h
theorem op_skip {w' : World} {g' : Gh} {s' : St} (hr : (execOp a.eval o).run E.P w = .ok .skip w') (hK : K s') (h : Rel E s' (a.put o.dst Go.undef) w' g') : OpOk E o a w K := by
  intro next Q hn
  unfold Oper.wp
  rw [hr]
  exact hn _ _ _ _ hK h

/-- A slot alone is written. -/
theorem op_put (h : Rel E s a w g) (hd : ∀ d, o.dst = some d → d < E.nt) {v : V} {u : Value} (hr : (execOp a.eval o).run E.P w = .ok (.value u) w)
    (hv : RepV w g s.hp v u) (hK : putK s o.dst v K) : OpOk E o a w K := by
  rw [putK_eq] at hK
  exact op_value hr hK (rel_put h hv hd)

theorem repV_bool {hp : Nat → Obj} {b : Bool} {u : Value} (h : RepV w g hp (.d (.bool b)) u) : u = .bool b := by
  simp only [RepV] at h; cases h; rfl
theorem repV_int {hp : Nat → Obj} {k : IntKind} {n : Int} {u : Value} (h : RepV w g hp (.d (.int k n)) u) : u = .int k n := by
  simp only [RepV] at h; cases h; rfl
theorem repV_str {hp : Nat → Obj} {b : ByteArray} {u : Value} (h : RepV w g hp (.d (.str b)) u) : u = .string b := by
  simp only [RepV] at h; cases h; rfl
theorem repV_mkbool (hp : Nat → Obj) (b : Bool) : RepV w g hp (.d (.bool b)) (.bool b) := by simp only [RepV]; exact .bool _
theorem repV_mkint (hp : Nat → Obj) (k : IntKind) (n : Int) : RepV w g hp (.d (.int k n)) (.int k n) := by simp only [RepV]; exact .int _ _
theorem repV_mkstr (hp : Nat → Obj) (b : ByteArray) : RepV w g hp (.d (.str b)) (.string b) := by simp only [RepV]; exact .str _

theorem rowsOf_len {hp : Nat → Obj} {v : V} {u : Value} {e : Nat} {rows : List (List D)} (ho : ∀ id, ObjRep w g hp id (hp id)) (h : RepV w g hp v u) (hr : rowsOf hp v = some (e, rows)) :
    ∃ A c, u = .slice A rows.length c ∧ rows.length ≤ c ∧ rows.length ≤ 281474976710656 := by
  unfold rowsOf at hr
  split at hr
  · injection hr with hr; injection hr with h1 h2; subst h1; subst h2
    simp only [RepV] at h
    cases h with
    | slc full esz rows A c vals hc hn hf hrow hA hcell hrep => exact ⟨A, c, rfl, hc, by omega⟩
  · injection hr with hr; injection hr with h1 h2; subst h1; subst h2
    simp only [RepV] at h
    obtain ⟨_, h, _⟩ := h
    cases h with
    | slc full esz rows A c vals hc hn hf hrow hA hcell hrep => exact ⟨A, c, rfl, hc, by omega⟩
  · rename_i id
    split at hr
    · rename_i full e' rows' hid
      injection hr with hr; injection hr with h1 h2; subst h1; subst h2
      simp only [RepV] at h
      have := ho id
      rw [hid] at this
      obtain ⟨A, c, h1, h2, h3, _⟩ := this
      exact ⟨A, c, by rw [h.2.1, h1], h2, by omega⟩
    · simp at hr
  · rename_i id e' lo n
    split at hr
    · rename_i full e2 rows' hid
      split at hr
      · injection hr with hr; injection hr with h1 h2; subst h1; subst h2
        simp only [RepV] at h
        have := ho id
        rw [hid] at this
        obtain ⟨A, c, h1, h2, h3, _⟩ := this
        obtain ⟨_, _, A1, N, c1, A', q1, q2, q3, q4⟩ := h
        rw [h1] at q1
        injection q1 with q1 q5 q6
        subst q5; subst q6
        have hl : ((rows'.drop lo).take n).length = n := by simp; omega
        rw [hl]
        exact ⟨A', c - lo, q3, by omega, by omega⟩
      · simp at hr
    · simp at hr
  · simp at hr

theorem sound_move {x : Operand} (ho : o.op = .move x ∨ o.op = .assign x) (h : Rel E s a w g) (hd : ∀ d, o.dst = some d → d < E.nt)
    (hk : putK s o.dst (ev E.glob s x) K) : OpOk E o a w K := by
  refine op_put h hd ?_ (rel_ev h x) hk
  unfold execOp
  rcases ho with ho | ho <;> rw [ho] <;> rfl

theorem sound_pick {c x y : Operand} (ho : o.op = .pick c x y) (h : Rel E s a w g) (hd : ∀ d, o.dst = some d → d < E.nt)
    (hk : match ev E.glob s c with | .d (.bool b) => aIf b (putK s o.dst (ev E.glob s x) K) (putK s o.dst (ev E.glob s y) K) | _ => False) : OpOk E o a w K := by
  have hc := rel_ev h c
  split at hk
  · rename_i b hb
    rw [hb] at hc
    have hc := repV_bool hc
    refine op_put h hd (v := if b then ev E.glob s x else ev E.glob s y) (u := if b then a.eval x else a.eval y) ?_ ?_ ?_
    · unfold execOp; rw [ho]; simp [hc, asBool]
    · cases b <;> simp [rel_ev h]
    · cases b <;> simpa [aIf] using hk
  · exact hk.elim

theorem ibeq (x y : Int) : (x == y) = decide (x = y) := rfl

theorem intOp_sound {op : BinOp} {k : IntKind} {x y : Int} {K' : V → Prop} (hk : intOp op k x y K') :
    ∃ v u, K' v ∧ (∀ (w : World) (g : Gh) (hp : Nat → Obj), RepV w g hp v u) ∧ ∀ (P : Program) (t : TypeId) (w : World), (binOp op t (.int k x) (.int k y)).run P w = .ok u w := by
  unfold intOp at hk
  split at hk <;> first | exact hk.elim | skip
  · exact ⟨_, _, hk, fun _ _ _ => repV_mkint _ _ _, fun P t w => by simp [binOp, Op.intArith]⟩
  · exact ⟨_, _, hk, fun _ _ _ => repV_mkint _ _ _, fun P t w => by simp [binOp, Op.intArith]⟩
  · exact ⟨_, _, hk, fun _ _ _ => repV_mkint _ _ _, fun P t w => by simp [binOp, Op.intArith]⟩
  · exact ⟨_, _, hk.2, fun _ _ _ => repV_mkint _ _ _, fun P t w => by simp [binOp, Op.intDiv, hk.1]⟩
  · exact ⟨_, _, hk.2, fun _ _ _ => repV_mkint _ _ _, fun P t w => by simp [binOp, Op.intDiv, hk.1]⟩
  · exact ⟨_, _, hk, fun _ _ _ => repV_mkint _ _ _, fun P t w => by simp [binOp, Op.intBits]⟩
  · exact ⟨_, _, hk, fun _ _ _ => repV_mkint _ _ _, fun P t w => by simp [binOp, Op.intBits]⟩
  · exact ⟨_, _, hk, fun _ _ _ => repV_mkint _ _ _, fun P t w => by simp [binOp, Op.intBits]⟩
  · exact ⟨_, _, aP_iff.1 hk, fun _ _ _ => repV_mkbool _ _, fun P t w => by simp [binOp, Op.intCmp, bne, ibeq]⟩
  · exact ⟨_, _, aP_iff.1 hk, fun _ _ _ => repV_mkbool _ _, fun P t w => by simp [binOp, Op.intCmp, bne, ibeq]⟩
  · exact ⟨_, _, aP_iff.1 hk, fun _ _ _ => repV_mkbool _ _, fun P t w => by simp [binOp, Op.intCmp, bne, ibeq]⟩
  · exact ⟨_, _, aP_iff.1 hk, fun _ _ _ => repV_mkbool _ _, fun P t w => by simp [binOp, Op.intCmp, bne, ibeq]⟩
  · exact ⟨_, _, aP_iff.1 hk, fun _ _ _ => repV_mkbool _ _, fun P t w => by simp [binOp, Op.intCmp, bne, ibeq]⟩
  · exact ⟨_, _, aP_iff.1 hk, fun _ _ _ => repV_mkbool _ _, fun P t w => by simp [binOp, Op.intCmp, bne, ibeq]⟩

/-- Structs of plain cells: '==' is cell by cell. -/
def CmpOk (P : Program) (t : TypeId) (z : List D) : Prop :=
  ∀ (w : World) (g : Gh) (hp : Nat → Obj) (xs ys : List V) (us vs : Array Value) (b : Bool), RepVs w g hp xs us.toList → RepVs w g hp ys vs.toList → eqVs z xs ys = some b →
    ∀ (x y : Operand), (eqGuard .eql t x y (.agg us) (.agg vs)).run P w = .ok () w ∧ (eqGuard .neq t x y (.agg us) (.agg vs)).run P w = .ok () w ∧
      (binOp .eql t (.agg us) (.agg vs)).run P w = .ok (.bool b) w ∧ (binOp .neq t (.agg us) (.agg vs)).run P w = .ok (.bool (!b)) w

theorem eqGuard_plain (P : Program) (op : BinOp) (t : TypeId) (x y : Operand) (u v : Value) (w : World) (h : (∀ us, u ≠ .agg us) ∧ u ≠ .nilIface) : (eqGuard op t x y u v).run P w = .ok () w := by
  unfold eqGuard
  obtain ⟨h1, h2⟩ := h
  cases op <;> cases u <;> simp_all

theorem sound_binOp {op : BinOp} {t t' : TypeId} {x y : Operand} {ti : TI} (ho : o.op = .binOp op t x y t') (hT : TIok E.P t ti) (hc : ti.cmp = true → CmpOk E.P t ti.zero) (h : Rel E s a w g)
    (hd : ∀ d, o.dst = some d → d < E.nt) (hk : binV ti.cmp ti.bool ti.zero op (ev E.glob s x) (ev E.glob s y) fun v => putK s o.dst v K) : OpOk E o a w K := by
  have hx := rel_ev h x
  have hy := rel_ev h y
  have hex : execOp a.eval o = (do pure (.value (← (do eqGuard op t x y (a.eval x) (a.eval y); binOp op t (a.eval x) (a.eval y))))) := by
    unfold execOp; rw [ho]
  unfold binV at hk
  split at hk
  · rename_i k n k' m hxe hye
    rw [hxe] at hx; rw [hye] at hy
    have hx := repV_int hx
    have hy := repV_int hy
    rw [hx, hy] at hex
    have hgd := eqGuard_plain E.P op t x y (.int k n) (.int k' m) w ⟨by simp, by simp⟩
    split at hk
    · refine op_put h hd (u := .int k (k.wrap (n * 2 ^ (min m.toNat k.bits)))) ?_ (repV_mkint _ _ _) hk.2
      rw [hex]; simp [hgd, binOp, Op.shift, Int.not_lt.2 hk.1]
    · refine op_put h hd (u := .int k (n.fdiv (2 ^ (min m.toNat k.bits)))) ?_ (repV_mkint _ _ _) hk.2
      rw [hex]; simp [hgd, binOp, Op.shift, Int.not_lt.2 hk.1]
    · split at hk
      · rename_i hkk
        have hkk : k = k' := by simpa using hkk
        subst hkk
        obtain ⟨v, u, h1, h2, h3⟩ := intOp_sound hk
        refine op_put h hd (u := u) ?_ (h2 _ _ _) h1
        rw [hex]; simp [hgd, h3]
      · exact hk.elim
  · rename_i n m hxe hye
    rw [hxe] at hx; rw [hye] at hy
    have hx := repV_bool hx
    have hy := repV_bool hy
    rw [hx, hy] at hex
    have hgd := eqGuard_plain E.P op t x y (.bool n) (.bool m) w ⟨by simp, by simp⟩
    split at hk
    · have hu := hT.bool (by assumption)
      refine op_put h hd (u := .bool (n == m)) ?_ (repV_mkbool _ _) hk
      rw [hex]
      have := run_equalIn_bool' (P := E.P) w 9999 t n m hu
      simp [hgd, binOp, Op.equal, Op.maxDepth, this]
    · have hu := hT.bool (by assumption)
      refine op_put h hd (u := .bool (!(n == m))) ?_ (repV_mkbool _ _) hk
      rw [hex]
      have := run_equalIn_bool' (P := E.P) w 9999 t n m hu
      simp [hgd, binOp, Op.equal, Op.maxDepth, this]
    · exact hk.elim
  · rename_i n m hxe hye
    rw [hxe] at hx; rw [hye] at hy
    have hx := repV_str hx
    have hy := repV_str hy
    rw [hx, hy] at hex
    have hgd := eqGuard_plain E.P op t x y (.string n) (.string m) w ⟨by simp, by simp⟩
    split at hk
    · refine op_put h hd (u := .string (n ++ m)) ?_ (repV_mkstr _ _) hk.2
      have h1 := hk.1
      have : ¬ (((n.size + m.size : Nat) : Int) > IntKind.i64.max) := by
        have : IntKind.i64.max = 9223372036854775807 := by decide
        rw [this]; omega
      rw [hex]; simp only [Sem.run_bind, hgd, Result.andThen_ok, binOp, Op.stringOp, if_neg this, Sem.run_pure]
    · refine op_put h hd (u := .bool (n == m)) ?_ (repV_mkbool _ _) (aB_iff.1 hk)
      rw [hex]; simp [hgd, binOp, Op.stringOp, beq_toListBytes]
    · refine op_put h hd (u := .bool (!(n == m))) ?_ (repV_mkbool _ _) (aB_iff.1 hk)
      rw [hex]; simp [hgd, binOp, Op.stringOp, beq_toListBytes]
    · exact hk.elim
  · rename_i xs ys hxe hye
    rw [hxe] at hx; rw [hye] at hy
    simp only [RepV] at hx hy
    obtain ⟨us, hue, hus⟩ := hx
    obtain ⟨vs, hve, hvs⟩ := hy
    rw [hue, hve] at hex
    split at hk
    · rename_i b _ hb
      obtain ⟨h1, h2, h3, h4⟩ := hc (by assumption) w g s.hp xs ys us vs b hus hvs hb x y
      refine op_put h hd (u := .bool b) ?_ (repV_mkbool _ _) (aB_iff.1 hk)
      rw [hex]; simp [h1, h3]
    · rename_i b _ hb
      obtain ⟨h1, h2, h3, h4⟩ := hc (by assumption) w g s.hp xs ys us vs b hus hvs hb x y
      refine op_put h hd (u := .bool (!b)) ?_ (repV_mkbool _ _) (aB_iff.1 hk)
      rw [hex]; simp [h2, h4]
    · exact hk.elim
  · exact hk.elim

end Go.Proofs.YtdfneaponidfgaaDoor.Eng
/- The engine, part E: reading. -/
set_option linter.unusedVariables false
set_option linter.unusedSimpArgs false
namespace Go.Proofs.YtdfneaponidfgaaDoor.Eng
open Go

section lists
variable {w : World} {g : Gh} {hp : Nat → Obj}
theorem RepVs.len : ∀ {cs : List V} {us : List Value}, RepVs w g hp cs us → us.length = cs.length
  | [], us, h => by simp only [RepVs] at h; subst h; rfl
  | c :: cs, us, h => by
    simp only [RepVs] at h
    obtain ⟨u, us', rfl, _, h⟩ := h
    simp [RepVs.len h]
theorem RepVs.get : ∀ {cs : List V} {us : List Value}, RepVs w g hp cs us → ∀ {i : Nat} {c : V}, cs[i]? = some c → ∃ u, us[i]? = some u ∧ RepV w g hp c u
  | [], us, h, i, c, hi => by simp at hi
  | c' :: cs, us, h, i, c, hi => by
    simp only [RepVs] at h
    obtain ⟨u, us', rfl, h1, h⟩ := h
    cases i with
    | zero => simp only [List.getElem?_cons_zero, Option.some.injEq] at hi; subst hi; exact ⟨u, rfl, h1⟩
    | succ i => simpa using RepVs.get h (i := i) (c := c) (by simpa using hi)
theorem RepVs.of_get : ∀ {cs : List V} {us : List Value}, us.length = cs.length → (∀ (i : Nat) c u, cs[i]? = some c → us[i]? = some u → RepV w g hp c u) → RepVs w g hp cs us
  | [], us, hl, h => by simp only [List.length_nil, List.length_eq_zero_iff] at hl; simp [RepVs, hl]
  | c :: cs, [], hl, h => by simp at hl
  | c :: cs, u :: us, hl, h => by
    simp only [RepVs]
    exact ⟨u, us, rfl, h 0 c u rfl rfl, RepVs.of_get (by simpa using hl) (fun i c' u' h1 h2 => h (i + 1) c' u' (by simpa using h1) (by simpa using h2))⟩
theorem RepVs.drop {cs : List V} {us : List Value} (h : RepVs w g hp cs us) (n : Nat) : RepVs w g hp (cs.drop n) (us.drop n) :=
  RepVs.of_get (by simp [h.len]) fun i c u h1 h2 => by
    rw [List.getElem?_drop] at h1 h2
    obtain ⟨u', h3, h4⟩ := h.get h1
    rw [h3] at h2; injection h2 with h2; subst h2; exact h4
theorem RepVs.take {cs : List V} {us : List Value} (h : RepVs w g hp cs us) (n : Nat) : RepVs w g hp (cs.take n) (us.take n) :=
  RepVs.of_get (by simp [h.len]) fun i c u h1 h2 => by
    rw [List.getElem?_take] at h1 h2
    split at h1
    · rename_i hi
      rw [if_pos hi] at h2
      obtain ⟨u', h3, h4⟩ := h.get h1
      rw [h3] at h2; injection h2 with h2; subst h2; exact h4
    · simp at h1
theorem RepVs.set {cs : List V} {us : List Value} (h : RepVs w g hp cs us) (n : Nat) {c : V} {u : Value} (hc : RepV w g hp c u) : RepVs w g hp (cs.set n c) (us.set n u) :=
  RepVs.of_get (by simp [h.len]) fun i c' u' h1 h2 => by
    rw [List.getElem?_set] at h1 h2
    have hl := h.len
    split at h1
    · rename_i hi
      subst hi
      split at h1
      · rename_i hn
        rw [if_pos rfl, if_pos (by omega)] at h2
        injection h1 with h1; injection h2 with h2; subst h1; subst h2; exact hc
      · simp at h1
    · rename_i hi
      rw [if_neg hi] at h2
      obtain ⟨u'', h3, h4⟩ := h.get h1
      rw [h3] at h2; injection h2 with h2; subst h2; exact h4
theorem RepVs.ofD {imm : Imm} (himm : imm = g.imm) {xs : List D} {us : List Value} (hl : us.length = xs.length) (h : ∀ (i : Nat) x u, xs[i]? = some x → us[i]? = some u → RepD w imm x u) : RepVs w g hp (xs.map .d) us :=
  RepVs.of_get (by simp [hl]) fun i c u h1 h2 => by
    rw [List.getElem?_map] at h1
    cases hx : xs[i]? with
    | none => simp [hx] at h1
    | some x =>
      simp only [hx, Option.map_some, Option.some.injEq] at h1
      subst h1
      simp only [RepV]
      exact himm ▸ h i x u hx h2
/-- A value's cells. -/
theorem RepV.cells {v : V} {u : Value} (h : RepV w g hp v u) (h1 : v ≠ .undef) (h2 : ∀ vs, v ≠ .tup vs) : RepVs w g hp v.cells u.cells.toList := by
  cases v with
  | undef => exact absurd rfl h1
  | tup vs => exact absurd rfl (h2 vs)
  | agg cs => simp only [RepV] at h; obtain ⟨us, rfl, h⟩ := h; exact h
  | d x =>
    have : u.cells = #[u] := by
      simp only [RepV] at h
      cases h <;> rfl
    rw [this]; simp only [V.cells, RepVs]; exact ⟨u, [], rfl, h, rfl⟩
  | ref id r e f =>
    have : u.cells = #[u] := by simp only [RepV] at h; obtain ⟨_, _, b, _, rfl⟩ := h; rfl
    rw [this]; simp only [V.cells, RepVs]; exact ⟨u, [], rfl, h, rfl⟩
  | own id =>
    have : u.cells = #[u] := by simp only [RepV] at h; obtain ⟨_, _, _, A, n, c, rfl⟩ := h; rfl
    rw [this]; simp only [V.cells, RepVs]; exact ⟨u, [], rfl, h, rfl⟩
  | osl t e rows =>
    have : u.cells = #[u] := by
      simp only [RepV] at h
      obtain ⟨_, h, _⟩ := h
      cases h <;> rfl
    rw [this]; simp only [V.cells, RepVs]; exact ⟨u, [], rfl, h, rfl⟩
  | view i e lo n =>
    have : u.cells = #[u] := by simp only [RepV] at h; obtain ⟨_, _, A, N, c, A', _, _, rfl, _⟩ := h; rfl
    rw [this]; simp only [V.cells, RepVs]; exact ⟨u, [], rfl, h, rfl⟩
  | any =>
    have : u.cells = #[u] := by simp only [RepV] at h; cases u <;> first | rfl | simp [Value.oneCell'] at h
    rw [this]; simp only [V.cells, RepVs]; exact ⟨u, [], rfl, h, rfl⟩
  | clo f cs =>
    have : u.cells = #[u] := by simp only [RepV] at h; obtain ⟨us, rfl, _⟩ := h; rfl
    rw [this]; simp only [V.cells, RepVs]; exact ⟨u, [], rfl, h, rfl⟩
theorem RepV.one {v : V} {u : Value} (h : RepV w g hp v u) (hl : v.leaf = true) : u.oneCell' = true := by
  cases v with
  | undef => simp [V.leaf] at hl
  | tup vs => simp [V.leaf] at hl
  | agg cs => simp [V.leaf] at hl
  | d x => simp only [RepV] at h; cases h <;> rfl
  | ref id r e f => simp only [RepV] at h; obtain ⟨_, _, b, _, rfl⟩ := h; rfl
  | own id => simp only [RepV] at h; obtain ⟨_, _, _, A, n, c, rfl⟩ := h; rfl
  | osl t e rows => simp only [RepV] at h; obtain ⟨_, h, _⟩ := h; cases h <;> rfl
  | view i e lo n => simp only [RepV] at h; obtain ⟨_, _, A, N, c, A', _, _, rfl, _⟩ := h; rfl
  | any => simpa only [RepV] using h
  | clo f cs => simp only [RepV] at h; obtain ⟨us, rfl, _⟩ := h; rfl
end lists

theorem run_isAgg {P : Program} {t : Nat} {ti : TI} (hT : TIok P t ti) (w : World) : (isAgg t).run P w = .ok ti.agg w := by
  obtain ⟨d, hd, hg⟩ := hT.und
  unfold isAgg
  simp only [Sem.run_bind, run_underlying hd, Result.andThen_ok]
  cases d <;> simp_all

theorem run_sizeOfT {P : Program} {t : Nat} {ti : TI} (hT : TIok P t ti) (w : World) : (sizeOf t).run P w = .ok ti.size w := by
  obtain ⟨i, hi, hs, _⟩ := hT.info
  unfold sizeOf typeInfo
  simp [hi, hs]

/-- A variable's cells, read. -/
theorem run_loadVarT {P : Program} {t : Nat} {ti : TI} (hT : TIok P t ti) (w : World) (b o : Nat) (us : List Value) (hl : us.length = ti.size)
    (hc : ∀ (j : Nat) v, us[j]? = some v → w.cell? ⟨b, o + j, none⟩ = some v) :
    (loadVar t ⟨b, o, none⟩).run P w = .ok (if ti.agg then .agg us.toArray else us.headD Go.undef) w := by
  unfold loadVar
  simp only [Sem.run_bind, run_isAgg hT, Result.andThen_ok]
  have hadd : ∀ j, Addr.add ⟨b, o, none⟩ j = ⟨b, o + j, none⟩ := fun j => by
    unfold Addr.add
    split
    · rename_i hj; subst hj; rfl
    · rfl
  cases hg : ti.agg with
  | true =>
    simp only [if_true, Sem.run_bind, run_sizeOfT hT, Result.andThen_ok, ← hl]
    rw [run_loadCells_list w ⟨b, o, none⟩ us (fun j v hj => by rw [hadd]; exact hc j v hj)]
    rfl
  | false =>
    have h1 := hT.one hg
    cases us with
    | nil => simp at hl; exact absurd hl.symm h1
    | cons u us =>
      have := hc 0 u rfl
      simp only [Nat.add_zero] at this
      simp [run_load, this]

theorem repV_mkV {w : World} {g : Gh} {hp : Nat → Obj} {cs : List V} {us : List Value} (h : RepVs w g hp cs us) (agg : Bool) :
    RepV w g hp (mkV agg cs) (if agg then .agg us.toArray else us.headD Go.undef) := by
  cases agg with
  | true => simp only [mkV, if_true, RepV]; exact ⟨_, rfl, h⟩
  | false =>
    cases cs with
    | nil => simp [mkV, RepV]
    | cons c cs =>
      simp only [RepVs] at h
      obtain ⟨u, us', rfl, h1, _⟩ := h
      simpa [mkV] using h1

theorem cell_of {w : World} {b : Nat} {us : Array Value} {e : Nat} (hb : w.heap[b]? = some (.cells us e (0, 0))) (j : Nat) : w.cell? ⟨b, j, none⟩ = us[j]? := by
  unfold World.cell?; simp [hb]

variable {E : Env} {s : St} {a : Act} {w : World} {g : Gh} {T : Tab} {C : Ctr} {q : Bool} {o : Oper} {K : St → Prop}

theorem sound_load {t : TypeId} {x : Operand} {ti : TI} (ho : o.op = .load t x) (hT : TIok E.P t ti) (h : Rel E s a w g) (hd : ∀ d, o.dst = some d → d < E.nt)
    (hk : match ev E.glob s x with
      | .ref id row esz off => match s.hp id with
        | .box cells => match Nat.ble (off + ti.size) cells.length, row with
          | true, 0 => putK s o.dst (mkV ti.agg ((cells.drop off).take ti.size)) K
          | _, _ => False
        | .arr _ e rows => match Nat.beq e esz with
          | true => ∃ r, rows[row]? = some r ∧ match Nat.ble (off + ti.size) r.length with
            | true => putK s o.dst (mkV ti.agg (((r.drop off).take ti.size).map .d)) K
            | false => False
          | false => False
        | _ => False
      | .d (.ptr cells) => match Nat.ble ti.size cells.length with
        | true => putK s o.dst (mkV ti.agg ((cells.take ti.size).map .d)) K
        | false => False
      | _ => False) : OpOk E o a w K := by
  have hx := rel_ev h x
  have hex : execOp a.eval o = (do pure (.value (← Instr.loadAt t (a.eval x)))) := by unfold execOp; rw [ho]
  have key : ∀ (b off : Nat) (cs : List V) (us : List Value), a.eval x = .pointer (some ⟨b, off, none⟩) → us.length = ti.size → (∀ (j : Nat) v, us[j]? = some v → w.cell? ⟨b, off + j, none⟩ = some v) →
      RepVs w g s.hp cs us → putK s o.dst (mkV ti.agg cs) K → OpOk E o a w K := by
    intro b off cs us he hl hc hr hk
    refine op_put h hd ?_ (repV_mkV hr ti.agg) hk
    rw [hex, he]
    simp only [Instr.loadAt, Instr.sureAddr, Sem.run_bind, Sem.run_pure, Result.andThen_ok, run_loadVarT hT w b off us hl hc]
  split at hk
  · rename_i id row esz off he
    rw [he] at hx
    simp only [RepV] at hx
    obtain ⟨hu, hng, b, hb, hv⟩ := hx
    have hob := h.objs id
    split at hk
    · rename_i cells hid
      rw [hid] at hob
      obtain ⟨b', us, e, hb', hcell, hr, _⟩ := hob
      rw [hb] at hb'; injection hb' with hb'; subst hb'
      split at hk
      · rename_i hle
        have hle := Nat.le_of_ble_eq_true hle
        have hlen := hr.len
        refine key b off _ ((us.toList.drop off).take ti.size) (by rw [hv]; simp) (by simp at hlen ⊢; omega) (fun j v hj => ?_) ((hr.drop off).take _) hk
        rw [cell_of hcell]
        rw [List.getElem?_take] at hj
        split at hj
        · rw [List.getElem?_drop] at hj; simpa using hj
        · simp at hj
      · exact hk.elim
    · rename_i full e rows hid
      rw [hid] at hob
      split at hk
      · rename_i hee
        obtain rfl := Nat.eq_of_beq_eq_true hee
        obtain ⟨r, hr, hk⟩ := hk
        obtain ⟨A, c, h1, h2, h3, h4, h5, h6, h7⟩ := hob
        obtain ⟨h8, h9, us, ee, hcell, _, h10⟩ := h7 b hb
        split at hk
        · rename_i hle
          have hle := Nat.le_of_ble_eq_true hle
          have hall : ∀ (j : Nat) x, r[j]? = some x → ∃ u, us[row * e + j]? = some u ∧ RepD w g.imm x u := h10 row r hr
          have hus : ∀ j, off + j < r.length → row * e + (off + j) < us.size := fun j hj => by
            obtain ⟨u, hu, _⟩ := hall (off + j) _ (List.getElem?_eq_getElem hj)
            rcases Nat.lt_or_ge (row * e + (off + j)) us.size with h' | h'
            · exact h'
            · simp [Array.getElem?_eq_none h'] at hu
          refine key b (row * e + off) _ ((us.toList.drop (row * e + off)).take ti.size) hv ?_ (fun j v hj => ?_) (RepVs.ofD rfl ?_ ?_) hk
          · simp only [List.length_take, List.length_drop, Array.length_toList]
            rcases Nat.eq_zero_or_pos ti.size with hz | hz
            · omega
            · have := hus (ti.size - 1) (by omega); omega
          · rw [cell_of hcell]
            rw [List.getElem?_take] at hj
            split at hj
            · rw [List.getElem?_drop] at hj; simpa using hj
            · simp at hj
          · simp only [List.length_take, List.length_drop, Array.length_toList]
            rcases Nat.eq_zero_or_pos ti.size with hz | hz
            · omega
            · have := hus (ti.size - 1) (by omega); omega
          · intro i x u h1 h2
            rw [List.getElem?_take] at h1 h2
            split at h1
            · rename_i hi
              rw [if_pos hi] at h2
              rw [List.getElem?_drop] at h1 h2
              obtain ⟨u', h3, h4⟩ := hall _ _ h1
              rw [show row * e + off + i = row * e + (off + i) by omega] at h2
              simp only [Array.getElem?_toList] at h2
              rw [h3] at h2; injection h2 with h2; subst h2; exact h4
            · simp at h1
        · exact hk.elim
      · exact hk.elim
    · exact hk.elim
  · rename_i cells he
    rw [he] at hx
    simp only [RepV] at hx
    split at hk
    · rename_i hle
      have hle := Nat.le_of_ble_eq_true hle
      generalize hue : a.eval x = ue at hx
      cases hx with
      | ptr _ b off vals hcell hrep =>
        refine key b off _ ((List.range ti.size).map vals) hue (by simp) (fun j v hj => ?_) (RepVs.ofD rfl (by simp; omega) ?_) hk
        · simp only [List.getElem?_map] at hj
          rcases Nat.lt_or_ge j ti.size with hj' | hj'
          · simp [hj'] at hj
            obtain ⟨_, h2⟩ := hcell j _ (List.getElem?_eq_getElem (by omega))
            rw [h2, hj]
          · simp [List.getElem?_eq_none, hj'] at hj
        · intro i x u h1 h2
          rw [List.getElem?_take] at h1
          split at h1
          · rename_i hi
            simp [hi] at h2
            subst h2
            exact hrep i x h1
          · simp at h1
    · exact hk.elim
  · exact hk.elim
end Go.Proofs.YtdfneaponidfgaaDoor.Eng
/- The engine, part F: more operations that change no object. -/
set_option linter.unusedVariables false
set_option linter.unusedSimpArgs false
namespace Go.Proofs.YtdfneaponidfgaaDoor.Eng
open Go

variable {E : Env} {s : St} {a : Act} {w : World} {g : Gh} {T : Tab} {C : Ctr} {q : Bool} {o : Oper} {K : St → Prop}

theorem sound_nilCheck {x : Operand} (ho : o.op = .nilCheck x) (h : Rel E s a w g) (hd : ∀ d, o.dst = some d → d < E.nt)
    (hk : match ev E.glob s x with
      | .ref id r e f => putK s o.dst (.ref id r e f) K
      | .d (.ptr cs) => putK s o.dst (.d (.ptr cs)) K
      | .d (.fn f cs) => putK s o.dst (.d (.fn f cs)) K
      | .clo f cs => putK s o.dst (.clo f cs) K
      | _ => False) : OpOk E o a w K := by
  have hx := rel_ev h x
  have key : ∀ v, RepV w g s.hp v (a.eval x) → ((∃ b, a.eval x = .pointer (some b)) ∨ ∃ f c, a.eval x = .func (.func f) #[] c) → putK s o.dst v K → OpOk E o a w K := by
    intro v hv hs hk
    refine op_put h hd (u := a.eval x) ?_ hv hk
    unfold execOp
    rw [ho]
    rcases hs with ⟨b, hs⟩ | ⟨f, c, hs⟩ <;> simp only [hs] <;> rfl
  split at hk
  · rename_i he
    rw [he] at hx
    refine key _ hx ?_ hk
    simp only [RepV] at hx
    obtain ⟨_, _, b, _, hv⟩ := hx
    exact .inl ⟨_, hv⟩
  · rename_i he
    rw [he] at hx
    refine key _ hx ?_ hk
    simp only [RepV] at hx
    generalize a.eval x = u at hx
    cases hx; exact .inl ⟨_, rfl⟩
  · rename_i he
    rw [he] at hx
    refine key _ hx ?_ hk
    simp only [RepV] at hx
    generalize a.eval x = u at hx
    cases hx; exact .inr ⟨_, _, rfl⟩
  · rename_i he
    rw [he] at hx
    refine key _ hx ?_ hk
    simp only [RepV] at hx
    obtain ⟨us, hv, _⟩ := hx
    exact .inr ⟨_, _, hv⟩
  · exact hk.elim

theorem sound_unOp {op : UnOp} {t : TypeId} {x : Operand} (ho : o.op = .unOp op t x) (h : Rel E s a w g) (hd : ∀ d, o.dst = some d → d < E.nt)
    (hk : match (generalizing := false) op, ev E.glob s x with
      | .not, .d (.bool b) => putK s o.dst (.d (.bool (!b))) K
      | .neg, .d (.int k n) => putK s o.dst (.d (.int k (k.wrap (0 - n)))) K
      | .xor, .d (.int k n) => putK s o.dst (.d (.int k (k.wrap ((BitVec.ofInt k.bits (if k.signed then -1 else k.max) ^^^ BitVec.ofInt k.bits n).toNat)))) K
      | _, _ => False) : OpOk E o a w K := by
  have hx := rel_ev h x
  have hex : execOp a.eval o = (do pure (.value (← Op.unary op (a.eval x)))) := by unfold execOp; rw [ho]
  split at hk
  · rename_i b he
    rw [he] at hx
    refine op_put h hd (u := .bool (!b)) ?_ (repV_mkbool _ _) hk
    rw [hex, repV_bool hx]; simp [Op.unary]
  · rename_i k n he
    rw [he] at hx
    refine op_put h hd (u := .int k (k.wrap (0 - n))) ?_ (repV_mkint _ _ _) hk
    rw [hex, repV_int hx]; simp [Op.unary, Op.intArith]
  · rename_i k n he
    rw [he] at hx
    refine op_put h hd (u := .int k (k.wrap ((BitVec.ofInt k.bits (if k.signed then -1 else k.max) ^^^ BitVec.ofInt k.bits n).toNat))) ?_ (repV_mkint _ _ _) hk
    rw [hex, repV_int hx]; simp [Op.unary, Op.intBits]
  · exact hk.elim

theorem sound_convert {src dst : TypeId} {x : Operand} {ti si : TI} (ho : o.op = .convert src dst x) (hT : TIok E.P dst ti) (hS : TIok E.P src si) (h : Rel E s a w g) (hd : ∀ d, o.dst = some d → d < E.nt)
    (hk : match ev E.glob s x, ti.kind, si.kind with
      | .d (.int _ n), some k, some _ => putK s o.dst (.d (.int k (k.wrap n))) K
      | _, _, _ => False) : OpOk E o a w K := by
  have hx := rel_ev h x
  have hex : execOp a.eval o = (do pure (.value (← convert src dst (a.eval x)))) := by unfold execOp; rw [ho]
  split at hk
  · rename_i k0 n k k' he h1 h2
    rw [he] at hx
    refine op_put h hd (u := .int k (k.wrap n)) ?_ (repV_mkint _ _ _) hk
    rw [hex, repV_int hx]
    simp [convert, run_underlying (hT.kind _ h1), run_underlying (hS.kind _ h2), Conv.intToInt]
  · exact hk.elim

theorem evs_rep (h : Rel E s a w g) : ∀ (xs : List Operand), RepVs w g s.hp (xs.map (ev E.glob s)) (xs.map a.eval)
  | [] => by simp [RepVs]
  | x :: xs => by simp only [List.map_cons, RepVs]; exact ⟨_, _, rfl, rel_ev h x, evs_rep h xs⟩

theorem sound_makeFunc {f : FuncId} {first captured : Array Operand} (ho : o.op = .makeFunc (.func f) first captured) (h : Rel E s a w g) (hd : ∀ d, o.dst = some d → d < E.nt)
    (hk : match first.toList with
      | [] => putK s o.dst (.clo f (captured.toList.map (ev E.glob s))) K
      | _ => False) : OpOk E o a w K := by
  have hex : execOp a.eval o = (do pure (.value (← Instr.makeFunc (.func f) (first.map a.eval) (captured.map a.eval)))) := by unfold execOp; rw [ho]
  split at hk
  · rename_i hf
    have hf : first = #[] := by simpa using hf
    refine op_put h hd (u := .func (.func f) #[] (captured.map a.eval)) ?_ ?_ hk
    · rw [hex, hf]; simp [Instr.makeFunc]
    · simp only [RepV]
      exact ⟨_, rfl, by simpa using evs_rep h captured.toList⟩
  · exact hk.elim

theorem sound_extract {x : Operand} {i : Nat} (ho : o.op = .extract x i) (h : Rel E s a w g) (hd : ∀ d, o.dst = some d → d < E.nt)
    (hk : match ev E.glob s x with
      | .tup vs => match vs[i]? with | some v => putK s o.dst v K | none => False
      | _ => False) : OpOk E o a w K := by
  have hx := rel_ev h x
  have hex : execOp a.eval o = (do pure (.value (← Instr.extract (a.eval x) i))) := by unfold execOp; rw [ho]
  split at hk
  · rename_i vs he
    rw [he] at hx
    simp only [RepV] at hx
    obtain ⟨us, hv, hr⟩ := hx
    split at hk
    · rename_i v hi
      obtain ⟨u, hu, hrep⟩ := hr.get hi
      refine op_put h hd (u := u) ?_ hrep hk
      rw [hex, hv]
      simp only [Array.getElem?_toList] at hu
      simp [Instr.extract, hu]
    · exact hk.elim
  · exact hk.elim

theorem addr_add (b o n : Nat) : Addr.add ⟨b, o, none⟩ n = ⟨b, o + n, none⟩ := by
  unfold Addr.add
  split
  · rename_i hj; subst hj; rfl
  · rfl

theorem run_fieldAtT {P : Program} {t f fo n : Nat} {ti : TI} (hT : TIok P t ti) (hg : ti.agg = true) (hf : ti.flds[f]? = some (fo, n)) (b o : Nat) (w : World) :
    (Instr.fieldAt t (.pointer (some ⟨b, o, none⟩)) f).run P w = .ok (.pointer (some ⟨b, o + fo, none⟩)) w := by
  obtain ⟨fs, hu, hall⟩ := hT.flds hg
  obtain ⟨fl, h1, h2, h3, ⟨i, h4, h5⟩, _⟩ := hall f fo n hf
  unfold Instr.fieldAt fieldPlace
  have hs : (sizeOf fl.type).run P w = .ok n w := by unfold sizeOf typeInfo; simp [h4, h5]
  simp only [Sem.run_bind, run_underlying hu, Result.andThen_ok, h1, Instr.sureAddr, Sem.run_pure, hs, h3, if_false, h2, addr_add]

theorem sound_fieldAddr {t : TypeId} {x : Operand} {f : Nat} {ti : TI} (ho : o.op = .fieldAddr t x f) (hT : TIok E.P t ti) (h : Rel E s a w g) (hd : ∀ d, o.dst = some d → d < E.nt)
    (hk : match ti.agg, ev E.glob s x, ti.flds[f]? with
      | true, .ref id row esz off, some (fo, _) => putK s o.dst (.ref id row esz (off + fo)) K
      | true, .d (.ptr cells), some (fo, _) => putK s o.dst (.d (.ptr (cells.drop fo))) K
      | _, _, _ => False) : OpOk E o a w K := by
  have hx := rel_ev h x
  have hex : execOp a.eval o = (do pure (.value (← Instr.fieldAt t (a.eval x) f))) := by unfold execOp; rw [ho]
  split at hk
  · rename_i id row esz off fo n hg he hf
    rw [he] at hx
    simp only [RepV] at hx
    obtain ⟨hu, hng, b, hb, hv⟩ := hx
    refine op_put h hd (u := .pointer (some ⟨b, row * esz + off + fo, none⟩)) ?_ ?_ hk
    · rw [hex, hv]; simp [run_fieldAtT hT hg hf]
    · simp only [RepV]; exact ⟨hu, hng, b, hb, by rw [Nat.add_assoc]⟩
  · rename_i cells fo n hg he hf
    rw [he] at hx
    simp only [RepV] at hx
    generalize hue : a.eval x = ue at hx
    cases hx with
    | ptr _ b off vals hcell hrep =>
      refine op_put h hd (u := .pointer (some ⟨b, off + fo, none⟩)) ?_ ?_ hk
      · rw [hex, hue]; simp [run_fieldAtT hT hg hf]
      · simp only [RepV]
        refine .ptr _ b (off + fo) (fun j => vals (fo + j)) (fun j x hj => ?_) (fun j x hj => ?_)
        · rw [List.getElem?_drop] at hj
          have := hcell _ _ hj
          rwa [← Nat.add_assoc] at this
        · rw [List.getElem?_drop] at hj
          exact hrep _ _ hj
  · exact hk.elim

theorem repD_row {full : Bool} {e : Nat} {rows : List (List D)} {u : Value} (h : RepD w g.imm (.slc full e rows) u) :
    ∃ A c, u = .slice A rows.length c ∧ rows.length ≤ c ∧ ∀ (i : Nat) r, rows[i]? = some r → ∃ b off, A = some ⟨b, off, none⟩ ∧ r.length = e ∧ RepD w g.imm (.ptr r) (.pointer (some ⟨b, off + i * e, none⟩)) := by
  cases h with
  | slc full esz rows A c vals hc hn hf hrow hA hcell hrep =>
    refine ⟨A, c, rfl, hc, fun i r hi => ?_⟩
    obtain ⟨b, off, hA⟩ := hA (by intro h0; simp [h0] at hi)
    exact ⟨b, off, hA, hrow i r hi, .ptr r b (off + i * e) (fun j => vals i j) (fun j x hj => hcell b off hA i r hi j x hj) (fun j x hj => hrep i r hi j x hj)⟩

theorem run_indexAtT {P : Program} {t : Nat} {ti : TI} (hT : TIok P t ti) (hg : ti.slc = true) (b o n c : Nat) (k : IntKind) (i : Int) (h0 : 0 ≤ i) (h1 : i < n) (w : World) :
    (Instr.indexAt t (.slice (some ⟨b, o, none⟩) n c) (.int k i)).run P w = .ok (.pointer (some ⟨b, o + i.toNat * ti.esz, none⟩)) w := by
  obtain ⟨hu, hz, ie, h2, h3, _⟩ := hT.slc hg
  have hs : (sizeOf ti.elem).run P w = .ok ti.esz w := by unfold sizeOf typeInfo; simp [h2, h3]
  unfold Instr.indexAt
  simp only [Sem.run_bind, asIntOf, Sem.run_pure, Result.andThen_ok, run_underlying hu, h0, h1, and_self, if_true, hs, addr_add]

theorem sound_indexAddr {t : TypeId} {x i : Operand} {ti : TI} (ho : o.op = .indexAddr t x i) (hT : TIok E.P t ti) (h : Rel E s a w g) (hd : ∀ d, o.dst = some d → d < E.nt)
    (hk : match ti.slc with
      | true => match ev E.glob s x, ev E.glob s i with
        | .own id, .d (.int _ n) => match s.hp id with
          | .arr _ e rows => match Nat.beq e ti.esz with
            | true => 0 ≤ n ∧ n.toNat < rows.length ∧ putK s o.dst (.ref id n.toNat e 0) K
            | false => False
          | _ => False
        | .d (.slc _ e rows), .d (.int _ n) => match Nat.beq e ti.esz with
          | true => 0 ≤ n ∧ ∃ r, rows[n.toNat]? = some r ∧ putK s o.dst (.d (.ptr r)) K
          | false => False
        | .osl _ e rows, .d (.int _ n) => match Nat.beq e ti.esz with
          | true => 0 ≤ n ∧ ∃ r, rows[n.toNat]? = some r ∧ putK s o.dst (.d (.ptr r)) K
          | false => False
        | _, _ => False
      | false => False) : OpOk E o a w K := by
  have hx := rel_ev h x
  have hi := rel_ev h i
  have hex : execOp a.eval o = (do pure (.value (← Instr.indexAt t (a.eval x) (a.eval i)))) := by unfold execOp; rw [ho]
  have rd : ∀ (full : Bool) (e : Nat) (rows : List (List D)) (k : IntKind) (n : Int), RepD w g.imm (.slc full e rows) (a.eval x) → a.eval i = .int k n → ti.slc = true → Nat.beq e ti.esz = true →
      (0 ≤ n ∧ ∃ r, rows[n.toNat]? = some r ∧ putK s o.dst (.d (.ptr r)) K) → OpOk E o a w K := by
    intro full e rows k n hr hie hg hee ⟨h0, r, hrr, hk⟩
    obtain rfl := Nat.eq_of_beq_eq_true hee
    obtain ⟨A, c, hv, hc, hall⟩ := repD_row hr
    obtain ⟨b, off, hA, _, hp⟩ := hall _ r hrr
    have hlt := (List.getElem?_eq_some_iff.1 hrr).1
    refine op_put h hd (u := .pointer (some ⟨b, off + n.toNat * ti.esz, none⟩)) ?_ (by simpa only [RepV] using hp) hk
    rw [hex, hv, hA, hie]
    simp [run_indexAtT hT hg b off rows.length c k n h0 (by omega)]
  split at hk
  · rename_i hg
    split at hk
    · rename_i id k n he hie
      rw [he] at hx; rw [hie] at hi
      have hi := repV_int hi
      simp only [RepV] at hx
      obtain ⟨hu, hv, hng, _⟩ := hx
      have hob := h.objs id
      split at hk
      · rename_i full e rows hid
        rw [hid] at hob
        split at hk
        · rename_i hee
          obtain rfl := Nat.eq_of_beq_eq_true hee
          obtain ⟨h0, h1, hk⟩ := hk
          obtain ⟨A, c, h2, h3, h4, h5, h6, h7, h8⟩ := hob
          cases hblk : g.blk id with
          | none => have := (h7 hblk).1; subst this; simp at h1
          | some b =>
            obtain ⟨h9, _⟩ := h8 b hblk
            refine op_put h hd (u := .pointer (some ⟨b, 0 + n.toNat * ti.esz, none⟩)) ?_ ?_ hk
            · rw [hex, hv, h2, h9, hi]
              simp [run_indexAtT hT hg b 0 rows.length c k n h0 (by omega)]
            · simp only [RepV]; exact ⟨hu, hng, b, hblk, by simp⟩
        · exact hk.elim
      · exact hk.elim
    · rename_i full e rows k n he hie
      rw [he] at hx; rw [hie] at hi
      have hi := repV_int hi
      simp only [RepV] at hx
      split at hk
      · exact rd full e rows k n hx hi hg (by assumption) hk
      · exact hk.elim
    · rename_i tok e rows k n he hie
      rw [he] at hx; rw [hie] at hi
      have hi := repV_int hi
      simp only [RepV] at hx
      split at hk
      · exact rd false e rows k n hx.2.1 hi hg (by assumption) hk
      · exact hk.elim
    · exact hk.elim
  · exact hk.elim

end Go.Proofs.YtdfneaponidfgaaDoor.Eng
/- The engine, part G: strings' bytes, structs built, lengths, cuts. -/
set_option linter.unusedVariables false
set_option linter.unusedSimpArgs false
namespace Go.Proofs.YtdfneaponidfgaaDoor.Eng
open Go

variable {E : Env} {s : St} {a : Act} {w : World} {g : Gh} {T : Tab} {C : Ctr} {q : Bool} {o : Oper} {K : St → Prop}

theorem sound_index {t : TypeId} {x i : Operand} {ti : TI} (ho : o.op = .index t x i) (hT : TIok E.P t ti) (h : Rel E s a w g) (hd : ∀ d, o.dst = some d → d < E.nt)
    {b : ByteArray} {k : IntKind} {n : Int} (hx : ev E.glob s x = .d (.str b)) (hi : ev E.glob s i = .d (.int k n)) (hs : ti.str = true)
    (hk : 0 ≤ n ∧ n < b.size ∧ putK s o.dst (.d (.int .u8 (byteAt b n))) K) : OpOk E o a w K := by
  obtain ⟨h0, h1, hk⟩ := hk
  have hx' := rel_ev h x
  rw [hx] at hx'
  have hx' := repV_str hx'
  have hi' := rel_ev h i
  rw [hi] at hi'
  have hi' := repV_int hi'
  have hu := hT.str hs
  have hlt : n.toNat < b.size := by omega
  refine op_put h hd (u := .int .u8 (byteAt b n)) ?_ (repV_mkint _ _ _) hk
  have hb : b[n.toNat]? = some b[n.toNat] := by simp [hlt]
  have hba : byteAt b n = (b[n.toNat].toNat : Int) := by
    unfold byteAt
    have : b.data.toList[n.toNat]? = some b[n.toNat] := by
      rw [Array.getElem?_toList, Array.getElem?_eq_getElem (by simpa using hlt)]; rfl
    rw [this]; rfl
  unfold execOp
  rw [ho]
  simp only [hx', hi', Instr.index, asIntOf, Sem.run_bind, Sem.run_pure, Result.andThen_ok, run_underlying hu, h0, if_true, hb]
  rw [hba]

def setVals (cs : List Value) (off : Nat) : List Value → List Value
  | [] => cs
  | x :: xs => setVals (cs.set off x) (off + 1) xs
theorem setVals_len (vs : List Value) : ∀ (cs : List Value) (off : Nat), (setVals cs off vs).length = cs.length := by
  induction vs with
  | nil => intro cs off; rfl
  | cons v vs ih => intro cs off; simp [setVals, ih]
theorem repVs_setCells {hp : Nat → Obj} : ∀ {xs : List V} {us : List Value} {cs : List V} {vs : List Value} (off : Nat), RepVs w g hp cs vs → RepVs w g hp xs us →
    RepVs w g hp (setCells cs off xs) (setVals vs off us)
  | [], us, cs, vs, off, h, hx => by simp only [RepVs] at hx; subst hx; exact h
  | x :: xs, us, cs, vs, off, h, hx => by
    simp only [RepVs] at hx
    obtain ⟨u, us', rfl, h1, h2⟩ := hx
    exact repVs_setCells (off + 1) (h.set off h1) h2

theorem foldl_set (off : Nat) : ∀ (l : List Value) (k : Nat) (cs : Array Value),
    ((l.zipIdx k).foldl (fun cs (c, j) => cs.setIfInBounds (off + j) c) cs).toList = setVals cs.toList (off + k) l
  | [], k, cs => rfl
  | v :: l, k, cs => by
    simp only [List.zipIdx_cons, List.foldl_cons, setVals]
    rw [foldl_set off l (k + 1)]
    simp [Nat.add_assoc]

theorem fillFlds_cons (flds : List (Nat × Nat)) (zero : List V) (i : Nat) (v : V) (r : List (Nat × V)) (h1 : v ≠ .undef) (h2 : ∀ vs, v ≠ .tup vs) :
    fillFlds flds zero ((i, v) :: r) = match flds[i]? with
      | some (off, size) => match Nat.beq v.cells.length size with
        | true => fillFlds flds (setCells zero off v.cells) r
        | false => none
      | none => none := by
  cases v <;> first | rfl | exact absurd rfl h1 | exact absurd rfl (h2 _)

theorem fill_fst {hp : Nat → Obj} {place : Nat → Option (Nat × Nat)} : ∀ (ps : List (Nat × V)) (qs : List (Nat × Value)) (flds : List (Nat × Nat)) (zero : List V) (cells : Array Value) (cs : List V),
    (∀ (f fo n : Nat), flds[f]? = some (fo, n) → place f = some (fo, n) ∧ fo + n ≤ zero.length) →
    ps.length = qs.length → (∀ (i : Nat) p q, ps[i]? = some p → qs[i]? = some q → p.1 = q.1 ∧ (p.2 ≠ .undef → (∀ vs, p.2 ≠ .tup vs) → RepVs w g hp p.2.cells q.2.cells.toList) ) →
    (∀ p ∈ ps, p.2 ≠ .undef ∧ ∀ vs, p.2 ≠ .tup vs) →
    RepVs w g hp zero cells.toList → fillFlds flds zero ps = some cs → ∃ cells', Instr.fill place cells qs = some cells' ∧ RepVs w g hp cs cells'.toList
  | [], [], flds, zero, cells, cs, hpl, hl, hr, hne, hz, hf => by
    simp only [fillFlds, Option.some.injEq] at hf
    subst hf
    exact ⟨cells, rfl, hz⟩
  | [], _ :: _, _, _, _, _, _, hl, _, _, _, _ => by simp at hl
  | _ :: _, [], _, _, _, _, _, hl, _, _, _, _ => by simp at hl
  | (i, v) :: ps, (j, u) :: qs, flds, zero, cells, cs, hpl, hl, hr, hne, hz, hf => by
    obtain ⟨h1, h2⟩ := hr 0 _ _ rfl rfl
    dsimp only at h1 h2
    subst h1
    have hne0 := hne (i, v) List.mem_cons_self
    have h2 := h2 hne0.1 hne0.2
    rw [fillFlds_cons _ _ _ _ _ hne0.1 hne0.2] at hf
    split at hf
    · rename_i off size hfl
      split at hf
      · rename_i hb
        have hb := Nat.eq_of_beq_eq_true hb
        obtain ⟨hp1, hp2⟩ := hpl _ _ _ hfl
        have hlen := h2.len
        have hzl := hz.len
        have hsz : u.cells.size = size := by simpa [hb] using hlen
        have hbd : ¬ (u.cells.size ≠ size ∨ off + u.cells.size > cells.size) := by
          simp at hzl; omega
        unfold Instr.fill
        simp only [hp1]
        rw [if_neg (by simpa using hbd)]
        refine fill_fst ps qs flds _ _ cs (fun f fo n hfn => ⟨(hpl f fo n hfn).1, ?_⟩) (by simpa using hl) (fun i p q h3 h4 => hr (i + 1) p q (by simpa using h3) (by simpa using h4))
          (fun p hp => hne p (List.mem_cons_of_mem _ hp)) ?_ hf
        · have := (hpl f fo n hfn).2
          have hsl : ∀ (xs : List V) (cs : List V) (off : Nat), (setCells cs off xs).length = cs.length := by
            intro xs
            induction xs with
            | nil => intro cs off; rfl
            | cons x xs ih => intro cs off; simp [setCells, ih]
          rw [hsl]; exact this
        · have := foldl_set off u.cells.toList 0 cells
          rw [← Array.toList_zipIdx, Array.foldl_toList] at this
          rw [this]
          exact repVs_setCells off hz h2
      · simp at hf
    · simp at hf

theorem run_mapM_sizes {P : Program} : ∀ (fs : List Field) (flds : List (Nat × Nat)) (w : World), fs.length = flds.length →
    (∀ (f fo n : Nat), flds[f]? = some (fo, n) → ∃ fl, fs[f]? = some fl ∧ fl.offset = fo ∧ ∃ i, P.info? fl.type = some i ∧ i.size = n) →
    (fs.mapM fun f => (do pure (f.offset, ← sizeOf f.type) : Sem (Nat × Nat))).run P w = .ok flds w
  | [], [], w, _, _ => by simp
  | f :: fs, (o, n) :: r, w, hl, h => by
    obtain ⟨fl, h1, h2, i, h3, h4⟩ := h 0 o n rfl
    simp only [List.getElem?_cons_zero, Option.some.injEq] at h1
    subst h1
    have ih := run_mapM_sizes (P := P) fs r w (by simpa using hl) (fun f fo n hf => h (f + 1) fo n (by simpa using hf))
    have hs : (sizeOf f.type).run P w = .ok n w := by unfold sizeOf typeInfo; simp [h3, h4]
    simp only [List.mapM_cons, Sem.run_bind, hs, Result.andThen_ok, Sem.run_pure, ih, h2]
  | [], _ :: _, _, hl, _ => by simp at hl
  | _ :: _, [], _, hl, _ => by simp at hl

theorem fillFlds_ne : ∀ (ps : List (Nat × V)) (flds : List (Nat × Nat)) (zero cs : List V), fillFlds flds zero ps = some cs → ∀ p ∈ ps, p.2 ≠ .undef ∧ ∀ vs, p.2 ≠ .tup vs
  | [], _, _, _, _, p, hp => by simp at hp
  | (i, v) :: ps, flds, zero, cs, hf, p, hp => by
    have h1 : v ≠ .undef := by rintro rfl; simp [fillFlds] at hf
    have h2 : ∀ vs, v ≠ .tup vs := by rintro vs rfl; simp [fillFlds] at hf
    rw [fillFlds_cons _ _ _ _ _ h1 h2] at hf
    rcases List.mem_cons.1 hp with rfl | hp
    · exact ⟨h1, h2⟩
    · split at hf
      · split at hf
        · exact fillFlds_ne ps flds _ cs hf p hp
        · simp at hf
      · simp at hf

theorem sound_build {t : TypeId} {parts : Array (Nat × Operand)} {ti : TI} (ho : o.op = .build t parts) (hT : TIok E.P t ti) (h : Rel E s a w g) (hd : ∀ d, o.dst = some d → d < E.nt)
    (hk : match ti.agg, fillFlds ti.flds (ti.zero.map .d) (parts.toList.map fun p => (p.1, ev E.glob s p.2)) with
      | true, some cs => putK s o.dst (.agg cs) K
      | _, _ => False) : OpOk E o a w K := by
  split at hk
  · rename_i cs hg hf
    obtain ⟨fs, hu, hall⟩ := hT.flds hg
    obtain ⟨fs', hu', hlen⟩ := hT.nflds hg
    rw [hu] at hu'; injection hu' with hu'; injection hu' with hu'; subst hu'
    obtain ⟨i, hi, _, _, hz⟩ := hT.info
    have hzr : ∃ z : Value, (zeroValue t).run E.P w = .ok z w ∧ RepVs w g s.hp (ti.zero.map .d) z.cells.toList := by
      by_cases hze : ti.zero = []
      · exact absurd hze (hT.nz hg)
      · obtain ⟨z, h1, h2⟩ := hz hze
        exact ⟨z, by unfold zeroValue typeInfo; simp [hi, h1], zerosB_reps w g s.hp _ _ h2⟩
    obtain ⟨z, hz1, hz2⟩ := hzr
    have hne := fillFlds_ne _ _ _ _ hf
    obtain ⟨cells', h1, h2⟩ := fill_fst (place := fun i => (ti.flds.toArray)[i]?) (parts.toList.map fun p => (p.1, ev E.glob s p.2)) (parts.toList.map fun p => (p.1, a.eval p.2)) ti.flds (ti.zero.map .d) z.cells cs
      (fun f fo n hfn => ⟨by simpa using hfn, by
        obtain ⟨_, _, _, _, _, h6⟩ := hall f fo n hfn
        simpa using h6⟩) (by simp)
      (fun i p q h3 h4 => by
        rw [List.getElem?_map] at h3 h4
        cases hp : parts.toList[i]? with
        | none => simp [hp] at h3
        | some pp =>
          simp only [hp, Option.map_some, Option.some.injEq] at h3 h4
          subst h3; subst h4
          exact ⟨rfl, fun h5 h6 => (rel_ev h pp.2).cells h5 h6⟩) hne hz2 hf
    refine op_put h hd (u := .agg cells') ?_ (by simp only [RepV]; exact ⟨_, rfl, h2⟩) hk
    unfold execOp
    rw [ho]
    have hm := run_mapM_sizes (P := E.P) fs.toList ti.flds w (by simpa using hlen) (fun f fo n hfn => by
      obtain ⟨fl, h3, h4, h5, h6, _⟩ := hall f fo n hfn
      exact ⟨fl, by simpa using h3, h4, h6⟩)
    have hm' : (fs.mapM fun f => (do pure (f.offset, ← sizeOf f.type) : Sem (Nat × Nat))).run E.P w = .ok ti.flds.toArray w := by
      rw [Array.mapM_eq_mapM_toList]
      simp only [Sem.run_map, hm, Result.andThen_ok]
    have hpl : (parts.map fun x => match x with | (i, x) => (i, a.eval x)).toList = parts.toList.map fun p => (p.1, a.eval p.2) := by simp
    simp only [Instr.build, Sem.run_bind, hz1, Result.andThen_ok, run_underlying hu, hm', hpl, h1, Sem.run_pure]
  · exact hk.elim

end Go.Proofs.YtdfneaponidfgaaDoor.Eng
/- The engine, part H: lengths and cuts. -/
set_option linter.unusedVariables false
set_option linter.unusedSimpArgs false
namespace Go.Proofs.YtdfneaponidfgaaDoor.Eng
open Go

variable {E : Env} {s : St} {a : Act} {w : World} {g : Gh} {T : Tab} {C : Ctr} {q : Bool} {o : Oper} {K : St → Prop}

theorem exec_builtin {c : Call} {b : Builtin} (ho : o.op = .call c) (hb : c.callee = .builtin b) :
    ∃ cs, execOp a.eval o = builtin b c.argTypes o.type cs (c.args.map a.eval) := by
  unfold execOp
  rw [ho]
  simp only [resolve, hb, pure_bind, invoke]
  exact ⟨_, rfl⟩

theorem sound_len {c : Call} {x : Operand} {t : TypeId} {ts : List TypeId} {ti : TI} (ho : o.op = .call c) (hb : c.callee = .builtin .len) (hx : c.args.toList = [x]) (ht : c.argTypes.toList = t :: ts)
    (hT : TIok E.P t ti) (h : Rel E s a w g) (hd : ∀ d, o.dst = some d → d < E.nt)
    (hk : match ti.str, ti.slc, ev E.glob s x with
      | true, _, .d (.str b) => putK s o.dst (.d (.int .i64 b.size)) K
      | _, true, v => match rowsOf s.hp v with
        | some (_, rows) => lenK q rows.length (putK s o.dst (.d (.int .i64 rows.length)) K)
        | none => False
      | _, _, _ => False) : OpOk E o a w K := by
  have hv := rel_ev h x
  have ha : c.args.map a.eval = #[a.eval x] := by
    apply Array.ext'
    simp [hx]
  have h0 : c.argTypes[0]? = some t := by rw [← Array.getElem?_toList, ht]; rfl
  obtain ⟨cs, hex⟩ := exec_builtin (o := o) (a := a) ho hb
  rw [ha] at hex
  split at hk
  · rename_i b h1 he
    rw [he] at hv
    refine op_put h hd (u := .int .i64 b.size) ?_ (repV_mkint _ _ _) hk
    rw [hex, repV_str hv]
    simp [builtin, Builtin.len_, h0, run_underlying (hT.str h1), goInt]
  · rename_i h1 _
    split at hk
    · rename_i e rows hr
      obtain ⟨A, cp, hu, _, hle⟩ := rowsOf_len h.objs hv hr
      have hk : putK s o.dst (.d (.int .i64 rows.length)) K := by
        cases q with
        | true => exact hk
        | false => exact hk hle
      refine op_put h hd (u := .int .i64 rows.length) ?_ (repV_mkint _ _ _) hk
      rw [hex, hu]
      simp [builtin, Builtin.len_, h0, run_underlying (hT.slc h1).1, goInt]
    · exact hk.elim
  · exact hk.elim

theorem sound_min {c : Call} {x y : Operand} {k k2 : IntKind} {n m : Int} (ho : o.op = .call c) (hb : c.callee = .builtin .min) (hx : c.args.toList = [x, y])
    (h : Rel E s a w g) (hd : ∀ d, o.dst = some d → d < E.nt) (h1 : ev E.glob s x = .d (.int k n)) (h2 : ev E.glob s y = .d (.int k2 m))
    (hk : putK s o.dst (.d (.int k (if m < n then m else n))) K) : OpOk E o a w K := by
  have hv := rel_ev h x
  have hw := rel_ev h y
  rw [h1] at hv; rw [h2] at hw
  have ha : c.args.map a.eval = #[a.eval x, a.eval y] := by
    apply Array.ext'
    simp [hx]
  obtain ⟨cs, hex⟩ := exec_builtin (o := o) (a := a) ho hb
  rw [ha] at hex
  refine op_put h hd (u := .int k (if m < n then m else n)) ?_ (repV_mkint _ _ _) hk
  rw [hex, repV_int hv, repV_int hw]
  simp [builtin, Builtin.min_, Builtin.min2]

theorem sound_cap {c : Call} {x : Operand} {t : TypeId} {ts : List TypeId} {ti : TI} (ho : o.op = .call c) (hb : c.callee = .builtin .cap) (hx : c.args.toList = [x]) (ht : c.argTypes.toList = t :: ts)
    (hT : TIok E.P t ti) (h : Rel E s a w g) (hd : ∀ d, o.dst = some d → d < E.nt)
    (hk : match ti.slc, ev E.glob s x with
      | true, .d (.slc true _ rows) => putK s o.dst (.d (.int .i64 rows.length)) K
      | _, _ => False) : OpOk E o a w K := by
  have hv := rel_ev h x
  have ha : c.args.map a.eval = #[a.eval x] := by
    apply Array.ext'
    simp [hx]
  have h0 : c.argTypes[0]? = some t := by rw [← Array.getElem?_toList, ht]; rfl
  obtain ⟨cs, hex⟩ := exec_builtin (o := o) (a := a) ho hb
  rw [ha] at hex
  split at hk
  · rename_i e rows h1 he
    rw [he] at hv
    simp only [RepV] at hv
    generalize a.eval x = u at hv hex
    cases hv with
    | slc full esz rows A c vals hc hn hf hrow hA hcell hrep =>
      have := hf rfl
      subst this
      refine op_put h hd (u := .int .i64 rows.length) ?_ (repV_mkint _ _ _) hk
      rw [hex]
      simp [builtin, Builtin.cap_, h0, run_underlying (hT.slc h1).1, goInt]
  · exact hk.elim

/-- A cut of rows. -/
theorem repD_cut {full : Bool} {e : Nat} {rows : List (List D)} {A : Option Addr} {c n : Nat} (h : RepD w g.imm (.slc full e rows) (.slice A n c)) (he : e ≠ 0) (l u m : Nat) (h1 : l ≤ u) (h2 : u ≤ rows.length) (h3 : u ≤ m) (h4 : m ≤ c)
    (f : Bool) (hf : f = true → m = u) :
    RepD w g.imm (.slc f e ((rows.take u).drop l)) (.slice (if m = l then A else A.map (·.add (l * e))) (u - l) (m - l)) := by
  cases h with
  | slc full esz rows A c vals hc hn hf' hrow hA hcell hrep =>
    have hlen : ((rows.take u).drop l).length = u - l := by simp; omega
    have hget : ∀ (i : Nat) (r : List D), ((rows.take u).drop l)[i]? = some r → rows[l + i]? = some r := fun i r hi => by
      rw [List.getElem?_drop, List.getElem?_take] at hi
      split at hi
      · exact hi
      · simp at hi
    have key : ∀ A', (((rows.take u).drop l) ≠ [] → ∃ b o, A' = some ⟨b, o, none⟩) → (∀ b o, A' = some ⟨b, o, none⟩ → ((rows.take u).drop l) ≠ [] → ∃ o', A = some ⟨b, o', none⟩ ∧ o = o' + l * e) →
        RepD w g.imm (.slc f e ((rows.take u).drop l)) (.slice A' (u - l) (m - l)) := by
      intro A' hA1 hA2
      have hrr := RepD.slc (w := w) (imm := g.imm) f e ((rows.take u).drop l) A' (m - l) (fun i j => vals (l + i) j) (by omega) (by omega) (fun hft => by have := hf hft; omega)
        (fun i r hi => hrow _ r (hget i r hi)) hA1 (fun b o hAo i r hi j x hj => by
          obtain ⟨o', ho1, ho2⟩ := hA2 b o hAo (by intro h0; rw [h0] at hi; simp at hi)
          have := hcell b o' ho1 (l + i) r (hget i r hi) j x hj
          rw [show o + i * e + j = o' + (l + i) * e + j by rw [ho2, Nat.add_mul]; omega]
          exact this)
        (fun i r hi j x hj => hrep _ r (hget i r hi) j x hj)
      rw [hlen] at hrr
      exact hrr
    split
    · rename_i hml
      refine key A (fun hne => ?_) (fun b o hA' hne => ?_)
      · exact absurd (List.length_eq_zero_iff.1 (by rw [hlen]; omega)) hne
      · exact absurd (List.length_eq_zero_iff.1 (by rw [hlen]; omega)) hne
    · refine key _ (fun hne => ?_) (fun b o hA' hne => ?_)
      · have : rows ≠ [] := by rintro rfl; simp at hne
        obtain ⟨b, o, rfl⟩ := hA this
        exact ⟨b, o + l * e, by simp [addr_add]⟩
      · have : rows ≠ [] := by rintro rfl; simp at hne
        obtain ⟨b', o', rfl⟩ := hA this
        simp only [Option.map_some, addr_add, Option.some.injEq, Addr.mk.injEq] at hA'
        obtain ⟨rfl, rfl, _⟩ := hA'
        exact ⟨o', rfl, rfl⟩

theorem run_sliceBound {P : Program} {k : IntKind} {n : Int} {bnd : Nat} {code : BoundsCode} (h0 : 0 ≤ n) (h1 : n ≤ bnd) (w : World) : (Instr.sliceBound (.int k n) bnd code).run P w = .ok n.toNat w := by
  unfold Instr.sliceBound
  simp [asIntOf, h0, h1]

theorem optInt_some {x : Option Operand} {r : Option Int} (h : Rel E s a w g) (hx : optInt E.glob s x = some r) :
    (r = none ∧ x = none) ∨ ∃ n k y, r = some n ∧ x = some y ∧ a.eval y = .int k n := by
  unfold optInt at hx
  split at hx
  · injection hx with hx; exact .inl ⟨hx.symm, rfl⟩
  · rename_i y
    split at hx
    · rename_i n hn
      injection hx with hx
      have hv := rel_ev h y
      unfold asInt at hn
      split at hn
      · rename_i k m he
        injection hn with hn
        subst hn
        rw [he] at hv
        exact .inr ⟨_, k, y, hx.symm, rfl, repV_int hv⟩
      · simp at hn
    · simp at hx

/-- A cut's bounds, by the operands. -/
theorem run_bounds {P : Program} {lo hi mx : Option Operand} {l h m : Option Int} (hr : Rel E s a w g) (h1 : optInt E.glob s lo = some l) (h2 : optInt E.glob s hi = some h) (h3 : optInt E.glob s mx = some m) (isS : Bool) (len cap : Nat)
    (hm : m = none ∨ h ≠ none) (L H M : Nat) (hM : M = (m.getD cap).toNat) (hH : H = (h.getD len).toNat) (hL : L = (l.getD 0).toNat)
    (g1 : ∀ x, l = some x → 0 ≤ x) (g2 : ∀ x, h = some x → 0 ≤ x) (g3 : ∀ x, m = some x → 0 ≤ x) (b1 : L ≤ H) (b2 : H ≤ M) (b3 : M ≤ cap) :
    (Instr.sliceBounds isS len cap (lo.map a.eval) (hi.map a.eval) (mx.map a.eval)).run P w = .ok (L, H, M) w := by
  unfold Instr.sliceBounds
  have e1 := optInt_some hr h1
  have e2 := optInt_some hr h2
  have e3 := optInt_some hr h3
  rcases e3 with ⟨rfl, rfl⟩ | ⟨m', km, ym, rfl, rfl, hym⟩
  · simp only [Option.getD_none, Int.toNat_natCast] at hM
    subst hM
    rcases e2 with ⟨rfl, rfl⟩ | ⟨h', kh, yh, rfl, rfl, hyh⟩
    · simp only [Option.getD_none, Int.toNat_natCast] at hH
      subst hH
      rcases e1 with ⟨rfl, rfl⟩ | ⟨l', kl, yl, rfl, rfl, hyl⟩
      · simp only [Option.getD_none, Int.toNat_zero] at hL
        subst hL
        simp
      · have := g1 _ rfl
        simp only [Option.getD_some] at hL
        simp [hyl, run_sliceBound this (bnd := H) (by omega), hL]
    · have hh := g2 _ rfl
      simp only [Option.getD_some] at hH
      rcases e1 with ⟨rfl, rfl⟩ | ⟨l', kl, yl, rfl, rfl, hyl⟩
      · simp only [Option.getD_none, Int.toNat_zero] at hL
        subst hL
        simp [hyh, run_sliceBound hh (bnd := M) (by omega), hH]
      · have := g1 _ rfl
        simp only [Option.getD_some] at hL
        subst hH
        simp [hyh, run_sliceBound hh (bnd := M) (by omega), hyl, run_sliceBound this (bnd := h'.toNat) (by omega), hL]
  · have hm0 := g3 _ rfl
    simp only [Option.getD_some] at hM
    subst hM
    rcases e2 with ⟨rfl, rfl⟩ | ⟨h', kh, yh, rfl, rfl, hyh⟩
    · exact absurd rfl (hm.resolve_left (by simp))
    · have hh := g2 _ rfl
      simp only [Option.getD_some] at hH
      subst hH
      rcases e1 with ⟨rfl, rfl⟩ | ⟨l', kl, yl, rfl, rfl, hyl⟩
      · simp only [Option.getD_none, Int.toNat_zero] at hL
        subst hL
        simp [hym, run_sliceBound hm0 (bnd := cap) (by omega), hyh, run_sliceBound hh (bnd := m'.toNat) (by omega)]
      · have := g1 _ rfl
        simp only [Option.getD_some] at hL
        simp [hym, run_sliceBound hm0 (bnd := cap) (by omega), hyh, run_sliceBound hh (bnd := m'.toNat) (by omega), hyl, run_sliceBound this (bnd := h'.toNat) (by omega), hL]

theorem sound_cut {t : TypeId} {x : Operand} {lo hi mx : Option Operand} {l h m : Option Int} {ti : TI} (ho : o.op = .slice t x lo hi mx) (hT : TIok E.P t ti) (hr : Rel E s a w g) (hd : ∀ d, o.dst = some d → d < E.nt)
    (h1 : optInt E.glob s lo = some l) (h2 : optInt E.glob s hi = some h) (h3 : optInt E.glob s mx = some m) (hg : ti.slc = true) {full : Bool} {rows : List (List D)}
    (hx : RepD w g.imm (.slc full ti.esz rows) (a.eval x)) (hk : cutRows full rows l h m fun f r => putK s o.dst (.d (.slc f ti.esz r)) K) : OpOk E o a w K := by
  obtain ⟨hu, hz, ie, hi1, hi2, _⟩ := hT.slc hg
  have hsz : (sizeOf ti.elem).run E.P w = .ok ti.esz w := by unfold sizeOf typeInfo; simp [hi1, hi2]
  have hxx := hx
  generalize hue : a.eval x = ue at hxx
  cases hxx with
  | slc _ esz _ A c vals hc hn hf hrow hA hcell hrep =>
    rw [hue] at hx
    have key : ∀ (L H M : Nat) (f : Bool) (rows' : List (List D)), (m = none ∨ h ≠ none) → M = (m.getD c).toNat → H = (h.getD rows.length).toNat → L = (l.getD 0).toNat →
        (∀ x, l = some x → 0 ≤ x) → (∀ x, h = some x → 0 ≤ x) → (∀ x, m = some x → 0 ≤ x) → L ≤ H → H ≤ M → M ≤ c → H ≤ rows.length → (f = true → M = H) → rows' = (rows.take H).drop L →
        putK s o.dst (.d (.slc f ti.esz rows')) K → OpOk E o a w K := by
      intro L H M f rows' q1 q2 q3 q4 q5 q6 q7 q8 q9 q10 q11 q12 q13 hk
      subst q13
      refine op_put hr hd ?_ (by simp only [RepV]; exact repD_cut hx hz L H M q8 q11 q9 q10 f q12) hk
      have hbd := run_bounds (P := E.P) hr h1 h2 h3 true rows.length c q1 L H M q2 q3 q4 q5 q6 q7 q8 q9 q10
      unfold execOp
      rw [ho]
      simp only [Instr.sliceAt, hue, Sem.run_bind, run_underlying hu, Result.andThen_ok, Instr.slice, hbd, hsz, Sem.run_pure]
    unfold cutRows at hk
    split at hk
    · refine key 0 rows.length c full rows (.inl rfl) (by simp) (by simp) (by simp) (by simp) (by simp) (by simp) (by omega) (by omega) (by omega) (by omega) (fun hft => hf hft) (by simp) hk
    · rename_i lv
      obtain ⟨a1, a2, hk⟩ := hk
      refine key lv.toNat rows.length c full _ (.inl rfl) (by simp) (by simp) (by simp) (by simpa using a1) (by simp) (by simp) (by omega) (by omega) (by omega) (by omega) (fun hft => hf hft) (by simp) hk
    · rename_i hv
      obtain ⟨a1, a2, hk⟩ := hk
      refine key 0 hv.toNat c false _ (.inl rfl) (by simp) (by simp) (by simp) (by simp) (by simpa using a1) (by simp) (by omega) (by omega) (by omega) (by omega) (by simp) (by simp) hk
    · rename_i lv hv
      obtain ⟨a1, a2, a3, hk⟩ := hk
      refine key lv.toNat hv.toNat c false _ (.inl rfl) (by simp) (by simp) (by simp) (by simpa using a1) (by simp; omega) (by simp) (by omega) (by omega) (by omega) (by omega) (by simp) rfl hk
    · rename_i hv mv
      obtain ⟨a1, a2, a3, hk⟩ := hk
      refine key 0 hv.toNat mv.toNat _ _ (.inr (by simp)) (by simp) (by simp) (by simp) (by simp) (by simpa using a1) (by simp; omega) (by omega) (by omega) (by omega) (by omega) (fun hft => by simp at hft; omega) (by simp) hk
    · rename_i lv hv mv
      obtain ⟨a1, a2, a3, a4, hk⟩ := hk
      refine key lv.toNat hv.toNat mv.toNat _ _ (.inr (by simp)) (by simp) (by simp) (by simp) (by simpa using a1) (by simp; omega) (by simp; omega) (by omega) (by omega) (by omega) (by omega) (fun hft => by simp at hft; omega) rfl hk
    · exact hk.elim

theorem sound_slice {t : TypeId} {x : Operand} {lo hi mx : Option Operand} {ti : TI} (ho : o.op = .slice t x lo hi mx) (hT : TIok E.P t ti) (hr : Rel E s a w g) (hd : ∀ d, o.dst = some d → d < E.nt)
    (hk : match optInt E.glob s lo, optInt E.glob s hi, optInt E.glob s mx with
      | some lo, some hi, some mx => match ti.slc, ti.str, ev E.glob s x with
        | true, _, .d (.slc full e rows) => match Nat.beq e ti.esz with
          | true => cutRows full rows lo hi mx fun f r => putK s o.dst (.d (.slc f e r)) K
          | false => False
        | true, _, .osl _ e rows => match Nat.beq e ti.esz with
          | true => cutRows false rows lo hi mx fun f r => putK s o.dst (.d (.slc f e r)) K
          | false => False
        | _, true, .d (.str b) => match lo, hi, mx with
          | none, none, none => putK s o.dst (.d (.str b)) K
          | some l, none, none => 0 ≤ l ∧ l ≤ b.size ∧ putK s o.dst (.d (.str (b.extract l.toNat b.size))) K
          | none, some h, none => 0 ≤ h ∧ h ≤ b.size ∧ putK s o.dst (.d (.str (b.extract 0 h.toNat))) K
          | some l, some h, none => 0 ≤ l ∧ l ≤ h ∧ h ≤ b.size ∧ putK s o.dst (.d (.str (b.extract l.toNat h.toNat))) K
          | _, _, _ => False
        | _, _, _ => False
      | _, _, _ => False) : OpOk E o a w K := by
  have hx := rel_ev hr x
  split at hk
  · rename_i l h m h1 h2 h3
    split at hk
    · rename_i full e rows hg he
      rw [he] at hx
      simp only [RepV] at hx
      split at hk
      · rename_i hee
        obtain rfl := Nat.eq_of_beq_eq_true hee
        exact sound_cut ho hT hr hd h1 h2 h3 hg hx hk
      · exact hk.elim
    · rename_i tok e rows hg he
      rw [he] at hx
      simp only [RepV] at hx
      split at hk
      · rename_i hee
        obtain rfl := Nat.eq_of_beq_eq_true hee
        exact sound_cut ho hT hr hd h1 h2 h3 hg hx.2.1 hk
      · exact hk.elim
    · rename_i b hs he
      rw [he] at hx
      have hx := repV_str hx
      have hu := hT.str hs
      have key : ∀ (L H : Nat), m = none → H = (h.getD b.size).toNat → L = (l.getD 0).toNat → (∀ x, l = some x → 0 ≤ x) → (∀ x, h = some x → 0 ≤ x) → L ≤ H → H ≤ b.size →
          putK s o.dst (.d (.str (b.extract L H))) K → OpOk E o a w K := by
        intro L H q1 q2 q3 q4 q5 q6 q7 hk'
        subst q1
        have hmx : mx = none := by
          rcases optInt_some hr h3 with ⟨_, h'⟩ | ⟨_, _, _, h', _⟩
          · exact h'
          · simp at h'
        subst hmx
        have hbd := run_bounds (P := E.P) hr h1 h2 h3 false b.size b.size (.inl rfl) L H b.size (by simp) q2 q3 q4 q5 (by simp) q6 q7 (Nat.le_refl _)
        refine op_put hr hd (u := .string (b.extract L H)) ?_ (repV_mkstr _ _) hk'
        unfold execOp
        rw [ho]
        simp only [Option.map_none] at hbd
        simp [Instr.sliceAt, hx, run_underlying hu, Instr.slice, hbd]
      split at hk
      · refine key 0 b.size rfl (by simp) (by simp) (by simp) (by simp) (by omega) (by omega) ?_
        rw [show b.extract 0 b.size = b by simp]; exact hk
      · rename_i lv
        exact key lv.toNat b.size rfl (by simp) (by simp) (by simpa using hk.1) (by simp) (by omega) (by omega) hk.2.2
      · rename_i hv
        exact key 0 hv.toNat rfl (by simp) (by simp) (by simp) (by simpa using hk.1) (by omega) (by omega) hk.2.2
      · rename_i lv hv
        exact key lv.toNat hv.toNat rfl (by simp) (by simp) (by simpa using hk.1) (by simp; omega) (by omega) (by omega) hk.2.2.2
      · exact hk.elim
    · exact hk.elim
  · exact hk.elim

end Go.Proofs.YtdfneaponidfgaaDoor.Eng
/- The engine, part I: new objects, and objects written. -/
set_option linter.unusedVariables false
set_option linter.unusedSimpArgs false
namespace Go.Proofs.YtdfneaponidfgaaDoor.Eng
open Go

variable {E : Env} {s : St} {a : Act} {w : World} {g : Gh} {T : Tab} {C : Ctr} {q : Bool} {o : Oper} {K : St → Prop}

theorem Obj.live_used {o : Obj} (h : o.live = true) : o.used = true := by cases o <;> simp_all [Obj.live, Obj.used]

theorem ObjRep.lt {hp : Nat → Obj} {id : Nat} {o : Obj} {b : Nat} (hl : o.live = true) (h : ObjRep w g hp id o) (hb : g.blk id = some b) : b < w.heap.size := by
  have key : ∀ {x : Go.Obj}, w.heap[b]? = some x → b < w.heap.size := fun hx => by
    rcases Nat.lt_or_ge b w.heap.size with h' | h'
    · exact h'
    · simp [Array.getElem?_eq_none h'] at hx
  cases o with
  | none => simp [Obj.live] at hl
  | dead => simp [Obj.live] at hl
  | box cells =>
    obtain ⟨b', us, e, h1, h2, _⟩ := h
    rw [hb] at h1; injection h1 with h1; subst h1; exact key h2
  | arr full esz rows =>
    obtain ⟨A, c, _, _, _, _, _, _, h7⟩ := h
    obtain ⟨_, _, us, e, h2, _⟩ := h7 b hb
    exact key h2
  | grow esz n =>
    obtain ⟨A, c, _, _, _, _, h7⟩ := h
    obtain ⟨_, _, us, e, h2, _⟩ := h7 b hb
    exact key h2

theorem ObjRep.ext {w' : World} {g' : Gh} {hp hp' : Nat → Obj} (e : GExt w g hp w' g' hp') {id : Nat} {o : Obj} (hl : o.live = true) (hb : g'.blk id = g.blk id) (hv : g'.val id = g.val id)
    (hheap : ∀ b, g.blk id = some b → w'.heap[b]? = w.heap[b]?) (himm : ∀ b, g.blk id = some b → ∀ x, g'.imm b x → g.imm b x) (h : ObjRep w g hp id o) : ObjRep w' g' hp' id o := by
  cases o with
  | none => simp [Obj.live] at hl
  | dead => simp [Obj.live] at hl
  | box cells =>
    obtain ⟨b, us, t, h1, h2, h3, h4⟩ := h
    exact ⟨b, us, t, hb.trans h1, (hheap b h1).trans h2, RepVs.ext e _ _ h3, fun x hx => h4 x (himm b h1 x hx)⟩
  | arr full esz rows =>
    obtain ⟨A, c, h1, h2, h3, h4, h5, h6, h7⟩ := h
    refine ⟨A, c, hv.trans h1, h2, h3, h4, h5, fun hn => h6 (by rw [← hb]; exact hn), fun b hbb => ?_⟩
    rw [hb] at hbb
    obtain ⟨h8, h9, us, t, h10, hcz, h11⟩ := h7 b hbb
    refine ⟨h8, fun x hx => h9 x (himm b hbb x hx), us, t, (hheap b hbb).trans h10, hcz, fun i r hi j x hj => ?_⟩
    obtain ⟨u, h12, h13⟩ := h11 i r hi j x hj
    exact ⟨u, h12, h13.ext e.ext⟩
  | grow esz n =>
    obtain ⟨A, c, h1, h2, h3, h4, h5⟩ := h
    refine ⟨A, c, hv.trans h1, h2, h3, fun hn => h4 (by rw [← hb]; exact hn), fun b hbb => ?_⟩
    rw [hb] at hbb
    obtain ⟨h8, h9, us, t, h10, h11⟩ := h5 b hbb
    exact ⟨h8, fun x hx hi => h9 x hx (himm b hbb x hi), us, t, (hheap b hbb).trans h10, h11⟩

theorem cell_heap {w w' : World} {b : Nat} (h : w'.heap[b]? = w.heap[b]?) (o : Nat) : w'.cell? ⟨b, o, none⟩ = w.cell? ⟨b, o, none⟩ := by
  unfold World.cell?; simp [h]

/-- A new object. -/
theorem rel_fresh (h : Rel E s a w g) {d : Nat} (hnone : s.hp d = .none) {ob : Obj} (hl : ob.live = true) {w' : World} {g' : Gh}
    (hsz : w.heap.size ≤ w'.heap.size) (hheap : ∀ b, b < w.heap.size → w'.heap[b]? = w.heap[b]?)
    (himm1 : ∀ b o, g.imm b o → g'.imm b o) (himm2 : ∀ b o, g'.imm b o → g.imm b o ∨ w.heap.size ≤ b) (himm3 : ∀ b o, g'.imm b o → b < w'.heap.size)
    (hblk : ∀ i, i ≠ d → g'.blk i = g.blk i) (hval : ∀ i, i ≠ d → g'.val i = g.val i) (hnew : ∀ b, g'.blk d = some b → w.heap.size ≤ b)
    (hob : GExt w g s.hp w' g' (upd s.hp d ob) → ObjRep w' g' (upd s.hp d ob) d ob) (hio : SameIO w w' := by exact ⟨rfl, rfl⟩) : Rel E ⟨s.sl, upd s.hp d ob⟩ a w' g' ∧ GExt w g s.hp w' g' (upd s.hp d ob) := by
  have hne : ∀ i, (s.hp i).used = true → i ≠ d := by
    rintro i hu rfl
    rw [hnone] at hu; simp [Obj.used] at hu
  have e : GExt w g s.hp w' g' (upd s.hp d ob) := by
    refine ⟨⟨himm1, fun b o hi => cell_heap (hheap b (h.bound b o hi)) o⟩, fun i hu => ?_, fun i hu _ => hblk i (hne i hu), fun i hu _ => hval i (hne i hu), fun i hu hg => ?_, fun i ee n hu hg => ?_⟩
    · rw [upd_ne _ _ (hne i hu)]; exact hu
    · rw [upd_ne _ _ (hne i hu)]; exact hg
    · rw [upd_ne _ _ (hne i hu)] at hg
      exact ⟨n, hg, Nat.le_refl _, fun _ => hval i (hne i hu)⟩
  have hlt : ∀ i b, (s.hp i).live = true → g.blk i = some b → b < w.heap.size := fun i b hi hb => (h.objs i).lt hi hb
  refine ⟨⟨fun t => RepV.ext e _ _ (h.slots t), fun i => ?_, fun i j b hij hi hj hb hb' => ?_, fun b o hi => himm3 b o hi, fun k => RepP.ext e.ext (h.globs k), fun i b hi hb => ?_, fun b hb hn => ?_, ?_, h.start.trans e.ext, fun b o hi hb => ?_, h.nt, h.defers, h.old.trans e, h.io.trans hio⟩, e⟩
  · by_cases hid : i = d
    · subst hid; simp only [upd_same]; exact hob e
    · simp only [upd_ne _ _ hid]
      cases hlive : (s.hp i).live with
      | true =>
        refine ObjRep.ext e hlive (hblk i hid) (hval i hid) (fun b hb => hheap b (hlt i b hlive hb)) (fun b hb x hx => ?_) (h.objs i)
        rcases himm2 b x hx with h' | h'
        · exact h'
        · have := hlt i b hlive hb; omega
      | false =>
        cases hh : s.hp i <;> simp_all [Obj.live, ObjRep]
  · simp only [upd_eq] at hi hj
    by_cases h1 : i = d
    · subst h1
      have := hnew b hb
      rw [if_neg (fun e => hij e.symm)] at hj
      rw [hblk j (fun e => hij e.symm)] at hb'
      have := hlt j b hj hb'; omega
    · rw [if_neg h1] at hi
      rw [hblk i h1] at hb
      by_cases h2 : j = d
      · subst h2
        have := hnew b hb'
        have := hlt i b hi hb; omega
      · rw [if_neg h2] at hj
        rw [hblk j h2] at hb'
        exact h.dist i j b hij hi hj hb hb'
  · simp only [upd_eq] at hi
    by_cases h1 : i = d
    · subst h1; exact .inl (Nat.le_trans h.size (hnew b hb))
    · rw [if_neg h1] at hi; rw [hblk i h1] at hb; exact h.low i b hi hb
  · have := h.size
    rw [hheap b (by omega)]; exact h.frame b hb hn
  · exact Nat.le_trans h.size hsz
  · rcases himm2 b o hi with h' | h'
    · exact h.fresh b o h' hb
    · have := h.size; omega

/-- An object is written. -/
theorem rel_write (h : Rel E s a w g) {id b : Nat} {ob : Obj} (hlive : (s.hp id).live = true) (hl : ob.live = true) (hng : ∀ e n, ob ≠ .grow e n) (hb : g.blk id = some b) {w' : World}
    (hsz : w'.heap.size = w.heap.size) (hheap : ∀ b', b' ≠ b → w'.heap[b']? = w.heap[b']?) (hnoimm : ∀ o, ¬ g.imm b o)
    (hob : GExt w g s.hp w' g (upd s.hp id ob) → ObjRep w' g (upd s.hp id ob) id ob) (hio : SameIO w w' := by exact ⟨rfl, rfl⟩) : Rel E ⟨s.sl, upd s.hp id ob⟩ a w' g := by
  have hib : ∀ b' o, g.imm b' o → b' ≠ b := by rintro b' o hi rfl; exact hnoimm o hi
  have e : GExt w g s.hp w' g (upd s.hp id ob) := by
    refine ⟨⟨fun _ _ h => h, fun b' o hi => cell_heap (hheap b' (hib b' o hi)) o⟩, fun i hu => ?_, fun _ _ _ => rfl, fun _ _ _ => rfl, fun i hu hg => ?_, fun i ee n hu hg => ?_⟩
    · by_cases h1 : i = id
      · subst h1; rw [upd_same]; exact Obj.live_used hl
      · rw [upd_ne _ _ h1]; exact hu
    · by_cases h1 : i = id
      · subst h1; rw [upd_same]; exact hng
      · rw [upd_ne _ _ h1]; exact hg
    · by_cases h1 : i = id
      · subst h1; rw [upd_same] at hg; exact absurd hg (hng _ _)
      · rw [upd_ne _ _ h1] at hg; exact ⟨n, hg, Nat.le_refl _, fun _ => rfl⟩
  have hlv : ∀ i, (upd s.hp id ob i).live = true → (s.hp i).live = true := fun i hi => by
    by_cases h1 : i = id
    · subst h1; exact hlive
    · rwa [upd_ne _ _ h1] at hi
  refine ⟨fun t => RepV.ext e _ _ (h.slots t), fun i => ?_, fun i j b' hij hi hj => h.dist i j b' hij (hlv i hi) (hlv j hj), fun b' o hi => by rw [hsz]; exact h.bound b' o hi, fun k => RepP.ext e.ext (h.globs k),
    fun i b' hi => h.low i b' (hlv i hi), fun b' hb' hn => ?_, by rw [hsz]; exact h.size, h.start.trans e.ext, h.fresh, h.nt, h.defers, h.old.trans e, h.io.trans hio⟩
  · by_cases h1 : i = id
    · subst h1; simp only [upd_same]; exact hob e
    · simp only [upd_ne _ _ h1]
      cases hli : (s.hp i).live with
      | true =>
        exact ObjRep.ext e hli rfl rfl (fun b' hb' => hheap b' (fun eq => by subst eq; exact h.dist i id b' h1 hli hlive hb' hb)) (fun _ _ _ hx => hx) (h.objs i)
      | false => cases hh : s.hp i <;> simp_all [Obj.live, ObjRep]
  · have : b' ≠ b := by
      rintro rfl
      rcases h.low id b' hlive hb with h' | h'
      · omega
      · exact hn h'
    rw [hheap b' this]; exact h.frame b' hb' hn

theorem heap_alloc_lt (w : World) (o : Go.Obj) {b : Nat} (h : b < w.heap.size) : (w.alloc o).heap[b]? = w.heap[b]? := by
  show (w.heap.push o)[b]? = _
  simp [Array.getElem?_push, Nat.ne_of_lt h]
theorem heap_alloc_new (w : World) (o : Go.Obj) : (w.alloc o).heap[w.heap.size]? = some o := by
  show (w.heap.push o)[w.heap.size]? = _
  simp

/-- A new box. -/
theorem rel_box (h : Rel E s a w g) {d : Nat} (hd : d < E.nt) (hnone : s.hp d = .none) {cs : List V} {us : Array Value} (t : TypeId) (hc : RepVs w g s.hp cs us.toList) :
    Rel E ⟨upd s.sl d (.ref d 0 0 0), upd s.hp d (.box cs)⟩ (a.put (some d) (.pointer (some ⟨w.heap.size, 0, none⟩))) (w.alloc (.cells us t)) ⟨g.imm, upd g.blk d (some w.heap.size), g.val⟩ := by
  obtain ⟨h1, e⟩ := rel_fresh (ob := .box cs) (g' := ⟨g.imm, upd g.blk d (some w.heap.size), g.val⟩) (w' := w.alloc (.cells us t)) h hnone rfl (by simp) (fun b hb => heap_alloc_lt w _ hb)
    (fun _ _ h => h) (fun _ _ h => .inl h) (fun b o hi => by have := h.bound b o hi; simp; omega) (fun i hi => upd_ne _ _ hi) (fun _ _ => rfl)
    (fun b hb => by simp only [upd_same, Option.some.injEq] at hb; omega)
    (fun e => ⟨w.heap.size, us, t, upd_same _ _ _, heap_alloc_new w _, RepVs.ext e _ _ hc, fun o hi => by have := h.bound _ _ hi; omega⟩)
  have := rel_put (dst := some d) h1 (v := .ref d 0 0 0) (u := .pointer (some ⟨w.heap.size, 0, none⟩)) (by simp only [RepV, upd_same]; exact ⟨rfl, by simp, _, rfl, by simp⟩) (by rintro d' ⟨⟩; exact hd)
  exact this

theorem sound_alloc {t : TypeId} {ti : TI} {d : Nat} (ho : o.op = .alloc t) (hdst : o.dst = some d) (hT : TIok E.P t ti) (hz : ti.zero ≠ []) (h : Rel E s a w g) (hd : ∀ d, o.dst = some d → d < E.nt)
    (hnone : s.hp d = .none) (hk : forceL (ti.zero.map .d) fun cs => K ⟨upd s.sl d (.ref d 0 0 0), upd s.hp d (.box cs)⟩) : OpOk E o a w K := by
  rw [forceL_eq] at hk
  obtain ⟨i, hi, _, _, hzz⟩ := hT.info
  obtain ⟨z, h1, h2⟩ := hzz hz
  have hzr : (zeroValue t).run E.P w = .ok z w := by unfold zeroValue typeInfo; simp [hi, h1]
  refine op_value (u := .pointer (some ⟨w.heap.size, 0, none⟩)) (w' := w.alloc (.cells z.cells t)) (g' := ⟨g.imm, upd g.blk d (some w.heap.size), g.val⟩) ?_ hk ?_
  · unfold execOp
    rw [ho]
    simp [Instr.alloc, hzr, newVar, newRow]
  · rw [hdst]
    exact rel_box h (hd d hdst) hnone t (zerosB_reps w g s.hp _ _ h2)

theorem sound_box {t : TypeId} {x : Operand} {d : Nat} (ho : o.op = .box t x) (hdst : o.dst = some d) (h : Rel E s a w g) (hd : ∀ d, o.dst = some d → d < E.nt)
    (hnone : s.hp d = .none) (h1 : ev E.glob s x ≠ .undef) (h2 : ∀ vs, ev E.glob s x ≠ .tup vs) (hk : forceL (ev E.glob s x).cells fun cs => K ⟨upd s.sl d (.ref d 0 0 0), upd s.hp d (.box cs)⟩) : OpOk E o a w K := by
  rw [forceL_eq] at hk
  refine op_value (u := .pointer (some ⟨w.heap.size, 0, none⟩)) (w' := w.alloc (.cells (a.eval x).cells t)) (g' := ⟨g.imm, upd g.blk d (some w.heap.size), g.val⟩) ?_ hk ?_
  · unfold execOp
    rw [ho]
    simp [Instr.box, newVar, newRow]
  · rw [hdst]
    exact rel_box h (hd d hdst) hnone t ((rel_ev h x).cells h1 h2)

end Go.Proofs.YtdfneaponidfgaaDoor.Eng
/- The engine, part J: stores. -/
set_option linter.unusedVariables false
set_option linter.unusedSimpArgs false
namespace Go.Proofs.YtdfneaponidfgaaDoor.Eng
open Go

variable {E : Env} {s : St} {a : Act} {w : World} {g : Gh} {T : Tab} {C : Ctr} {q : Bool} {o : Oper} {K : St → Prop}

theorem setVals_eq : ∀ (vs us : List Value) (off : Nat), off + vs.length ≤ us.length → setVals us off vs = us.take off ++ vs ++ us.drop (off + vs.length)
  | [], us, off, _ => by simp [setVals]
  | v :: vs, us, off, h => by
    simp only [setVals]
    rw [setVals_eq vs _ (off + 1) (by simp at h ⊢; omega)]
    simpa using list_seg_step us off v vs (by simpa using h)

theorem leaves_one {hp : Nat → Obj} : ∀ {cs : List V} {us : List Value}, leavesB cs = true → RepVs w g hp cs us → ∀ u ∈ us, u.oneCell' = true
  | [], us, _, h, u, hu => by simp only [RepVs] at h; subst h; simp at hu
  | c :: cs, us, hl, h, u, hu => by
    simp only [RepVs] at h
    obtain ⟨u', us', rfl, h1, h2⟩ := h
    unfold leavesB at hl
    split at hl
    · rename_i hlf
      rcases List.mem_cons.1 hu with rfl | hu
      · exact h1.one hlf
      · exact leaves_one hl h2 u hu
    · simp at hl

theorem run_storeVarT {P : Program} {t : Nat} {ti : TI} (hT : TIok P t ti) {b off : Nat} {cur : Array Value} {e : TypeId} {v : Value} (hb : w.heap[b]? = some (.cells cur e (0, 0))) (hs : v.cells.size = ti.size)
    (hfit : off + ti.size ≤ cur.size) (h1 : ∀ u ∈ v.cells.toList, u.oneCell' = true) :
    (storeVar t ⟨b, off, none⟩ v).run P w = .ok () (w.setRow b (cur.toList.take off ++ v.cells.toList ++ cur.toList.drop (off + ti.size)).toArray) := by
  unfold storeVar
  simp only [Sem.run_bind, run_sizeOfT hT, Result.andThen_ok, hs, ne_eq, not_true_eq_false, if_false]
  have := run_storeCells_at P b off e v.cells.toList 0 cur w hb (by simp; omega) h1
  simpa [hs] using this

theorem leafs_cells {hp : Nat → Obj} : ∀ {cs : List V} {us : List Value} {l : List D}, leafs (leaf0 (fun _ => .none)) cs = some l → RepVs w g hp cs us →
    l.length = us.length ∧ (∀ (i : Nat) x u, l[i]? = some x → us[i]? = some u → RepD w g.imm x u) ∧ ∀ u ∈ us, u.oneCell' = true
  | [], us, l, hl, h => by
    simp only [leafs, Option.some.injEq] at hl
    simp only [RepVs] at h
    subst hl; subst h
    simp
  | c :: cs, us, l, hl, h => by
    simp only [RepVs] at h
    obtain ⟨u, us', rfl, h1, h2⟩ := h
    unfold leafs at hl
    split at hl
    · rename_i x xs hx hxs
      injection hl with hl
      subst hl
      obtain ⟨i1, i2, i3⟩ := leafs_cells hxs h2
      have hr : RepD w g.imm x u ∧ u.oneCell' = true := by
        unfold leaf0 at hx
        split at hx
        · injection hx with hx; subst hx
          exact ⟨by simpa only [RepV] using h1, h1.one rfl⟩
        · injection hx with hx; subst hx
          refine ⟨?_, h1.one rfl⟩
          simp only [RepV] at h1
          exact h1.2.1
        · simp at hx
        · simp at hx
        · simp at hx
      refine ⟨by simp [i1], fun i y u' hy hu' => ?_, fun u' hu' => ?_⟩
      · cases i with
        | zero => simp at hy hu'; subst hy; subst hu'; exact hr.1
        | succ i => exact i2 i y u' (by simpa using hy) (by simpa using hu')
      · rcases List.mem_cons.1 hu' with rfl | hu'
        · exact hr.2
        · exact i3 u' hu'
    · simp at hl

theorem sound_store {t : TypeId} {p x : Operand} {ti : TI} (ho : o.op = .store t p x) (hT : TIok E.P t ti) (h : Rel E s a w g) (hd : ∀ d, o.dst = some d → d < E.nt)
    (hk : match ev E.glob s p with
      | .ref id row esz off => match s.hp id, Nat.beq (ev E.glob s x).cells.length ti.size with
        | .box cells, true => match Nat.ble (off + ti.size) cells.length, row, leavesB (ev E.glob s x).cells with
          | true, 0, true => forceL (setCells cells off (ev E.glob s x).cells) fun cs => putK ⟨s.sl, upd s.hp id (.box cs)⟩ o.dst .undef K
          | _, _, _ => False
        | .arr full e rows, true => match Nat.beq e esz, leafs (leaf0 (fun _ => .none)) (ev E.glob s x).cells with
          | true, some l => ∃ r, rows[row]? = some r ∧ match Nat.ble (off + ti.size) r.length with
            | true => putK ⟨s.sl, upd s.hp id (.arr full e (rows.set row (r.take off ++ l ++ r.drop (off + ti.size))))⟩ o.dst .undef K
            | false => False
          | _, _ => False
        | _, _ => False
      | _ => False) : OpOk E o a w K := by
  have hp := rel_ev h p
  have hx := rel_ev h x
  have hex : execOp a.eval o = (do Instr.storeAt t (a.eval p) (a.eval x); pure .skip) := by unfold execOp; rw [ho]
  split at hk
  · rename_i id row esz off he
    rw [he] at hp
    simp only [RepV] at hp
    obtain ⟨hu, hng, b, hb, hv⟩ := hp
    have hob := h.objs id
    split at hk
    · rename_i cells hid hlen
      rw [hid] at hob
      have hlen := Nat.eq_of_beq_eq_true hlen
      split at hk
      · rename_i hle hlv
        have hle := Nat.le_of_ble_eq_true hle
        rw [forceL_eq, putK_eq] at hk
        obtain ⟨b', us, e, hb', hcell, hr, hni⟩ := hob
        rw [hb] at hb'; injection hb' with hb'; subst hb'
        have hne1 : ev E.glob s x ≠ .undef := fun e => by rw [e] at hlv; simp [V.cells, leavesB, V.leaf] at hlv
        have hne2 : ∀ vs, ev E.glob s x ≠ .tup vs := fun vs e => by rw [e] at hlv; simp [V.cells, leavesB, V.leaf] at hlv
        have hxc := hx.cells hne1 hne2
        have hsz : (a.eval x).cells.size = ti.size := by have := hxc.len; simp at this; omega
        have hul := hr.len
        have hfit : off + ti.size ≤ us.size := by simp at hul; omega
        have hrun := run_storeVarT hT hcell hsz hfit (leaves_one hlv hxc)
        refine op_skip (w' := w.setRow b (us.toList.take off ++ (a.eval x).cells.toList ++ us.toList.drop (off + ti.size)).toArray) (g' := g) ?_ hk ?_
        · rw [hex, hv]
          simp only [Nat.zero_mul, Nat.zero_add, Instr.storeAt, Instr.sureAddr, Sem.run_bind, Sem.run_pure, Result.andThen_ok, hrun]
        · have hrw := rel_write (w' := w.setRow b (us.toList.take off ++ (a.eval x).cells.toList ++ us.toList.drop (off + ti.size)).toArray) (ob := .box (setCells cells off (ev E.glob s x).cells)) h (by rw [hid]; rfl) rfl (by simp) hb (by simp) (fun b' hb' => setRow_other w b b' _ hb') hni
            (fun e' => ⟨b, _, e, hb, setRow_heap w b us _ e _ hcell, by
              have h1 := repVs_setCells off hr hxc
              rw [setVals_eq _ _ _ (by simp; omega)] at h1
              simp only [Array.length_toList, hsz] at h1
              exact RepVs.ext e' _ _ h1, hni⟩)
          exact rel_put hrw (by simp [RepV]) hd
      · exact hk.elim
    · rename_i full e rows hid hlen
      rw [hid] at hob
      have hlen := Nat.eq_of_beq_eq_true hlen
      split at hk
      · rename_i l hee hl
        obtain rfl := Nat.eq_of_beq_eq_true hee
        obtain ⟨r, hrr, hk⟩ := hk
        split at hk
        · rename_i hle
          have hle := Nat.le_of_ble_eq_true hle
          rw [putK_eq] at hk
          obtain ⟨A, c, h1, h2, h3, h4, h5, h6, h7⟩ := hob
          obtain ⟨h8, h9, us, ee, hcell, hcz, h10⟩ := h7 b hb
          have hne1 : ev E.glob s x ≠ .undef := fun e => by rw [e] at hl; simp [V.cells, leafs, leaf0] at hl
          have hne2 : ∀ vs, ev E.glob s x ≠ .tup vs := fun vs e => by rw [e] at hl; simp [V.cells, leafs, leaf0] at hl
          have hxc := hx.cells hne1 hne2
          obtain ⟨l1, l2, l3⟩ := leafs_cells hl hxc
          have hsz : (a.eval x).cells.size = ti.size := by have := hxc.len; simp at this; omega
          have hlsz : l.length = ti.size := by simp at l1; omega
          have hrl := h5 row r hrr
          have hrow := (List.getElem?_eq_some_iff.1 hrr).1
          have hfit : row * e + off + ti.size ≤ us.size := by
            rcases Nat.eq_zero_or_pos (off + ti.size) with hz | hz
            · rcases Nat.eq_zero_or_pos e with he0 | he0
              · subst he0; omega
              · obtain ⟨u, hu', _⟩ := h10 row r hrr 0 _ (List.getElem?_eq_getElem (by omega))
                have := (Array.getElem?_eq_some_iff.1 hu').1
                omega
            · obtain ⟨u, hu', _⟩ := h10 row r hrr (off + ti.size - 1) _ (List.getElem?_eq_getElem (by omega))
              have := (Array.getElem?_eq_some_iff.1 hu').1
              omega
          have hrun := run_storeVarT (off := row * e + off) hT hcell hsz hfit l3
          refine op_skip (w' := w.setRow b (us.toList.take (row * e + off) ++ (a.eval x).cells.toList ++ us.toList.drop (row * e + off + ti.size)).toArray) (g' := g) ?_ hk ?_
          · rw [hex, hv]
            simp only [Instr.storeAt, Instr.sureAddr, Sem.run_bind, Sem.run_pure, Result.andThen_ok, hrun]
          · have hrw := rel_write (w' := w.setRow b (us.toList.take (row * e + off) ++ (a.eval x).cells.toList ++ us.toList.drop (row * e + off + ti.size)).toArray) (ob := .arr full e (rows.set row (r.take off ++ l ++ r.drop (off + ti.size)))) h (by rw [hid]; rfl) rfl (by simp) hb (by simp) (fun b' hb' => setRow_other w b b' _ hb') h9
              (fun e' => ⟨A, c, by simpa using h1, by simpa using h2, by simpa using h3, by simpa using h4, fun i r' hi => by
                rw [List.getElem?_set] at hi
                by_cases hri : row = i
                · rw [if_pos hri] at hi
                  rw [if_pos (by omega)] at hi
                  injection hi with hi
                  subst hi
                  simp; omega
                · rw [if_neg hri] at hi
                  exact h5 i r' hi, fun hn => by rw [hb] at hn; simp at hn, fun b' hb' => by
                rw [hb] at hb'; injection hb' with hb'; subst hb'
                refine ⟨h8, h9, _, ee, setRow_heap w b us _ ee _ hcell, by simp; omega, fun i r' hi j y hj => ?_⟩
                simp only [List.getElem?_toArray]
                rw [List.getElem?_set] at hi
                have hltk : (us.toList.take (row * e + off)).length = row * e + off := by simp; omega
                by_cases hin : i = row
                · rw [if_pos hin.symm, if_pos (by omega)] at hi
                  injection hi with hi
                  subst hi
                  subst hin
                  have hltr : (r.take off).length = off := by simp; omega
                  have hjl : j < e := by
                    have := (List.getElem?_eq_some_iff.1 hj).1
                    simp at this; omega
                  rcases Nat.lt_or_ge j off with hj1 | hj1
                  · rw [List.append_assoc, List.getElem?_append_left (by omega), List.getElem?_take, if_pos hj1] at hj
                    obtain ⟨u, hu1, hu2⟩ := h10 i r hrr j y hj
                    refine ⟨u, ?_, hu2.ext e'.ext⟩
                    rw [List.append_assoc, List.getElem?_append_left (by omega), List.getElem?_take, if_pos (by omega)]
                    simpa using hu1
                  · rcases Nat.lt_or_ge j (off + ti.size) with hj2 | hj2
                    · rw [List.append_assoc, List.getElem?_append_right (by omega), List.getElem?_append_left (by omega), hltr] at hj
                      have hjv : j - off < (a.eval x).cells.toList.length := by simp; omega
                      refine ⟨_, ?_, (l2 _ _ _ hj (List.getElem?_eq_getElem hjv)).ext e'.ext⟩
                      rw [List.append_assoc, List.getElem?_append_right (by omega), List.getElem?_append_left (by rw [hltk]; simp; omega), hltk, show i * e + j - (i * e + off) = j - off by omega, List.getElem?_eq_getElem hjv]
                    · rw [List.append_assoc, List.getElem?_append_right (by omega), List.getElem?_append_right (by omega), hltr, List.getElem?_drop] at hj
                      obtain ⟨u, hu1, hu2⟩ := h10 i r hrr _ y hj
                      refine ⟨u, ?_, hu2.ext e'.ext⟩
                      rw [List.append_assoc, List.getElem?_append_right (by omega), List.getElem?_append_right (by rw [hltk]; simp; omega), hltk, List.getElem?_drop]
                      simp only [Array.length_toList, Array.getElem?_toList]
                      rw [← hu1]; congr 1; omega
                · rw [if_neg (fun e => hin e.symm)] at hi
                  obtain ⟨u, hu1, hu2⟩ := h10 i r' hi j y hj
                  refine ⟨u, ?_, hu2.ext e'.ext⟩
                  have hjl : j < e := by
                    have := (List.getElem?_eq_some_iff.1 hj).1
                    have := h5 i r' hi; omega
                  rcases Nat.lt_or_ge i row with hlt | hge
                  · have hm : i * e + e ≤ row * e := by rw [← Nat.succ_mul]; exact Nat.mul_le_mul_right _ hlt
                    rw [List.append_assoc, List.getElem?_append_left (by omega), List.getElem?_take, if_pos (by omega)]
                    simpa using hu1
                  · have hm : row * e + e ≤ i * e := by rw [← Nat.succ_mul]; exact Nat.mul_le_mul_right _ (by omega)
                    rw [List.append_assoc, List.getElem?_append_right (by omega), List.getElem?_append_right (by rw [hltk]; simp; omega), hltk, List.getElem?_drop]
                    simp only [Array.length_toList, Array.getElem?_toList]
                    rw [← hu1]; congr 1; omega⟩)
            exact rel_put hrw (by simp [RepV]) hd
        · exact hk.elim
      · exact hk.elim
    · exact hk.elim
  · exact hk.elim

end Go.Proofs.YtdfneaponidfgaaDoor.Eng
/- The engine, part K: slices made, and appended to. -/
set_option linter.unusedVariables false
set_option linter.unusedSimpArgs false
namespace Go.Proofs.YtdfneaponidfgaaDoor.Eng
open Go

variable {E : Env} {s : St} {a : Act} {w : World} {g : Gh} {T : Tab} {C : Ctr} {q : Bool} {o : Oper} {K : St → Prop}

/-- The cells of a value that is read as a slice, in a row. -/
theorem rows_cells {hp : Nat → Obj} {v : V} {u : Value} {e : Nat} {rows : List (List D)} (he : e ≠ 0) (ho : ∀ id, ObjRep w g hp id (hp id)) (h : RepV w g hp v u) (hr : rowsOf hp v = some (e, rows)) :
    ∃ (A : Option Addr) (c : Nat) (news : List Value), u = .slice A rows.length c ∧ rows.length ≤ c ∧ rows.length ≤ 2 ^ 48 ∧ news.length = rows.length * e ∧
      (rows ≠ [] → ∃ b off, A = some ⟨b, off, none⟩ ∧ ∀ (j : Nat) x, news[j]? = some x → w.cell? ⟨b, off + j, none⟩ = some x) ∧
      (∀ (i : Nat) r, rows[i]? = some r → r.length = e ∧ ∀ (j : Nat) x, r[j]? = some x → ∃ y, news[i * e + j]? = some y ∧ RepD w g.imm x y) ∧ ∀ x ∈ news, x.oneCell' = true := by
  have build : ∀ (val : Nat → Nat → Value), (∀ (i : Nat) r, rows[i]? = some r → r.length = e ∧ ∀ (j : Nat) x, r[j]? = some x → RepD w g.imm x (val i j)) →
      ∃ news : List Value, news = (List.range (rows.length * e)).map (fun k => val (k / e) (k % e)) ∧ news.length = rows.length * e ∧
      (∀ (i : Nat) r, rows[i]? = some r → r.length = e ∧ ∀ (j : Nat) x, r[j]? = some x → ∃ y, news[i * e + j]? = some y ∧ RepD w g.imm x y) ∧ ∀ x ∈ news, x.oneCell' = true := by
    intro val hv
    refine ⟨_, rfl, by simp, fun i r hi => ⟨(hv i r hi).1, fun j x hj => ?_⟩, fun x hx => ?_⟩
    · obtain ⟨hl, hv⟩ := hv i r hi
      have hil := (List.getElem?_eq_some_iff.1 hi).1
      have hjl : j < e := by have := (List.getElem?_eq_some_iff.1 hj).1; omega
      refine ⟨val i j, ?_, hv j x hj⟩
      have hk : i * e + j < rows.length * e := by
        have : i * e + e ≤ rows.length * e := by rw [← Nat.succ_mul]; exact Nat.mul_le_mul_right _ hil
        omega
      have h1 : (i * e + j) / e = i := by rw [Nat.mul_comm, Nat.mul_add_div (by omega)]; simp [Nat.div_eq_of_lt hjl]
      have h2 : (i * e + j) % e = j := by rw [Nat.mul_comm, Nat.mul_add_mod]; exact Nat.mod_eq_of_lt hjl
      simp [hk, h1, h2]
    · obtain ⟨k, hk, rfl⟩ := List.mem_map.1 hx
      have hk : k < rows.length * e := by simpa using hk
      have hi : k / e < rows.length := by rw [Nat.div_lt_iff_lt_mul (by omega)]; exact hk
      obtain ⟨hl, hv⟩ := hv (k / e) _ (List.getElem?_eq_getElem hi)
      have hj : k % e < rows[k / e].length := by rw [hl]; exact Nat.mod_lt _ (by omega)
      exact RepV.one (g := g) (hp := hp) (v := .d rows[k / e][k % e]) (by simp only [RepV]; exact hv _ _ (List.getElem?_eq_getElem hj)) rfl
  have hD : ∀ (full : Bool), RepD w g.imm (.slc full e rows) u → ∃ (A : Option Addr) (c : Nat) (news : List Value), u = .slice A rows.length c ∧ rows.length ≤ c ∧ rows.length ≤ 2 ^ 48 ∧ news.length = rows.length * e ∧
      (rows ≠ [] → ∃ b off, A = some ⟨b, off, none⟩ ∧ ∀ (j : Nat) x, news[j]? = some x → w.cell? ⟨b, off + j, none⟩ = some x) ∧
      (∀ (i : Nat) r, rows[i]? = some r → r.length = e ∧ ∀ (j : Nat) x, r[j]? = some x → ∃ y, news[i * e + j]? = some y ∧ RepD w g.imm x y) ∧ ∀ x ∈ news, x.oneCell' = true := by
    intro full h
    cases h with
    | slc _ esz _ A c vals hc hn hf hrow hA hcell hrep =>
      obtain ⟨news, rfl, h1, h2, h3⟩ := build vals (fun i r hi => ⟨hrow i r hi, fun j x hj => hrep i r hi j x hj⟩)
      refine ⟨A, c, _, rfl, hc, hn, h1, fun hne => ?_, h2, h3⟩
      obtain ⟨b, off, hA'⟩ := hA hne
      refine ⟨b, off, hA', fun k x hk => ?_⟩
      have hk' : k < rows.length * e := by have := (List.getElem?_eq_some_iff.1 hk).1; simpa using this
      have hi : k / e < rows.length := by rw [Nat.div_lt_iff_lt_mul (by omega)]; exact hk'
      have hj : k % e < rows[k / e].length := by rw [hrow _ _ (List.getElem?_eq_getElem hi)]; exact Nat.mod_lt _ (by omega)
      have := (hcell b off hA' (k / e) _ (List.getElem?_eq_getElem hi) (k % e) _ (List.getElem?_eq_getElem hj)).2
      simp [hk'] at hk
      rw [← hk, ← this]
      congr 2
      have := Nat.div_add_mod k e
      rw [Nat.mul_comm] at this
      omega
  unfold rowsOf at hr
  split at hr
  · injection hr with hr; injection hr with h1 h2; subst h1; subst h2
    simp only [RepV] at h
    exact hD _ h
  · injection hr with hr; injection hr with h1 h2; subst h1; subst h2
    simp only [RepV] at h
    exact hD _ h.2.1
  · rename_i id
    split at hr
    · rename_i full e' rows' hid
      injection hr with hr; injection hr with h1 h2; subst h1; subst h2
      simp only [RepV] at h
      have hob := ho id
      rw [hid] at hob
      obtain ⟨A, c, h1, h2, h3, h4, h5, h6, h7⟩ := hob
      cases hblk : g.blk id with
      | none =>
        have := (h6 hblk).1
        subst this
        exact ⟨A, c, [], by rw [h.2.1, h1], h2, h3, by simp, by simp, by simp, by simp⟩
      | some b =>
        obtain ⟨h8, h9, us, t, h10, _, h11⟩ := h7 b hblk
        obtain ⟨news, rfl, k1, k2, k3⟩ := build (fun i j => (us[i * e' + j]?).getD Go.undef) (fun i r hi => ⟨h5 i r hi, fun j x hj => by
          obtain ⟨y, hy, hry⟩ := h11 i r hi j x hj
          simpa [hy] using hry⟩)
        refine ⟨A, c, _, by rw [h.2.1, h1], h2, h3, k1, fun hne => ⟨b, 0, h8, fun k x hk => ?_⟩, k2, k3⟩
        have hk' : k < rows'.length * e' := by have := (List.getElem?_eq_some_iff.1 hk).1; simpa using this
        have hi : k / e' < rows'.length := by rw [Nat.div_lt_iff_lt_mul (by omega)]; exact hk'
        have hj : k % e' < rows'[k / e'].length := by rw [h5 _ _ (List.getElem?_eq_getElem hi)]; exact Nat.mod_lt _ (by omega)
        obtain ⟨y, hy, _⟩ := h11 (k / e') _ (List.getElem?_eq_getElem hi) (k % e') _ (List.getElem?_eq_getElem hj)
        simp [hk', hy] at hk
        rw [cell_of h10, Nat.zero_add]
        have := Nat.div_add_mod k e'
        rw [Nat.mul_comm] at this
        rw [this] at hy
        rw [hy, hk]
    · simp at hr
  · rename_i id e' lo n
    split at hr
    · rename_i full e2 rows' hid
      split at hr
      · rename_i hee
        obtain rfl := Nat.eq_of_beq_eq_true hee
        injection hr with hr; injection hr with h1 h2; subst h1; subst h2
        simp only [RepV] at h
        have hob := ho id
        rw [hid] at hob
        obtain ⟨A, c, h1, h2, h3, h4, h5, h6, h7⟩ := hob
        obtain ⟨_, _, A1, N, c1, A', q1, q2, q3, q4⟩ := h
        rw [h1] at q1
        injection q1 with q1 q5 q6
        subst q1; subst q5; subst q6
        have hl : ((rows'.drop lo).take n).length = n := by simp; omega
        have hget : ∀ (i : Nat) r, ((rows'.drop lo).take n)[i]? = some r → i < n ∧ rows'[lo + i]? = some r := fun i r hi => by
          rw [List.getElem?_take] at hi
          split at hi
          · exact ⟨by assumption, by simpa using hi⟩
          · simp at hi
        cases hblk : g.blk id with
        | none =>
          have := (h6 hblk).1
          subst this
          have hn0 : n = 0 := by simp at q2; omega
          subst hn0
          exact ⟨A', c - lo, [], by simpa using q3, by simp, by simp, by simp, by simp, by simp, by simp⟩
        | some b =>
          obtain ⟨h8, h9, us, t, h10, _, h11⟩ := h7 b hblk
          obtain ⟨news, rfl, k1, k2, k3⟩ := build (fun i j => (us[(lo + i) * e' + j]?).getD Go.undef) (fun i r hi => by
            obtain ⟨_, hi⟩ := hget i r hi
            refine ⟨h5 _ r hi, fun j x hj => ?_⟩
            obtain ⟨y, hy, hry⟩ := h11 _ r hi j x hj
            simpa [hy] using hry)
          refine ⟨A', c - lo, _, by rw [hl]; exact q3, by rw [hl]; omega, by rw [hl]; omega, k1, fun hne => ⟨b, 0 + lo * e', ?_, fun k x hk => ?_⟩, k2, k3⟩
          · have hn0 : n ≠ 0 := by rintro rfl; simp at hne
            rw [q4 (by omega), h8]; simp [Addr.add_lit]
          · have hk' : k < n * e' := by have := (List.getElem?_eq_some_iff.1 hk).1; simp only [List.length_map, List.length_range, hl] at this; exact this
            have hi : k / e' < n := by rw [Nat.div_lt_iff_lt_mul (by omega)]; exact hk'
            have hir : lo + k / e' < rows'.length := by omega
            have hj : k % e' < rows'[lo + k / e'].length := by rw [h5 _ _ (List.getElem?_eq_getElem hir)]; exact Nat.mod_lt _ (by omega)
            obtain ⟨y, hy, _⟩ := h11 (lo + k / e') _ (List.getElem?_eq_getElem hir) (k % e') _ (List.getElem?_eq_getElem hj)
            have hk'' : k < ((rows'.drop lo).take n).length * e' := by rw [hl]; exact hk'
            simp only [List.getElem?_map, List.getElem?_range hk'', Option.map_some, Option.some.injEq] at hk
            rw [hy] at hk
            simp only [Option.getD_some] at hk
            subst hk
            rw [cell_of h10, ← hy]
            congr 1
            have := Nat.div_add_mod k e'
            rw [Nat.mul_comm] at this
            rw [Nat.add_mul]; omega
      · simp at hr
    · simp at hr
  · simp at hr

section runs
variable {P : Program} {t ty e : TypeId} {i : TypeInfo}

theorem run_firstCells_row {w' : World} (hh : w'.heap = w.heap) {A : Option Addr} {m c size : Nat} {news : List Value} (hl : news.length = m * size)
    (hA : news ≠ [] → ∃ b off, A = some ⟨b, off, none⟩ ∧ ∀ (j : Nat) x, news[j]? = some x → w.cell? ⟨b, off + j, none⟩ = some x) :
    (Builtin.firstCells size m (.slice A m c)).run P w' = .ok news.toArray w' := by
  cases A with
  | none =>
    have : news = [] := by
      rcases news with _ | ⟨x, xs⟩
      · rfl
      · obtain ⟨b, off, h, _⟩ := hA (by simp)
        simp at h
    subst this
    exact run_firstCells_none w' size m m c
  | some ad =>
    refine run_firstCells_some w' size m ad m c news hl (fun j v hj => ?_)
    obtain ⟨b, off, h, hc⟩ := hA (by rintro rfl; simp at hj)
    injection h with h
    subst h
    rw [addr_add, ← hc j v hj]
    unfold World.cell?
    rw [hh]

theorem run_app_keep (ht : P.underlying t = some (.slice e)) (hi : P.info? e = some i) {B : Option Addr} {n c : Nat} {A : Option Addr} {k : Nat} (hcap : n ≤ c) (w : World) :
    (Builtin.append_ #[t, t] ty #[.slice B n c, .slice A 0 k]).run P w = .ok (.slice B n c) w := by
  have hf : (Builtin.firstCells i.size 0 (.slice A 0 k)).run P w = .ok #[] w := by
    have := run_firstCells_row (P := P) (w := w) (w' := w) rfl (A := A) (m := 0) (c := k) (size := i.size) (news := []) (by simp) (by simp)
    simpa using this
  cases B with
  | none => simp [Builtin.append_, run_underlying ht, sizeOf, typeInfo, hi, Builtin.lenOf, hcap, hf]
  | some b => simp [Builtin.append_, run_underlying ht, sizeOf, typeInfo, hi, Builtin.lenOf, hcap, hf, storeCells]

theorem run_app_room (ht : P.underlying t = some (.slice e)) (hi : P.info? e = some i) {b sLen sCap : Nat} {cur : Array Value} {tt : TypeId} (hg : w.heap[b]? = some (.cells cur tt (0, 0)))
    {A : Option Addr} {m c : Nat} {news : List Value} (hl : news.length = m * i.size) (hA : news ≠ [] → ∃ b off, A = some ⟨b, off, none⟩ ∧ ∀ (j : Nat) x, news[j]? = some x → w.cell? ⟨b, off + j, none⟩ = some x)
    (h1 : ∀ u ∈ news, u.oneCell' = true) (hroom : sLen + m ≤ sCap) (hfit : sLen * i.size + news.length ≤ cur.size) :
    (Builtin.append_ #[t, t] ty #[.slice (some ⟨b, 0, none⟩) sLen sCap, .slice A m c]).run P w =
      .ok (.slice (some ⟨b, 0, none⟩) (sLen + m) sCap) (w.setRow b (cur.toList.take (sLen * i.size) ++ news ++ cur.toList.drop (sLen * i.size + news.length)).toArray) := by
  have hf := run_firstCells_row (P := P) (w := w) (w' := w) rfl (A := A) (m := m) (c := c) (size := i.size) hl hA
  have hst := run_storeCells_at P b (sLen * i.size) tt news 0 cur w hg (by simpa using hfit) h1
  simp only [Nat.add_zero] at hst
  simp [Builtin.append_, run_underlying ht, sizeOf, typeInfo, hi, Builtin.lenOf, hroom, hf, Addr.add_lit, hst]

theorem run_app_grow (ht : P.underlying t = some (.slice e)) (hi : P.info? e = some i) {z : Value} (hz : i.zero = some z) {B : Option Addr} {sLen sCap : Nat} {olds : List Value} (hlo : olds.length = sLen * i.size)
    (hB : olds ≠ [] → ∃ b off, B = some ⟨b, off, none⟩ ∧ ∀ (j : Nat) x, olds[j]? = some x → w.cell? ⟨b, off + j, none⟩ = some x)
    {A : Option Addr} {m c : Nat} {news : List Value} (hl : news.length = m * i.size) (hA : news ≠ [] → ∃ b off, A = some ⟨b, off, none⟩ ∧ ∀ (j : Nat) x, news[j]? = some x → w.cell? ⟨b, off + j, none⟩ = some x)
    (hg : sCap < sLen + m) (h63 : sLen + m ≤ 2 ^ 47) (hb : (sLen + m) * i.bytes ≤ 2 ^ 47) :
    (Builtin.append_ #[t, t] ty #[.slice B sLen sCap, .slice A m c]).run P w =
      .ok (.slice (some ⟨w.heap.size, 0, none⟩) (sLen + m) (grownCap w (sLen + m) sCap e))
        (w.drew.alloc (.cells (olds.toArray ++ news.toArray ++ Builtin.zeroCells z.cells (grownCap w (sLen + m) sCap e - (sLen + m))) e)) := by
  have hn : ¬ (sLen + m ≤ sCap) := by omega
  have h63' : ¬ (9223372036854775807 < ((sLen : Int) + (m : Int))) := by omega
  have hfit := growslice_fits (old := sCap) (need := sLen + m) (bytes := i.bytes) hg (by omega)
  have h48' : ¬ (281474976710656 < Builtin.nextslicecap (sLen + m) sCap * i.bytes) := by omega
  have hf := run_firstCells_row (P := P) (w := w) (w' := w.drew) rfl (A := A) (m := m) (c := c) (size := i.size) hl hA
  have hfo := run_firstCells_row (P := P) (w := w) (w' := w.drew) rfl (A := B) (m := sLen) (c := sCap) (size := i.size) hlo hB
  simp [Builtin.append_, run_underlying ht, sizeOf, typeInfo, zeroValue, hi, hz, Builtin.lenOf, hn, h63', h48', Question.forced, hf, hfo, newRow, grownCap]
  congr 2
  apply Array.ext'
  simp [List.append_assoc]
end runs

/-- Rows that lie in a block's first cells. -/
theorem repD_own {w' : World} {imm' : Imm} {b e c : Nat} {us : Array Value} {tt : TypeId} {rows : List (List D)} (hb : w'.heap[b]? = some (.cells us tt (0, 0))) (himm : ∀ o, o < rows.length * e → imm' b o) (hc : rows.length ≤ c) (hn : rows.length ≤ 2 ^ 48)
    (hrow : ∀ (i : Nat) (r : List D), rows[i]? = some r → r.length = e ∧ ∀ (j : Nat) (x : D), r[j]? = some x → ∃ u, us[i * e + j]? = some u ∧ RepD w' imm' x u) :
    RepD w' imm' (.slc false e rows) (.slice (some ⟨b, 0, none⟩) rows.length c) := by
  refine .slc false e rows _ c (fun i j => (us[i * e + j]?).getD Go.undef) hc hn (by simp) (fun i r hi => (hrow i r hi).1) (fun _ => ⟨b, 0, rfl⟩) (fun b' o' he i r hi j x hj => ?_) (fun i r hi j x hj => ?_)
  · injection he with he; injection he with h1 h2; subst h1; subst h2
    obtain ⟨hl, hx⟩ := hrow i r hi
    obtain ⟨u, hu, _⟩ := hx j x hj
    have hil := (List.getElem?_eq_some_iff.1 hi).1
    have hjl : j < e := by have := (List.getElem?_eq_some_iff.1 hj).1; omega
    have hm : i * e + e ≤ rows.length * e := by rw [← Nat.succ_mul]; exact Nat.mul_le_mul_right _ hil
    refine ⟨himm _ (by omega), ?_⟩
    rw [cell_of hb, Nat.zero_add, hu]; rfl
  · obtain ⟨_, hx⟩ := hrow i r hi
    obtain ⟨u, hu, hr⟩ := hx j x hj
    simpa [hu] using hr

theorem append_args {c : Call} {x y : Operand} {t : TypeId} (hx : c.args.toList = [x, y]) (ht : c.argTypes.toList = [t, t]) : c.args.map a.eval = #[a.eval x, a.eval y] ∧ c.argTypes = #[t, t] :=
  ⟨Array.ext' (by simp [hx]), Array.ext' (by simp [ht])⟩

/-- Appending to a slice with no room behind it: a new one. -/
theorem sound_append_new {c : Call} {x y : Operand} {t : TypeId} {d : Nat} {ti : TI} (ho : o.op = .call c) (hb : c.callee = .builtin .append) (hx : c.args.toList = [x, y]) (ht : c.argTypes.toList = [t, t]) (hdst : o.dst = some d)
    (hT : TIok E.P t ti) (hg : ti.slc = true) (h : Rel E s a w g) (hd : ∀ d, o.dst = some d → d < E.nt) {rows rows2 : List (List D)}
    (hxe : ev E.glob s x = .d (.slc true ti.esz rows)) (hy : rowsOf s.hp (ev E.glob s y) = some (ti.esz, rows2)) (hnone : s.hp d = .none)
    (hb1 : (rows.length + rows2.length) * ti.ebytes ≤ 2 ^ 47) (hb2 : rows.length + rows2.length ≤ 2 ^ 47)
    (hk : K ⟨upd s.sl d (.osl d ti.esz (rows ++ rows2)), upd s.hp d (.grow ti.esz (rows.length + rows2.length))⟩) : OpOk E o a w K := by
  obtain ⟨hu, hz, ie, hi, hsz, hby, z, hz1, hz2, hzc⟩ := hT.slc hg
  obtain ⟨ha1, ha2⟩ := append_args (a := a) hx ht
  obtain ⟨cs, hex⟩ := exec_builtin (o := o) (a := a) ho hb
  rw [ha1, ha2] at hex
  have hvx := rel_ev h x
  have hvy := rel_ev h y
  obtain ⟨A2, c2, news2, e2, _, _, l2, p2, r2, o2⟩ := rows_cells hz h.objs hvy hy
  have hx1 : rowsOf s.hp (ev E.glob s x) = some (ti.esz, rows) := by rw [hxe]; rfl
  obtain ⟨A1, c1, news1, e1, hc1, hn1, l1, p1, r1, o1⟩ := rows_cells hz h.objs hvx hx1
  have hfull : c1 = rows.length := by
    rw [hxe] at hvx
    simp only [RepV] at hvx
    rw [e1] at hvx
    cases hvx with
    | slc _ _ _ _ _ vals hc hn hf hrow hA hcell hrep => exact hf rfl
  subst hfull
  rw [e1, e2] at hex
  by_cases hm : rows2.length = 0
  · have hr2 : rows2 = [] := List.length_eq_zero_iff.1 hm
    subst hr2
    have hrun := run_app_keep (P := E.P) (ty := o.type) hu hi (B := A1) (n := rows.length) (c := rows.length) (A := A2) (k := c2) (Nat.le_refl _) w
    obtain ⟨hR, hE⟩ := rel_fresh (ob := .grow ti.esz (rows.length + 0)) (g' := ⟨g.imm, upd g.blk d none, upd g.val d (a.eval x)⟩) (w' := w) h hnone rfl (Nat.le_refl _) (fun _ _ => rfl) (fun _ _ h => h) (fun _ _ h => .inl h) h.bound
      (fun i hi => upd_ne _ _ hi) (fun i hi => upd_ne _ _ hi) (fun b hb => by simp [upd_same] at hb)
      (fun e => ⟨A1, rows.length, by simp [upd_same, e1], by omega, by omega, fun _ => rfl, fun b hb => by simp [upd_same] at hb⟩)
    refine op_value (u := a.eval x) (w' := w) (g' := ⟨g.imm, upd g.blk d none, upd g.val d (a.eval x)⟩) ?_ hk ?_
    · rw [hex, e1]
      simp only [builtin, List.length_nil, hrun, Sem.run_bind, Result.andThen_ok, Sem.run_pure]
    · rw [hdst]
      have hrv : RepV w ⟨g.imm, upd g.blk d none, upd g.val d (a.eval x)⟩ (upd s.hp d (.grow ti.esz (rows.length + 0))) (.osl d ti.esz (rows ++ [])) (a.eval x) := by
        simp only [RepV, upd_same]
        refine ⟨rfl, ?_, fun e' n' he => ?_⟩
        · rw [hxe] at hvx
          simp only [RepV] at hvx
          simpa using hvx.weak
        · simp only [Obj.grow.injEq] at he
          obtain ⟨h1, h2⟩ := he
          exact ⟨h1.symm, by simp; omega, fun _ => trivial⟩
      exact rel_put (dst := some d) hR hrv (by rintro d' ⟨⟩; exact hd d hdst)
  · have hge := grownCap_ge w (rows.length + rows2.length) rows.length ti.elem
    have hrun := run_app_grow (P := E.P) (ty := o.type) (w := w) hu hi hz1 (B := A1) (sLen := rows.length) (sCap := rows.length) (olds := news1) (by rw [l1, hsz]) (fun hne => p1 (by rintro rfl; simp at l1; exact hne l1))
      (A := A2) (m := rows2.length) (c := c2) (news := news2) (by rw [l2, hsz]) (fun hne => p2 (by rintro rfl; simp at l2; exact hne l2)) (by omega) hb2 (by rw [hby]; exact hb1)
    have hcsz : (news1.toArray ++ news2.toArray ++ Builtin.zeroCells z.cells (grownCap w (rows.length + rows2.length) rows.length ti.elem - (rows.length + rows2.length))).size = grownCap w (rows.length + rows2.length) rows.length ti.elem * ti.esz := by
      simp only [Array.size_append, List.size_toArray, size_zeroCells, hzc, l1, l2, ← Nat.add_mul]
      congr 1
      omega
    have hlen : (rows ++ rows2).length = rows.length + rows2.length := by simp
    -- the cells of the new block
    have hrows : ∀ (w' : World) (imm' : Imm), Ext w g.imm w' imm' → ∀ (i : Nat) (r : List D), (rows ++ rows2)[i]? = some r → r.length = ti.esz ∧ ∀ (j : Nat) (x : D), r[j]? = some x →
        ∃ u, (news1.toArray ++ news2.toArray ++ Builtin.zeroCells z.cells (grownCap w (rows.length + rows2.length) rows.length ti.elem - (rows.length + rows2.length)))[i * ti.esz + j]? = some u ∧ RepD w' imm' x u := by
      intro w' imm' ex i r hi
      rcases Nat.lt_or_ge i rows.length with hlt | hge'
      · rw [List.getElem?_append_left hlt] at hi
        obtain ⟨q1, q2⟩ := r1 i r hi
        refine ⟨q1, fun j x hj => ?_⟩
        obtain ⟨u, hu1, hu2⟩ := q2 j x hj
        refine ⟨u, ?_, hu2.ext ex⟩
        have hb := (List.getElem?_eq_some_iff.1 hu1).1
        rw [Array.append_assoc, Array.getElem?_append_left (by simpa using hb)]
        simpa using hu1
      · rw [List.getElem?_append_right hge'] at hi
        obtain ⟨q1, q2⟩ := r2 _ r hi
        refine ⟨q1, fun j x hj => ?_⟩
        obtain ⟨u, hu1, hu2⟩ := q2 j x hj
        refine ⟨u, ?_, hu2.ext ex⟩
        have hb := (List.getElem?_eq_some_iff.1 hu1).1
        have hmul : i * ti.esz = rows.length * ti.esz + (i - rows.length) * ti.esz := by rw [← Nat.add_mul]; congr 1; omega
        rw [Array.append_assoc, Array.getElem?_append_right (by simp; omega), Array.getElem?_append_left (by simp; omega)]
        rw [show i * ti.esz + j - news1.toArray.size = (i - rows.length) * ti.esz + j by simp; omega]
        simpa using hu1
    generalize hcells : (news1.toArray ++ news2.toArray ++ Builtin.zeroCells z.cells (grownCap w (rows.length + rows2.length) rows.length ti.elem - (rows.length + rows2.length))) = cells at hrun hcsz hrows
    generalize hcap : grownCap w (rows.length + rows2.length) rows.length ti.elem = cap at *
    obtain ⟨hR, hE⟩ := rel_fresh (ob := .grow ti.esz (rows.length + rows2.length)) (g' := ⟨fun b o => g.imm b o ∨ (b = w.heap.size ∧ o < (rows.length + rows2.length) * ti.esz), upd g.blk d (some w.heap.size), upd g.val d (.slice (some ⟨w.heap.size, 0, none⟩) (rows.length + rows2.length) cap)⟩)
      (w' := w.drew.alloc (.cells cells ti.elem)) h hnone rfl (by simp) (fun b hb => heap_alloc_lt w.drew _ hb)
      (fun _ _ h => .inl h) (fun b o hi => by rcases hi with hi | ⟨rfl, _⟩; exact .inl hi; exact .inr (Nat.le_refl _))
      (fun b o hi => by
        rcases hi with hi | ⟨rfl, _⟩
        · have := h.bound b o hi; simp; omega
        · simp)
      (fun i hi => upd_ne _ _ hi) (fun i hi => upd_ne _ _ hi) (fun b hb => by simp only [upd_same, Option.some.injEq] at hb; omega)
      (fun e => ⟨some ⟨w.heap.size, 0, none⟩, cap, by simp [upd_same], hge, by omega, fun hn => by simp [upd_same] at hn, fun b hb => by
        simp only [upd_same, Option.some.injEq] at hb
        subst hb
        refine ⟨rfl, fun o ho hi => ?_, cells, ti.elem, heap_alloc_new w.drew _, hcsz⟩
        rcases hi with hi | ⟨_, hi⟩
        · have := h.bound _ _ hi; omega
        · omega⟩)
    refine op_value (w' := w.drew.alloc (.cells cells ti.elem)) ?_ hk (g' := ⟨fun b o => g.imm b o ∨ (b = w.heap.size ∧ o < (rows.length + rows2.length) * ti.esz), upd g.blk d (some w.heap.size), upd g.val d (.slice (some ⟨w.heap.size, 0, none⟩) (rows.length + rows2.length) cap)⟩) ?_
      (u := .slice (some ⟨w.heap.size, 0, none⟩) (rows.length + rows2.length) cap)
    · rw [hex]
      simp only [builtin, hrun, Sem.run_bind, Result.andThen_ok, Sem.run_pure]
    · rw [hdst]
      refine rel_put (dst := some d) hR ?_ (by rintro d' ⟨⟩; exact hd d hdst)
      simp only [RepV, upd_same]
      refine ⟨rfl, ?_, fun e' n' he => ?_⟩
      · have := repD_own (w' := w.drew.alloc (.cells cells ti.elem)) (imm' := fun b o => g.imm b o ∨ (b = w.heap.size ∧ o < (rows.length + rows2.length) * ti.esz)) (b := w.heap.size) (e := ti.esz) (c := cap) (us := cells) (tt := ti.elem) (rows := rows ++ rows2)
          (heap_alloc_new w.drew _) (fun o ho => .inr ⟨rfl, by rw [hlen] at ho; exact ho⟩) (by rw [hlen]; exact hge) (by rw [hlen]; omega) (hrows _ _ hE.ext)
        rw [hlen] at this
        exact this
      · simp only [Obj.grow.injEq] at he
        obtain ⟨h1, h2⟩ := he
        exact ⟨h1.symm, by rw [hlen]; omega, fun _ => trivial⟩

end Go.Proofs.YtdfneaponidfgaaDoor.Eng
/- The engine, part K2: an append onto nothing: an array of the call's own. -/
set_option linter.unusedVariables false
set_option linter.unusedSimpArgs false
namespace Go.Proofs.YtdfneaponidfgaaDoor.Eng
open Go

variable {E : Env} {s : St} {a : Act} {w : World} {g : Gh} {T : Tab} {C : Ctr} {q : Bool} {o : Oper} {K : St → Prop}

theorem sound_append_own {c : Call} {x y : Operand} {t : TypeId} {d : Nat} {ti : TI} (ho : o.op = .call c) (hb : c.callee = .builtin .append) (hx : c.args.toList = [x, y]) (ht : c.argTypes.toList = [t, t]) (hdst : o.dst = some d)
    (hT : TIok E.P t ti) (hg : ti.slc = true) (h : Rel E s a w g) (hd : ∀ d, o.dst = some d → d < E.nt) {rows2 : List (List D)}
    (hxe : ev E.glob s x = .d (.slc true ti.esz [])) (hy : rowsOf s.hp (ev E.glob s y) = some (ti.esz, rows2)) (hnone : s.hp d = .none)
    (hb1 : rows2.length * ti.ebytes ≤ 2 ^ 47) (hb2 : rows2.length ≤ 2 ^ 47)
    (hk : K ⟨upd s.sl d (.own d), upd s.hp d (.arr false ti.esz rows2)⟩) : OpOk E o a w K := by
  obtain ⟨hu, hz, ie, hi, hsz, hby, z, hz1, hz2, hzc⟩ := hT.slc hg
  obtain ⟨ha1, ha2⟩ := append_args (a := a) hx ht
  obtain ⟨cs, hex⟩ := exec_builtin (o := o) (a := a) ho hb
  rw [ha1, ha2] at hex
  have hvx := rel_ev h x
  have hvy := rel_ev h y
  obtain ⟨A2, c2, news2, e2, _, _, l2, p2, r2, o2⟩ := rows_cells hz h.objs hvy hy
  have hx1 : rowsOf s.hp (ev E.glob s x) = some (ti.esz, []) := by rw [hxe]; rfl
  obtain ⟨A1, c1, news1, e1, hc1, hn1, l1, p1, r1, o1⟩ := rows_cells hz h.objs hvx hx1
  have hfull : c1 = 0 := by
    rw [hxe] at hvx
    simp only [RepV] at hvx
    rw [e1] at hvx
    cases hvx with
    | slc _ _ _ _ _ vals hc hn hf hrow hA hcell hrep => exact hf rfl
  subst hfull
  have hnews1 : news1 = [] := List.length_eq_zero_iff.1 (by simpa using l1)
  subst hnews1
  rw [e1, e2] at hex
  by_cases hm : rows2.length = 0
  · have hr2 : rows2 = [] := List.length_eq_zero_iff.1 hm
    subst hr2
    have hrun := run_app_keep (P := E.P) (ty := o.type) hu hi (B := A1) (n := 0) (c := 0) (A := A2) (k := c2) (Nat.le_refl _) w
    obtain ⟨hR, hE⟩ := rel_fresh (ob := .arr false ti.esz []) (g' := ⟨g.imm, upd g.blk d none, upd g.val d (a.eval x)⟩) (w' := w) h hnone rfl (Nat.le_refl _) (fun _ _ => rfl) (fun _ _ h => h) (fun _ _ h => .inl h) h.bound
      (fun i hi => upd_ne _ _ hi) (fun i hi => upd_ne _ _ hi) (fun b hb => by simp [upd_same] at hb)
      (fun e => ⟨A1, 0, by simp [upd_same, e1], by simp, by simp, by simp, by simp, fun _ => ⟨rfl, rfl⟩, fun b hb => by simp [upd_same] at hb⟩)
    refine op_value (u := a.eval x) (w' := w) (g' := ⟨g.imm, upd g.blk d none, upd g.val d (a.eval x)⟩) ?_ hk ?_
    · rw [hex, e1]
      simp only [builtin, List.length_nil, hrun, Sem.run_bind, Result.andThen_ok, Sem.run_pure]
    · rw [hdst]
      have hrv : RepV w ⟨g.imm, upd g.blk d none, upd g.val d (a.eval x)⟩ (upd s.hp d (.arr false ti.esz [])) (.own d) (a.eval x) := by
        simp only [RepV, upd_same]
        exact ⟨by first | rfl | trivial, by first | rfl | trivial, by simp, A1, _, _, e1⟩
      exact rel_put (dst := some d) hR hrv (by rintro d' ⟨⟩; exact hd d hdst)
  · have hge := grownCap_ge w (0 + rows2.length) 0 ti.elem
    have hrun := run_app_grow (P := E.P) (ty := o.type) (w := w) hu hi hz1 (B := A1) (sLen := 0) (sCap := 0) (olds := []) (by simp) (fun hne => absurd rfl hne)
      (A := A2) (m := rows2.length) (c := c2) (news := news2) (by rw [l2, hsz]) (fun hne => p2 (by rintro rfl; simp at l2; exact hne l2)) (by omega) (by omega) (by rw [hby]; simpa using hb1)
    have hrows : ∀ (w' : World) (imm' : Imm), Ext w g.imm w' imm' → ∀ (i : Nat) (r : List D), rows2[i]? = some r → r.length = ti.esz ∧ ∀ (j : Nat) (x : D), r[j]? = some x →
        ∃ u, (([] : List Value).toArray ++ news2.toArray ++ Builtin.zeroCells z.cells (grownCap w (0 + rows2.length) 0 ti.elem - (0 + rows2.length)))[i * ti.esz + j]? = some u ∧ RepD w' imm' x u := by
      intro w' imm' ex i r hi
      obtain ⟨q1, q2⟩ := r2 _ r hi
      refine ⟨q1, fun j x hj => ?_⟩
      obtain ⟨u, hu1, hu2⟩ := q2 j x hj
      refine ⟨u, ?_, hu2.ext ex⟩
      have hb := (List.getElem?_eq_some_iff.1 hu1).1
      rw [Array.append_assoc, Array.getElem?_append_right (by simp), Array.getElem?_append_left (by simp; omega)]
      simpa using hu1
    have hcsz : (([] : List Value).toArray ++ news2.toArray ++ Builtin.zeroCells z.cells (grownCap w (0 + rows2.length) 0 ti.elem - (0 + rows2.length))).size = grownCap w (0 + rows2.length) 0 ti.elem * ti.esz := by
      simp only [Array.size_append, List.size_toArray, size_zeroCells, hzc, l2, List.length_nil, Nat.zero_add, ← Nat.add_mul]
      congr 1
      simp only [Nat.zero_add] at hge
      omega
    generalize hcells : (([] : List Value).toArray ++ news2.toArray ++ Builtin.zeroCells z.cells (grownCap w (0 + rows2.length) 0 ti.elem - (0 + rows2.length))) = cells at hrun hrows hcsz
    generalize hcap : grownCap w (0 + rows2.length) 0 ti.elem = cap at *
    simp only [Nat.zero_add] at hrun hge
    obtain ⟨hR, hE⟩ := rel_fresh (ob := .arr false ti.esz rows2) (g' := ⟨g.imm, upd g.blk d (some w.heap.size), upd g.val d (.slice (some ⟨w.heap.size, 0, none⟩) rows2.length cap)⟩)
      (w' := w.drew.alloc (.cells cells ti.elem)) h hnone rfl (by simp) (fun b hb => heap_alloc_lt w.drew _ hb)
      (fun _ _ h => h) (fun b o hi => .inl hi)
      (fun b o hi => by have := h.bound b o hi; simp; omega)
      (fun i hi => upd_ne _ _ hi) (fun i hi => upd_ne _ _ hi) (fun b hb => by simp only [upd_same, Option.some.injEq] at hb; omega)
      (fun e => ⟨some ⟨w.heap.size, 0, none⟩, cap, by simp [upd_same], hge, by omega, by simp, fun i r hi => (hrows _ _ (Ext.refl _ _) i r hi).1, fun hn => by simp [upd_same] at hn, fun b hb => by
        simp only [upd_same, Option.some.injEq] at hb
        subst hb
        exact ⟨rfl, fun o hi => by have := h.bound _ _ hi; omega, cells, ti.elem, heap_alloc_new w.drew _, by rw [hcsz]; exact Nat.le_refl _, fun i r hi => (hrows _ _ e.ext i r hi).2⟩⟩)
    refine op_value (w' := w.drew.alloc (.cells cells ti.elem)) ?_ hk (g' := ⟨g.imm, upd g.blk d (some w.heap.size), upd g.val d (.slice (some ⟨w.heap.size, 0, none⟩) rows2.length cap)⟩) ?_
      (u := .slice (some ⟨w.heap.size, 0, none⟩) rows2.length cap)
    · rw [hex]
      simp only [builtin, List.length_nil, hrun, Sem.run_bind, Result.andThen_ok, Sem.run_pure]
    · rw [hdst]
      refine rel_put (dst := some d) hR ?_ (by rintro d' ⟨⟩; exact hd d hdst)
      simp only [RepV, upd_same]
      exact ⟨by first | rfl | trivial, by first | rfl | trivial, by simp, _, _, _, rfl⟩

end Go.Proofs.YtdfneaponidfgaaDoor.Eng
/- The engine, part L: appending to what grows; slices of literals; slices made. -/
set_option linter.unusedVariables false
set_option linter.unusedSimpArgs false
namespace Go.Proofs.YtdfneaponidfgaaDoor.Eng
open Go

variable {E : Env} {s : St} {a : Act} {w : World} {g : Gh} {T : Tab} {C : Ctr} {q : Bool} {o : Oper} {K : St → Prop}

theorem rel_grow (h : Rel E s a w g) {tok e n n' : Nat} (hold : s.hp tok = .grow e n) (hn : n < n') {w' : World} {g' : Gh}
    (hsz : w.heap.size ≤ w'.heap.size) (hheap : ∀ b, b < w.heap.size → g.blk tok ≠ some b → w'.heap[b]? = w.heap[b]?)
    (hcell : ∀ b o, g.imm b o → w'.cell? ⟨b, o, none⟩ = w.cell? ⟨b, o, none⟩)
    (himm1 : ∀ b o, g.imm b o → g'.imm b o) (himm2 : ∀ b o, g'.imm b o → g.imm b o ∨ w.heap.size ≤ b ∨ g.blk tok = some b) (himm3 : ∀ b o, g'.imm b o → b < w'.heap.size)
    (hblk : ∀ i, i ≠ tok → g'.blk i = g.blk i) (hval : ∀ i, i ≠ tok → g'.val i = g.val i) (hnew : ∀ b, g'.blk tok = some b → w.heap.size ≤ b ∨ g.blk tok = some b)
    (hob : GExt w g s.hp w' g' (upd s.hp tok (.grow e n')) → ObjRep w' g' (upd s.hp tok (.grow e n')) tok (.grow e n')) (hio : SameIO w w' := by exact ⟨rfl, rfl⟩) :
    Rel E ⟨s.sl, upd s.hp tok (.grow e n')⟩ a w' g' ∧ GExt w g s.hp w' g' (upd s.hp tok (.grow e n')) := by
  have hlt : ∀ i b, (s.hp i).live = true → g.blk i = some b → b < w.heap.size := fun i b hi hb => (h.objs i).lt hi hb
  have htl : (s.hp tok).live = true := by rw [hold]; rfl
  have e' : GExt w g s.hp w' g' (upd s.hp tok (.grow e n')) := by
    refine ⟨⟨himm1, hcell⟩, fun i hu => ?_, fun i hu hg => hblk i ?_, fun i hu hg => hval i ?_, fun i hu hg => ?_, fun i ee m hu hg => ?_⟩
    · by_cases h1 : i = tok
      · subst h1; rw [upd_same]; rfl
      · rw [upd_ne _ _ h1]; exact hu
    · rintro rfl; exact hg _ _ hold
    · rintro rfl; exact hg _ _ hold
    · by_cases h1 : i = tok
      · subst h1; exact absurd hold (hg _ _)
      · rw [upd_ne _ _ h1]; exact hg
    · by_cases h1 : i = tok
      · subst h1
        rw [upd_same] at hg
        injection hg with h2 h3
        subst h2; subst h3
        exact ⟨n, hold, by omega, fun he => by omega⟩
      · rw [upd_ne _ _ h1] at hg
        exact ⟨m, hg, Nat.le_refl _, fun _ => hval i h1⟩
  have hlv : ∀ i, (upd s.hp tok (.grow e n') i).live = true → (s.hp i).live = true := fun i hi => by
    by_cases h1 : i = tok
    · subst h1; exact htl
    · rwa [upd_ne _ _ h1] at hi
  have hnb : ∀ i b, i ≠ tok → (s.hp i).live = true → g.blk i = some b → g.blk tok ≠ some b := fun i b hi hl hb => h.dist i tok b hi hl htl hb
  refine ⟨⟨fun t => RepV.ext e' _ _ (h.slots t), fun i => ?_, fun i j b hij hi hj hb hb' => ?_, himm3, fun k => RepP.ext e'.ext (h.globs k), fun i b hi hb => ?_, fun b hb hn => ?_, Nat.le_trans h.size hsz, h.start.trans e'.ext, fun b o hi hb => ?_, h.nt, h.defers, h.old.trans e', h.io.trans hio⟩, e'⟩
  · by_cases h1 : i = tok
    · subst h1; simp only [upd_same]; exact hob e'
    · simp only [upd_ne _ _ h1]
      cases hlive : (s.hp i).live with
      | true =>
        refine ObjRep.ext e' hlive (hblk i h1) (hval i h1) (fun b hb => hheap b (hlt i b hlive hb) (hnb i b h1 hlive hb)) (fun b hb x hx => ?_) (h.objs i)
        rcases himm2 b x hx with h' | h' | h'
        · exact h'
        · have := hlt i b hlive hb; omega
        · exact absurd h' (hnb i b h1 hlive hb)
      | false => cases hh : s.hp i <;> simp_all [Obj.live, ObjRep]
  · have hi' := hlv i hi
    have hj' := hlv j hj
    have side : ∀ i j, i = tok → i ≠ j → (s.hp j).live = true → g'.blk i = some b → g'.blk j = some b → False := by
      intro i j h1 hij hjl hb hb'
      subst h1
      rw [hblk j (fun e => hij e.symm)] at hb'
      rcases hnew b hb with h2 | h2
      · have := hlt j b hjl hb'; omega
      · exact h.dist i j b hij htl hjl h2 hb'
    by_cases h1 : i = tok
    · exact side i j h1 hij hj' hb hb'
    · by_cases h2 : j = tok
      · exact side j i h2 (fun e => hij e.symm) hi' hb' hb
      · rw [hblk i h1] at hb; rw [hblk j h2] at hb'
        exact h.dist i j b hij hi' hj' hb hb'
  · by_cases h1 : i = tok
    · subst h1
      rcases hnew b hb with h2 | h2
      · exact .inl (Nat.le_trans h.size h2)
      · exact h.low i b htl h2
    · rw [hblk i h1] at hb; exact h.low i b (hlv i hi) hb
  · have hs := h.size
    have : g.blk tok ≠ some b := fun hb' => by
      rcases h.low tok b htl hb' with h' | h'
      · omega
      · exact hn h'
    rw [hheap b (by omega) this]; exact h.frame b hb hn
  · rcases himm2 b o hi with h' | h' | h'
    · exact h.fresh b o h' hb
    · have := h.size; omega
    · rcases h.low tok b htl h' with h2 | h2
      · omega
      · exact .inr h2

/-- Appending to what grows. -/
theorem sound_append_grow {c : Call} {x y : Operand} {t : TypeId} {d tok n : Nat} {ti : TI} (ho : o.op = .call c) (hb : c.callee = .builtin .append) (hx : c.args.toList = [x, y]) (ht : c.argTypes.toList = [t, t]) (hdst : o.dst = some d)
    (hT : TIok E.P t ti) (hg : ti.slc = true) (h : Rel E s a w g) (hd : ∀ d, o.dst = some d → d < E.nt) {rows rows2 : List (List D)} {e0 : Nat}
    (hxe : ev E.glob s x = .osl tok ti.esz rows) (hy : rowsOf s.hp (ev E.glob s y) = some (ti.esz, rows2)) (hold : s.hp tok = .grow e0 n) (hnr : n = rows.length)
    (hb1 : (rows.length + rows2.length) * ti.ebytes ≤ 2 ^ 47) (hb2 : rows.length + rows2.length ≤ 2 ^ 47)
    (hk : K ⟨upd s.sl d (.osl tok ti.esz (rows ++ rows2)), upd s.hp tok (.grow ti.esz (rows.length + rows2.length))⟩) : OpOk E o a w K := by
  subst hnr
  obtain ⟨hu, hz, ie, hi, hsz, hby, z, hz1, hz2, hzc⟩ := hT.slc hg
  obtain ⟨ha1, ha2⟩ := append_args (a := a) hx ht
  obtain ⟨cs, hex⟩ := exec_builtin (o := o) (a := a) ho hb
  rw [ha1, ha2] at hex
  have hvx := rel_ev h x
  have hvy := rel_ev h y
  obtain ⟨A2, c2, news2, e2, _, _, l2, p2, r2, o2⟩ := rows_cells hz h.objs hvy hy
  have hx1 : rowsOf s.hp (ev E.glob s x) = some (ti.esz, rows) := by rw [hxe]; rfl
  obtain ⟨A1, c1, news1, e1, hc1, hn1, l1, p1, r1, o1⟩ := rows_cells hz h.objs hvx hx1
  rw [hxe] at hvx
  simp only [RepV] at hvx
  obtain ⟨hus, hrd, hcur⟩ := hvx
  obtain ⟨he0, _, hval⟩ := hcur e0 _ hold
  subst he0
  have hval := hval rfl
  have hob := h.objs tok
  rw [hold] at hob
  obtain ⟨A0, c0, ob1, ob2, ob3, ob4, ob5⟩ := hob
  rw [e1, ob1] at hval
  injection hval with hA hl hc
  subst hA; subst hc
  rw [e1, e2] at hex
  have hlen : (rows ++ rows2).length = rows.length + rows2.length := by simp
  by_cases hm : rows2.length = 0
  · have hr2 : rows2 = [] := List.length_eq_zero_iff.1 hm
    subst hr2
    have hrun := run_app_keep (P := E.P) (ty := o.type) hu hi (B := A1) (n := rows.length) (c := c1) (A := A2) (k := c2) hc1 w
    refine op_value (u := a.eval x) (w' := w) (g' := g) ?_ hk ?_
    · rw [hex, e1]
      simp only [builtin, List.length_nil, hrun, Sem.run_bind, Result.andThen_ok, Sem.run_pure]
    · have hup : upd s.hp tok (.grow ti.esz (rows.length + ([] : List (List D)).length)) = s.hp := by
        funext i
        rw [upd_eq]
        split
        · rename_i hi; subst hi; rw [hold]; simp
        · rfl
      rw [hdst, hup]
      refine rel_put (dst := some d) (s := s) h ?_ (by rintro d' ⟨⟩; exact hd d hdst)
      simp only [RepV, List.append_nil]
      exact ⟨hus, hrd, hcur⟩
  · by_cases hroom : rows.length + rows2.length ≤ c1
    · -- there is room
      cases hblk : g.blk tok with
      | none => have := ob4 hblk; omega
      | some b =>
        obtain ⟨q1, q2, us, tt, q3, q4⟩ := ob5 b hblk
        subst q1
        have hfit : rows.length * ie.size + news2.length ≤ us.size := by rw [hsz, l2, q4, ← Nat.add_mul]; exact Nat.mul_le_mul_right _ hroom
        have hrun := run_app_room (P := E.P) (ty := o.type) (w := w) hu hi q3 (A := A2) (m := rows2.length) (c := c2) (news := news2) (by rw [l2, hsz]) (fun hne => p2 (by rintro rfl; simp at l2; exact hne l2)) o2 hroom hfit
        rw [hsz] at hrun hfit
        generalize hnc : (us.toList.take (rows.length * ti.esz) ++ news2 ++ us.toList.drop (rows.length * ti.esz + news2.length)).toArray = cells at hrun
        have hcsz : cells.size = us.size := by subst hnc; simp; omega
        have hkeep : ∀ j, j < rows.length * ti.esz → cells[j]? = us[j]? := fun j hj => by
          subst hnc
          simp only [List.getElem?_toArray]
          rw [List.append_assoc, List.getElem?_append_left (by simp; omega), List.getElem?_take, if_pos hj]
          simp
        have hnews : ∀ j, j < news2.length → cells[rows.length * ti.esz + j]? = news2[j]? := fun j hj => by
          subst hnc
          simp only [List.getElem?_toArray]
          have htk : (us.toList.take (rows.length * ti.esz)).length = rows.length * ti.esz := by simp; omega
          rw [List.append_assoc, List.getElem?_append_right (by omega), List.getElem?_append_left (by rw [htk]; omega), htk]
          congr 1; omega
        have himm : ∀ o, g.imm b o → o < rows.length * ti.esz := fun o hi => by
          rcases Nat.lt_or_ge o (rows.length * ti.esz) with h' | h'
          · exact h'
          · exact absurd hi (q2 o h')
        obtain ⟨hR, hE⟩ := rel_grow (n' := rows.length + rows2.length) (g' := ⟨fun b' o => g.imm b' o ∨ (b' = b ∧ o < (rows.length + rows2.length) * ti.esz), g.blk, upd g.val tok (.slice (some ⟨b, 0, none⟩) (rows.length + rows2.length) c1)⟩)
          (w' := w.setRow b cells) h hold (by omega) (by simp) (fun b' _ hb' => setRow_other w b b' _ (fun e => hb' (by rw [hblk, e])))
          (fun b' o hi => by
            by_cases hbb : b' = b
            · subst hbb
              rw [cell_of (setRow_heap w b' us cells tt _ q3), cell_of q3]
              exact hkeep o (himm o hi)
            · exact cell_heap (setRow_other w b b' _ hbb) o)
          (fun _ _ h => .inl h) (fun b' o hi => by rcases hi with hi | ⟨rfl, _⟩; exact .inl hi; exact .inr (.inr hblk))
          (fun b' o hi => by
            rcases hi with hi | ⟨rfl, _⟩
            · have := h.bound b' o hi; simpa using this
            · have := (h.objs tok).lt (by rw [hold]; rfl) hblk; simpa using this)
          (fun _ _ => rfl) (fun i hi => upd_ne _ _ hi) (fun b' hb' => .inr hb')
          (fun e => ⟨some ⟨b, 0, none⟩, c1, by simp [upd_same], hroom, by omega, fun hn => by rw [hblk] at hn; simp at hn, fun b' hb' => by
            rw [hblk] at hb'
            injection hb' with hb'
            subst hb'
            refine ⟨rfl, fun o ho hi => ?_, cells, tt, setRow_heap w b us cells tt _ q3, by rw [hcsz, q4]⟩
            rcases hi with hi | ⟨_, hi⟩
            · have h1 := himm o hi
              have : rows.length * ti.esz ≤ (rows.length + rows2.length) * ti.esz := Nat.mul_le_mul_right _ (by omega)
              omega
            · omega⟩)
        refine op_value (u := .slice (some ⟨b, 0, none⟩) (rows.length + rows2.length) c1) (w' := w.setRow b cells) (g' := ⟨fun b' o => g.imm b' o ∨ (b' = b ∧ o < (rows.length + rows2.length) * ti.esz), g.blk, upd g.val tok (.slice (some ⟨b, 0, none⟩) (rows.length + rows2.length) c1)⟩) ?_ hk ?_
        · rw [hex]
          simp only [builtin, hrun, Sem.run_bind, Result.andThen_ok, Sem.run_pure]
        · rw [hdst]
          refine rel_put (dst := some d) hR ?_ (by rintro d' ⟨⟩; exact hd d hdst)
          simp only [RepV, upd_same]
          refine ⟨rfl, ?_, fun e' n' he => ?_⟩
          · have hh := repD_own (w' := w.setRow b cells) (imm' := fun b' o => g.imm b' o ∨ (b' = b ∧ o < (rows.length + rows2.length) * ti.esz)) (b := b) (e := ti.esz) (c := c1) (us := cells) (tt := tt) (rows := rows ++ rows2)
              (setRow_heap w b us cells tt _ q3) (fun o ho => .inr ⟨rfl, by rw [hlen] at ho; exact ho⟩) (by rw [hlen]; exact hroom) (by rw [hlen]; omega) (fun i r hi => by
                rcases Nat.lt_or_ge i rows.length with hlt | hge'
                · rw [List.getElem?_append_left hlt] at hi
                  obtain ⟨k1, k2⟩ := r1 i r hi
                  refine ⟨k1, fun j x hj => ?_⟩
                  obtain ⟨u, hu1, hu2⟩ := k2 j x hj
                  have hjl := (List.getElem?_eq_some_iff.1 hu1).1
                  refine ⟨u, ?_, hu2.ext hE.ext⟩
                  rw [hkeep _ (by omega)]
                  have hrne : rows ≠ [] := by rintro rfl; simp at hlt
                  obtain ⟨b', off', hbb, hcc⟩ := p1 hrne
                  injection hbb with hbb
                  injection hbb with hb1 hb2
                  subst hb1; subst hb2
                  rw [← cell_of q3, ← hcc _ _ hu1, Nat.zero_add]
                · rw [List.getElem?_append_right hge'] at hi
                  obtain ⟨k1, k2⟩ := r2 _ r hi
                  refine ⟨k1, fun j x hj => ?_⟩
                  obtain ⟨u, hu1, hu2⟩ := k2 j x hj
                  have hjl := (List.getElem?_eq_some_iff.1 hu1).1
                  refine ⟨u, ?_, hu2.ext hE.ext⟩
                  have hmul : i * ti.esz = rows.length * ti.esz + (i - rows.length) * ti.esz := by rw [← Nat.add_mul]; congr 1; omega
                  rw [show i * ti.esz + j = rows.length * ti.esz + ((i - rows.length) * ti.esz + j) by omega, hnews _ hjl]
                  exact hu1)
            rw [hlen] at hh
            exact hh
          · simp only [Obj.grow.injEq] at he
            obtain ⟨h1, h2⟩ := he
            exact ⟨h1.symm, by rw [hlen]; omega, fun _ => trivial⟩
    · -- a new block
      have hge := grownCap_ge w (rows.length + rows2.length) c1 ti.elem
      have hrun := run_app_grow (P := E.P) (ty := o.type) (w := w) hu hi hz1 (B := A1) (sLen := rows.length) (sCap := c1) (olds := news1) (by rw [l1, hsz]) (fun hne => p1 (by rintro rfl; simp at l1; exact hne l1))
        (A := A2) (m := rows2.length) (c := c2) (news := news2) (by rw [l2, hsz]) (fun hne => p2 (by rintro rfl; simp at l2; exact hne l2)) (by omega) hb2 (by rw [hby]; exact hb1)
      have hcsz : (news1.toArray ++ news2.toArray ++ Builtin.zeroCells z.cells (grownCap w (rows.length + rows2.length) c1 ti.elem - (rows.length + rows2.length))).size = grownCap w (rows.length + rows2.length) c1 ti.elem * ti.esz := by
        simp only [Array.size_append, List.size_toArray, size_zeroCells, hzc, l1, l2, ← Nat.add_mul]
        congr 1
        omega
      have hrows : ∀ (w' : World) (imm' : Imm), Ext w g.imm w' imm' → ∀ (i : Nat) (r : List D), (rows ++ rows2)[i]? = some r → r.length = ti.esz ∧ ∀ (j : Nat) (x : D), r[j]? = some x →
          ∃ u, (news1.toArray ++ news2.toArray ++ Builtin.zeroCells z.cells (grownCap w (rows.length + rows2.length) c1 ti.elem - (rows.length + rows2.length)))[i * ti.esz + j]? = some u ∧ RepD w' imm' x u := by
        intro w' imm' ex i r hi
        rcases Nat.lt_or_ge i rows.length with hlt | hge'
        · rw [List.getElem?_append_left hlt] at hi
          obtain ⟨q1, q2⟩ := r1 i r hi
          refine ⟨q1, fun j x hj => ?_⟩
          obtain ⟨u, hu1, hu2⟩ := q2 j x hj
          refine ⟨u, ?_, hu2.ext ex⟩
          have hb := (List.getElem?_eq_some_iff.1 hu1).1
          rw [Array.append_assoc, Array.getElem?_append_left (by simpa using hb)]
          simpa using hu1
        · rw [List.getElem?_append_right hge'] at hi
          obtain ⟨q1, q2⟩ := r2 _ r hi
          refine ⟨q1, fun j x hj => ?_⟩
          obtain ⟨u, hu1, hu2⟩ := q2 j x hj
          refine ⟨u, ?_, hu2.ext ex⟩
          have hb := (List.getElem?_eq_some_iff.1 hu1).1
          have hmul : i * ti.esz = rows.length * ti.esz + (i - rows.length) * ti.esz := by rw [← Nat.add_mul]; congr 1; omega
          rw [Array.append_assoc, Array.getElem?_append_right (by simp; omega), Array.getElem?_append_left (by simp; omega)]
          rw [show i * ti.esz + j - news1.toArray.size = (i - rows.length) * ti.esz + j by simp; omega]
          simpa using hu1
      generalize hcells : (news1.toArray ++ news2.toArray ++ Builtin.zeroCells z.cells (grownCap w (rows.length + rows2.length) c1 ti.elem - (rows.length + rows2.length))) = cells at hrun hcsz hrows
      generalize hcap : grownCap w (rows.length + rows2.length) c1 ti.elem = cap at *
      obtain ⟨hR, hE⟩ := rel_grow (n' := rows.length + rows2.length) (g' := ⟨fun b o => g.imm b o ∨ (b = w.heap.size ∧ o < (rows.length + rows2.length) * ti.esz), upd g.blk tok (some w.heap.size), upd g.val tok (.slice (some ⟨w.heap.size, 0, none⟩) (rows.length + rows2.length) cap)⟩)
        (w' := w.drew.alloc (.cells cells ti.elem)) h hold (by omega) (by simp) (fun b hb _ => heap_alloc_lt w.drew _ hb)
        (fun b o hi => cell_heap (heap_alloc_lt w.drew _ (h.bound b o hi)) o)
        (fun _ _ h => .inl h) (fun b o hi => by rcases hi with hi | ⟨rfl, _⟩; exact .inl hi; exact .inr (.inl (Nat.le_refl _)))
        (fun b o hi => by
          rcases hi with hi | ⟨rfl, _⟩
          · have := h.bound b o hi; simp; omega
          · simp)
        (fun i hi => upd_ne _ _ hi) (fun i hi => upd_ne _ _ hi) (fun b hb => by simp only [upd_same, Option.some.injEq] at hb; exact .inl (by omega))
        (fun e => ⟨some ⟨w.heap.size, 0, none⟩, cap, by simp [upd_same], hge, by omega, fun hn => by simp [upd_same] at hn, fun b hb => by
          simp only [upd_same, Option.some.injEq] at hb
          subst hb
          refine ⟨rfl, fun o ho hi => ?_, cells, ti.elem, heap_alloc_new w.drew _, hcsz⟩
          rcases hi with hi | ⟨_, hi⟩
          · have := h.bound _ _ hi; omega
          · omega⟩)
      refine op_value (w' := w.drew.alloc (.cells cells ti.elem)) ?_ hk (g' := ⟨fun b o => g.imm b o ∨ (b = w.heap.size ∧ o < (rows.length + rows2.length) * ti.esz), upd g.blk tok (some w.heap.size), upd g.val tok (.slice (some ⟨w.heap.size, 0, none⟩) (rows.length + rows2.length) cap)⟩) ?_
        (u := .slice (some ⟨w.heap.size, 0, none⟩) (rows.length + rows2.length) cap)
      · rw [hex]
        simp only [builtin, hrun, Sem.run_bind, Result.andThen_ok, Sem.run_pure]
      · rw [hdst]
        refine rel_put (dst := some d) hR ?_ (by rintro d' ⟨⟩; exact hd d hdst)
        simp only [RepV, upd_same]
        refine ⟨rfl, ?_, fun e' n' he => ?_⟩
        · have := repD_own (w' := w.drew.alloc (.cells cells ti.elem)) (imm' := fun b o => g.imm b o ∨ (b = w.heap.size ∧ o < (rows.length + rows2.length) * ti.esz)) (b := w.heap.size) (e := ti.esz) (c := cap) (us := cells) (tt := ti.elem) (rows := rows ++ rows2)
            (heap_alloc_new w.drew _) (fun o ho => .inr ⟨rfl, by rw [hlen] at ho; exact ho⟩) (by rw [hlen]; exact hge) (by rw [hlen]; omega) (hrows _ _ hE.ext)
          rw [hlen] at this
          exact this
        · simp only [Obj.grow.injEq] at he
          obtain ⟨h1, h2⟩ := he
          exact ⟨h1.symm, by rw [hlen]; omega, fun _ => trivial⟩

end Go.Proofs.YtdfneaponidfgaaDoor.Eng
/- The engine, part M: slices of literals; slices made. -/
set_option linter.unusedVariables false
set_option linter.unusedSimpArgs false
namespace Go.Proofs.YtdfneaponidfgaaDoor.Eng
open Go

variable {E : Env} {s : St} {a : Act} {w : World} {g : Gh} {T : Tab} {C : Ctr} {q : Bool} {o : Oper} {K : St → Prop}

/-- The world goes on, and no object is written. -/
theorem rel_on (h : Rel E s a w g) {w' : World} {imm' : Imm} (hsz : w.heap.size ≤ w'.heap.size) (hheap : ∀ b, b < w.heap.size → w'.heap[b]? = w.heap[b]?)
    (himm1 : ∀ b o, g.imm b o → imm' b o) (himm2 : ∀ b o, imm' b o → ∀ id, (s.hp id).live = true → g.blk id = some b → g.imm b o) (himm3 : ∀ b o, imm' b o → b < w'.heap.size) (himm4 : ∀ b o, imm' b o → b < w.heap.size → g.imm b o) (hio : SameIO w w' := by exact ⟨rfl, rfl⟩) :
    Rel E s a w' ⟨imm', g.blk, g.val⟩ ∧ Ext w g.imm w' imm' := by
  have e : GExt w g s.hp w' ⟨imm', g.blk, g.val⟩ s.hp :=
    ⟨⟨himm1, fun b o hi => cell_heap (hheap b (h.bound b o hi)) o⟩, fun _ h => h, fun _ _ _ => rfl, fun _ _ _ => rfl, fun _ _ h => h, fun _ e n _ h => ⟨n, h, Nat.le_refl _, fun _ => rfl⟩⟩
  refine ⟨⟨fun t => RepV.ext e _ _ (h.slots t), fun i => ?_, h.dist, himm3, fun k => RepP.ext e.ext (h.globs k), h.low, fun b hb hn => ?_, Nat.le_trans h.size hsz, h.start.trans e.ext, fun b o hi hb => h.fresh b o (himm4 b o hi (by have := h.size; omega)) hb, h.nt, h.defers, h.old.trans e, h.io.trans hio⟩, e.ext⟩
  · cases hlive : (s.hp i).live with
    | true => exact ObjRep.ext e hlive rfl rfl (fun b hb => hheap b ((h.objs i).lt hlive hb)) (fun b hb x hx => himm2 b x hx i hlive hb) (h.objs i)
    | false => cases hh : s.hp i <;> simp_all [Obj.live, ObjRep]
  · have := h.size
    rw [hheap b (by omega)]; exact h.frame b hb hn

theorem fill_rows {esz : Nat} : ∀ (vals : List Value) (k : Nat) (cells : Array Value), (∀ v ∈ vals, v.cells.size = esz) → (k + vals.length) * esz ≤ cells.size →
    ∃ cells', Instr.fill (fun i => some (i * esz, esz)) cells ((List.range' k vals.length).zip vals) = some cells' ∧ cells'.size = cells.size ∧ (∀ j, j < k * esz → cells'[j]? = cells[j]?) ∧
      ∀ (i : Nat) v, vals[i]? = some v → ∀ j, j < esz → cells'[(k + i) * esz + j]? = v.cells[j]?
  | [], k, cells, _, _ => ⟨cells, by simp [Instr.fill], rfl, fun _ _ => rfl, by simp⟩
  | v :: vals, k, cells, hv, hl => by
    have hvs := hv v List.mem_cons_self
    have hke : k * esz + esz ≤ cells.size := by
      have : (k + 1) * esz ≤ (k + (v :: vals).length) * esz := Nat.mul_le_mul_right _ (by simp)
      rw [Nat.add_mul, Nat.one_mul] at this
      omega
    have hfold := foldl_set (k * esz) v.cells.toList 0 cells
    rw [← Array.toList_zipIdx, Array.foldl_toList, Nat.add_zero, setVals_eq _ _ _ (by simp; omega)] at hfold
    generalize hc1 : (v.cells.zipIdx.foldl (fun cs (c, j) => cs.setIfInBounds (k * esz + j) c) cells) = c1 at hfold
    have hsz : c1.size = cells.size := by rw [← Array.length_toList, hfold]; simp; omega
    obtain ⟨cells', h1, h2, h3, h4⟩ := fill_rows vals (k + 1) c1 (fun v' hv' => hv v' (List.mem_cons_of_mem _ hv')) (by rw [hsz]; rw [show k + 1 + vals.length = k + (v :: vals).length by simp; omega]; exact hl)
    refine ⟨cells', ?_, h2.trans hsz, fun j hj => ?_, fun i v' hi j hj => ?_⟩
    · simp only [List.length_cons, List.range'_succ, List.zip_cons_cons, Instr.fill]
      rw [if_neg (by simp; omega)]
      rw [hc1]
      exact h1
    · rw [h3 j (by rw [Nat.add_mul]; omega), ← Array.getElem?_toList, hfold, List.append_assoc, List.getElem?_append_left (by simp; omega), List.getElem?_take, if_pos hj, Array.getElem?_toList]
    · cases i with
      | zero =>
        simp only [List.getElem?_cons_zero, Option.some.injEq] at hi
        subst hi
        rw [Nat.add_zero, h3 _ (by rw [Nat.add_mul]; omega), ← Array.getElem?_toList, hfold]
        have : (cells.toList.take (k * esz)).length = k * esz := by simp; omega
        rw [List.append_assoc, List.getElem?_append_right (by omega), List.getElem?_append_left (by simp; omega), this, Array.getElem?_toList]
        congr 1; omega
      | succ i =>
        have := h4 i v' (by simpa using hi) j hj
        rw [show k + (i + 1) = k + 1 + i by omega]
        exact this

theorem leafRows_cons (v : V) (vs : List V) (h : ∀ ws, v ≠ .tup ws) : aOp.leafRows (v :: vs) = match leafs (leaf0 (fun _ => .none)) v.cells, aOp.leafRows vs with
    | some x, some xs => some (x :: xs)
    | _, _ => none := by
  have : v.isTup = false := by cases v <;> first | rfl | exact absurd rfl (h _)
  simp only [aOp.leafRows, this]
  all_goals rfl

theorem leafRows_ok : ∀ {xs : List V} {rows : List (List D)} {us : List Value}, aOp.leafRows xs = some rows → RepVs w g s.hp xs us → rows.length = us.length ∧
    ∀ (i : Nat) r, rows[i]? = some r → ∃ u, us[i]? = some u ∧ r.length = u.cells.size ∧ ∀ (j : Nat) x, r[j]? = some x → ∃ y, u.cells[j]? = some y ∧ RepD w g.imm x y
  | [], rows, us, h, hr => by
    simp only [aOp.leafRows, Option.some.injEq] at h
    simp only [RepVs] at hr
    subst h; subst hr
    simp
  | v :: vs, rows, us, h, hr => by
    simp only [RepVs] at hr
    obtain ⟨u, us', rfl, h1, h2⟩ := hr
    have hnt : ∀ ws, v ≠ .tup ws := by rintro ws rfl; simp [aOp.leafRows, V.isTup] at h
    rw [leafRows_cons v vs hnt] at h
    cases hx : leafs (leaf0 (fun _ => .none)) v.cells with
    | none => simp [hx] at h
    | some x =>
      cases hxs : aOp.leafRows vs with
      | none => simp [hx, hxs] at h
      | some xs =>
        simp only [hx, hxs, Option.some.injEq] at h
        subst h
        obtain ⟨i1, i2⟩ := leafRows_ok hxs h2
        have hne : v ≠ .undef := by rintro rfl; simp [V.cells, leafs, leaf0] at hx
        have hc := h1.cells hne hnt
        obtain ⟨l1, l2, _⟩ := leafs_cells hx hc
        refine ⟨by simp [i1], fun i r hi => ?_⟩
        cases i with
        | zero =>
          simp only [List.getElem?_cons_zero, Option.some.injEq] at hi
          subst hi
          refine ⟨u, rfl, by simpa using l1, fun j y hj => ?_⟩
          have hjl := (List.getElem?_eq_some_iff.1 hj).1
          have hju : j < u.cells.size := by simp at l1; omega
          exact ⟨u.cells[j], by simp [hju], l2 j y _ hj (by simp [hju])⟩
        | succ i => simpa using i2 i r (by simpa using hi)

theorem sound_buildSlice {t : TypeId} {len : Nat} {parts : Array (Nat × Operand)} {ti : TI} (ho : o.op = .buildSlice t len parts) (hT : TIok E.P t ti) (h : Rel E s a w g) (hd : ∀ d, o.dst = some d → d < E.nt)
    (hk : match ti.slc, aOp.leafRows (parts.toList.map fun p => ev E.glob s p.2) with
      | true, some rows => match Nat.beq rows.length len, decide (parts.toList.map (·.1) = List.range len), rows.all (fun r => Nat.beq r.length ti.esz), Nat.ble (len * ti.esz) (2 ^ 24) with
        | true, true, true, true => putK s o.dst (.d (.slc true ti.esz rows)) K
        | _, _, _, _ => False
      | _, _ => False) : OpOk E o a w K := by
  split at hk
  · rename_i rows hg hrows
    split at hk
    · rename_i h1 h2 h3 h4
      have h1 := Nat.eq_of_beq_eq_true h1
      have h2 : parts.toList.map (·.1) = List.range len := by simpa using h2
      have h4 := Nat.le_of_ble_eq_true h4
      obtain ⟨hu, hz, ie, hi, hsz, hby, z, hz1, hz2, hzc⟩ := hT.slc hg
      have hevs : RepVs w g s.hp (parts.toList.map fun p => ev E.glob s p.2) (parts.toList.map fun p => a.eval p.2) := by
        have := evs_rep h (parts.toList.map (·.2))
        simpa [List.map_map, Function.comp_def] using this
      obtain ⟨l1, l2⟩ := leafRows_ok hrows hevs
      have hplen : parts.toList.length = len := by have := congrArg List.length h2; simpa using this
      have hvs : ∀ v ∈ (parts.toList.map fun p => a.eval p.2), v.cells.size = ti.esz := by
        intro v hv
        obtain ⟨i, hi', rfl⟩ := List.getElem_of_mem hv
        have hir : i < rows.length := by omega
        obtain ⟨u, hu', hl, _⟩ := l2 i rows[i] (List.getElem?_eq_getElem hir)
        rw [List.getElem?_eq_getElem hi'] at hu'
        injection hu' with hu'
        rw [hu', ← hl]
        have := List.all_eq_true.1 h3 rows[i] (List.getElem_mem hir)
        exact Nat.eq_of_beq_eq_true this
      obtain ⟨cells', f1, f2, f3, f4⟩ := fill_rows (esz := ti.esz) (parts.toList.map fun p => a.eval p.2) 0 ((Array.range (len * ti.esz)).map (z.cells[· % z.cells.size]!)) hvs (by simp at hplen ⊢; rw [hplen]; exact Nat.le_refl _)
      have hzip : (List.range' 0 (parts.toList.map fun p => a.eval p.2).length).zip (parts.toList.map fun p => a.eval p.2) = (parts.map fun (i, x) => (i, a.eval x)).toList := by
        rw [List.length_map, hplen, ← List.range_eq_range', ← h2]
        simp only [Array.toList_map]
        rw [List.zip_map']
      rw [hzip] at f1
      have hfr : len * ti.esz = 0 → ((Array.range (len * ti.esz)).map (z.cells[· % z.cells.size]!)) = ((Array.range (len * ti.esz)).map ((#[] : Array Value)[· % (#[] : Array Value).size]!)) := by
        intro h0; rw [h0]; simp
      have hrun : (Instr.buildSlice t len (parts.map fun (i, x) => (i, a.eval x))).run E.P w = .ok (.slice (some ⟨w.heap.size, 0, none⟩) len len) (w.alloc (.cells cells' ti.elem)) := by
        have hs : (sizeOf ti.elem).run E.P w = .ok ti.esz w := by unfold sizeOf typeInfo; simp [hi, hsz]
        have hzv : (zeroValue ti.elem).run E.P w = .ok z w := by unfold zeroValue typeInfo; simp [hi, hz1]
        have h4' : ¬ (len * ti.esz > 2 ^ 24) := by omega
        unfold Instr.buildSlice
        simp only [Sem.run_bind, run_underlying hu, Result.andThen_ok, hs, if_neg h4']
        by_cases h0 : len * ti.esz = 0
        · rw [hfr h0] at f1
          simp only [if_pos h0, Sem.run_pure, Result.andThen_ok, f1, newRow, Sem.run_bind, run_newObj]
          rfl
        · simp only [if_neg h0, Sem.run_bind, hzv, Sem.run_pure, Result.andThen_ok, f1, newRow, run_newObj]
          rfl
      obtain ⟨hR, hE⟩ := rel_on (w' := w.alloc (.cells cells' ti.elem)) (imm' := fun b o => g.imm b o ∨ b = w.heap.size) h (by simp) (fun b hb => heap_alloc_lt w _ hb) (fun _ _ h => .inl h)
        (fun b o hi id hl hb => by
          rcases hi with hi | rfl
          · exact hi
          · have := (h.objs id).lt hl hb; omega)
        (fun b o hi => by
          rcases hi with hi | rfl
          · have := h.bound b o hi; simp; omega
          · simp)
        (fun b o hi hb => by
          rcases hi with hi | rfl
          · exact hi
          · omega)
      refine op_value (u := .slice (some ⟨w.heap.size, 0, none⟩) len len) (w' := w.alloc (.cells cells' ti.elem)) (s' := s.app o.dst (.d (.slc true ti.esz rows))) ?_ (by rw [putK_eq] at hk; exact hk) (rel_put hR ?_ hd)
      · unfold execOp
        rw [ho]
        simp only [Sem.run_bind, hrun, Result.andThen_ok, Sem.run_pure]
      · simp only [RepV]
        subst h1
        have hh := repD_own (w' := w.alloc (.cells cells' ti.elem)) (imm' := fun b o => g.imm b o ∨ b = w.heap.size) (b := w.heap.size) (e := ti.esz) (c := rows.length) (us := cells') (tt := ti.elem) (rows := rows) (heap_alloc_new w _) (fun o ho => .inr rfl) (by omega) (by
            have : rows.length * 1 ≤ rows.length * ti.esz := Nat.mul_le_mul_left _ (by omega)
            omega)
          (fun i r hi' => by
            obtain ⟨u, hu', hl, hx⟩ := l2 i r hi'
            have hre : r.length = ti.esz := by
              have := List.all_eq_true.1 h3 r (List.mem_of_getElem? hi')
              exact Nat.eq_of_beq_eq_true this
            refine ⟨hre, fun j x hj => ?_⟩
            obtain ⟨y, hy, hr⟩ := hx j x hj
            have hjl := (List.getElem?_eq_some_iff.1 hj).1
            refine ⟨y, ?_, hr.ext hE⟩
            have := f4 i u hu' j (by omega)
            rw [Nat.zero_add] at this
            rw [this, hy])
        cases hh with
        | slc _ _ _ _ _ vals hc hn hf hrow hA hcell hrep =>
          exact RepD.slc (w := w.alloc (.cells cells' ti.elem)) (imm := fun b o => g.imm b o ∨ b = w.heap.size) true ti.esz rows _ _ vals hc hn (fun _ => rfl) hrow hA hcell hrep
    · exact hk.elim
  · exact hk.elim

theorem sound_makeSlice {t : TypeId} {l c : Operand} {ti : TI} {d : Nat} {k1 k2 : IntKind} {n m : Int} (ho : o.op = .makeSlice t l c) (hdst : o.dst = some d) (hT : TIok E.P t ti) (h : Rel E s a w g) (hd : ∀ d, o.dst = some d → d < E.nt)
    (hg : ti.slc = true) (hl : ev E.glob s l = .d (.int k1 n)) (hc : ev E.glob s c = .d (.int k2 m)) (hnone : s.hp d = .none) (hez : ti.ezero.length = ti.esz)
    (hk : n = m ∧ 0 ≤ n ∧ n * ti.ebytes ≤ 2 ^ 47 ∧ n ≤ 2 ^ 47 ∧ K ⟨upd s.sl d (.own d), upd s.hp d (.arr true ti.esz (List.replicate n.toNat ti.ezero))⟩) : OpOk E o a w K := by
  obtain ⟨rfl, h0, hb, hb2, hk⟩ := hk
  obtain ⟨hu, hz, ie, hi, hsz, hby, z, hz1, hz2, hzc⟩ := hT.slc hg
  have hvl := rel_ev h l
  rw [hl] at hvl
  have hvl := repV_int hvl
  have hvc := rel_ev h c
  rw [hc] at hvc
  have hvc := repV_int hvc
  generalize hcells : ((Array.range (n.toNat * ti.esz)).map (z.cells[· % z.cells.size]!)) = cells
  have hget : ∀ i j, i < n.toNat → j < ti.esz → ∃ u, cells[i * ti.esz + j]? = some u ∧ z.cells[j]? = some u := by
    intro i j hi' hj
    have hlt : i * ti.esz + j < n.toNat * ti.esz := by
      have : i * ti.esz + ti.esz ≤ n.toNat * ti.esz := by rw [← Nat.succ_mul]; exact Nat.mul_le_mul_right _ hi'
      omega
    have hmod : (i * ti.esz + j) % ti.esz = j := by rw [Nat.mul_comm, Nat.mul_add_mod]; exact Nat.mod_eq_of_lt hj
    subst hcells
    have hjz : j < z.cells.size := by omega
    refine ⟨z.cells[j], ?_, by simp [hjz]⟩
    simp only [Array.getElem?_map, Array.getElem?_range, hlt, if_true, Option.map_some, hzc, hmod, getElem!_pos z.cells j hjz]
  have hwrap : IntKind.i64.wrap n = n := by
    have h1 : n % (2 ^ IntKind.i64.bits : Int) = n := Int.emod_eq_of_lt h0 (by simp only [IntKind.bits]; omega)
    have h2 : ¬ (n ≥ (2 ^ (IntKind.i64.bits - 1) : Int)) := by simp only [IntKind.bits]; omega
    unfold IntKind.wrap
    simp only [h1, h2, decide_false, Bool.and_false, Bool.false_eq_true, if_false]
  have hrun : (Instr.makeSlice t (.int k1 n) (.int k2 n)).run E.P w = .ok (.slice (some ⟨w.heap.size, 0, none⟩) n.toNat n.toNat) (w.alloc (.cells cells ti.elem)) := by
    have hs : (sizeOf ti.elem).run E.P w = .ok ti.esz w := by unfold sizeOf typeInfo; simp [hi, hsz]
    have hti : (typeInfo ti.elem).run E.P w = .ok ie w := by unfold typeInfo; simp [hi]
    have hzv : (zeroValue ti.elem).run E.P w = .ok z w := by unfold zeroValue typeInfo; simp [hi, hz1]
    unfold Instr.makeSlice
    have e1 : ¬ (n < 0) := by omega
    have e2 : ¬ ((ie.bytes : Int) * n > 2 ^ 48) := by rw [hby, Int.mul_comm]; omega
    simp only [Sem.run_bind, run_underlying hu, Result.andThen_ok, Go.asInt, asIntOf, Sem.run_pure, hti, hwrap]
    simp only [e1, e2, decide_false, Bool.or_self, Bool.false_eq_true, Int.lt_irrefl, or_self, if_false, gt_iff_lt, Sem.run_pure, Result.andThen_ok, Sem.run_bind, run_askRoom, hs]
    by_cases hn0 : n.toNat * ti.esz = 0
    · have hce : ((Array.range (n.toNat * ti.esz)).map ((#[] : Array Value)[· % (#[] : Array Value).size]!)) = cells := by rw [← hcells, hn0]; simp
      simp only [if_pos hn0, Sem.run_pure, Result.andThen_ok, hce, newRow, Sem.run_bind, run_newObj]
      rfl
    · simp only [if_neg hn0, Sem.run_bind, hzv, Sem.run_pure, Result.andThen_ok, hcells, newRow, run_newObj]
      rfl
  have hzr := zerosB_reps w g s.hp _ _ hz2
  obtain ⟨hR, hE⟩ := rel_fresh (ob := .arr true ti.esz (List.replicate n.toNat ti.ezero)) (g' := ⟨g.imm, upd g.blk d (some w.heap.size), upd g.val d (.slice (some ⟨w.heap.size, 0, none⟩) n.toNat n.toNat)⟩) (w' := w.alloc (.cells cells ti.elem)) h hnone rfl (by simp) (fun b hb => heap_alloc_lt w _ hb)
    (fun _ _ h => h) (fun _ _ h => .inl h) (fun b o hi => by have := h.bound b o hi; simp; omega) (fun i hi => upd_ne _ _ hi) (fun i hi => upd_ne _ _ hi)
    (fun b hb => by simp only [upd_same, Option.some.injEq] at hb; omega)
    (fun e => ⟨some ⟨w.heap.size, 0, none⟩, n.toNat, by simp [upd_same], by simp, by simp; omega, by simp, fun i r hi' => by
        rw [List.getElem?_replicate] at hi'
        split at hi'
        · injection hi' with hi'; rw [← hi', hez]
        · simp at hi', fun hn => by simp [upd_same] at hn, fun b hb => by
      simp only [upd_same, Option.some.injEq] at hb
      subst hb
      refine ⟨rfl, fun o hi' => by have := h.bound _ _ hi'; omega, cells, ti.elem, heap_alloc_new w _, by rw [← hcells]; simp, fun i r hi' j x hj => ?_⟩
      rw [List.getElem?_replicate] at hi'
      split at hi'
      · rename_i hin
        injection hi' with hi'
        subst hi'
        have hjl := (List.getElem?_eq_some_iff.1 hj).1
        obtain ⟨u, hu1, hu2⟩ := hget i j hin (by omega)
        refine ⟨u, hu1, ?_⟩
        obtain ⟨u', hu3, hu4⟩ := hzr.get (i := j) (c := .d x) (by rw [List.getElem?_map, hj]; rfl)
        rw [Array.getElem?_toList, hu2] at hu3
        injection hu3 with hu3
        subst hu3
        simp only [RepV] at hu4
        exact hu4.ext e.ext
      · simp at hi'⟩)
  refine op_value (u := .slice (some ⟨w.heap.size, 0, none⟩) n.toNat n.toNat) (w' := w.alloc (.cells cells ti.elem)) (g' := ⟨g.imm, upd g.blk d (some w.heap.size), upd g.val d (.slice (some ⟨w.heap.size, 0, none⟩) n.toNat n.toNat)⟩) ?_ hk ?_
  · unfold execOp
    rw [ho]
    simp only [hvl, hvc, Sem.run_bind, hrun, Result.andThen_ok, Sem.run_pure]
  · rw [hdst]
    exact rel_put (dst := some d) hR (by simp only [RepV, upd_same]; exact ⟨rfl, trivial, by simp, _, _, _, rfl⟩) (by rintro d' ⟨⟩; exact hd d hdst)

end Go.Proofs.YtdfneaponidfgaaDoor.Eng
