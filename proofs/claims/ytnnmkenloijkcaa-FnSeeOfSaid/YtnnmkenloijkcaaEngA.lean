/- The engine, part A: pure data, abstract states, and what it means that memory holds them. -/
import Derived.Orders
import Derived.Tactics
import Derived.Laws.Cells
import Derived.Laws.Append
import Derived.WalkKit
set_option linter.unusedVariables false
set_option linter.unusedSimpArgs false
namespace Go.Proofs.Ytnnmkenloijkcaa.Eng
open Go

/-- Pure data of one cell. -/
inductive D where
  | bool (b : Bool)
  | int (k : IntKind) (n : Int)
  | str (s : ByteArray)
  | slc (full : Bool) (esz : Nat) (rows : List (List D))
  | ptr (cells : List D)
  | nilp
  | nilfn
  | fn (f : FuncId) (caps : List D)
  deriving Inhabited

/-- What a slot or a boxed cell holds. -/
inductive V where
  | undef
  | d (x : D)
  | ref (id row esz off : Nat)
  | own (id : Nat)
  | osl (tok esz : Nat) (rows : List (List D))
  | agg (cs : List V)
  | tup (vs : List V)
  | clo (f : FuncId) (caps : List V)
  deriving Inhabited

/-- An object of the call's own. -/
inductive Obj where
  | none
  | dead
  | box (cells : List V)
  | arr (full : Bool) (esz : Nat) (rows : List (List D))
  | grow (esz n : Nat)
  deriving Inhabited

def Obj.used : Obj → Bool
  | .none => false
  | _ => true
def Obj.live : Obj → Bool
  | .none => false
  | .dead => false
  | _ => true

structure St where
  sl : Nat → V
  hp : Nat → Obj

def upd {α : Type} (f : Nat → α) (d : Nat) (v : α) (t : Nat) : α := match Nat.beq t d with | true => v | false => f t
theorem upd_same {α : Type} (f : Nat → α) (d : Nat) (v : α) : upd f d v d = v := by simp [upd]
theorem upd_ne {α : Type} (f : Nat → α) {d t : Nat} (v : α) (h : t ≠ d) : upd f d v t = f t := by
  unfold upd
  cases hb : Nat.beq t d with
  | true => exact absurd (Nat.eq_of_beq_eq_true hb) h
  | false => rfl
theorem upd_eq {α : Type} (f : Nat → α) (d t : Nat) (v : α) : upd f d v t = if t = d then v else f t := by
  by_cases h : t = d
  · subst h; simp [upd_same]
  · simp [upd_ne _ _ h, h]
theorem upd_comm {α : Type} (f : Nat → α) {d e : Nat} (v u : α) (h : d ≠ e) : upd (upd f d v) e u = upd (upd f e u) d v := by
  funext t
  simp only [upd_eq]
  by_cases h1 : t = e <;> by_cases h2 : t = d <;> simp [h1, h2]
  · exact absurd (h2.symm.trans h1) h
  · intro h3; exact absurd h3.symm h
  · intro h3; exact absurd h3 h

abbrev Imm := Nat → Nat → Prop

inductive RepD (w : World) (imm : Imm) : D → Value → Prop where
  | bool (b) : RepD w imm (.bool b) (.bool b)
  | int (k n) : RepD w imm (.int k n) (.int k n)
  | str (s : ByteArray) : RepD w imm (.str s) (.string s)
  | slc (full : Bool) (esz : Nat) (rows : List (List D)) (A : Option Addr) (c : Nat) (vals : Nat → Nat → Value)
      (hc : rows.length ≤ c) (hn : rows.length ≤ 2 ^ 48) (hf : full = true → c = rows.length)
      (hrow : ∀ (i : Nat) (r : List D), rows[i]? = some r → r.length = esz)
      (hA : rows ≠ [] → ∃ b o, A = some ⟨b, o, none⟩)
      (hcell : ∀ b o, A = some ⟨b, o, none⟩ → ∀ (i : Nat) (r : List D), rows[i]? = some r → ∀ (j : Nat) (x : D), r[j]? = some x →
        imm b (o + i * esz + j) ∧ w.cell? ⟨b, o + i * esz + j, none⟩ = some (vals i j))
      (hrep : ∀ (i : Nat) (r : List D), rows[i]? = some r → ∀ (j : Nat) (x : D), r[j]? = some x → RepD w imm x (vals i j)) :
      RepD w imm (.slc full esz rows) (.slice A rows.length c)
  | ptr (cells : List D) (b o : Nat) (vals : Nat → Value)
      (hcell : ∀ (j : Nat) (x : D), cells[j]? = some x → imm b (o + j) ∧ w.cell? ⟨b, o + j, none⟩ = some (vals j))
      (hrep : ∀ (j : Nat) (x : D), cells[j]? = some x → RepD w imm x (vals j)) :
      RepD w imm (.ptr cells) (.pointer (some ⟨b, o, none⟩))
  | nilp : RepD w imm .nilp (.pointer none)
  | nilfn : RepD w imm .nilfn .nilFunc
  | fn (f : FuncId) (caps : List D) (us : List Value) (hl : us.length = caps.length)
      (hrep : ∀ (j : Nat) (x : D) (u : Value), caps[j]? = some x → us[j]? = some u → RepD w imm x u) :
      RepD w imm (.fn f caps) (.func (.func f) #[] us.toArray)

/-- The world goes on: frozen cells stay, more are frozen. -/
structure Ext (w : World) (imm : Imm) (w' : World) (imm' : Imm) : Prop where
  sub : ∀ b o, imm b o → imm' b o
  cell : ∀ b o, imm b o → w'.cell? ⟨b, o, none⟩ = w.cell? ⟨b, o, none⟩

theorem Ext.refl (w : World) (imm : Imm) : Ext w imm w imm := ⟨fun _ _ h => h, fun _ _ _ => rfl⟩
theorem Ext.trans {w w1 w2 : World} {i i1 i2 : Imm} (h : Ext w i w1 i1) (k : Ext w1 i1 w2 i2) : Ext w i w2 i2 :=
  ⟨fun b o x => k.sub b o (h.sub b o x), fun b o x => (k.cell b o (h.sub b o x)).trans (h.cell b o x)⟩

theorem RepD.ext {w w' : World} {imm imm' : Imm} (e : Ext w imm w' imm') {x : D} {v : Value} (h : RepD w imm x v) : RepD w' imm' x v := by
  induction h with
  | bool b => exact .bool b
  | int k n => exact .int k n
  | str s => exact .str s
  | slc full esz rows A c vals hc hn hf hrow hA hcell hrep ih =>
    exact .slc full esz rows A c vals hc hn hf hrow hA
      (fun b o ha i r hi j x hj => ⟨e.sub _ _ (hcell b o ha i r hi j x hj).1, (e.cell _ _ (hcell b o ha i r hi j x hj).1).trans (hcell b o ha i r hi j x hj).2⟩) ih
  | ptr cells b o vals hcell hrep ih =>
    exact .ptr cells b o vals (fun j x hj => ⟨e.sub _ _ (hcell j x hj).1, (e.cell _ _ (hcell j x hj).1).trans (hcell j x hj).2⟩) ih
  | nilp => exact .nilp
  | nilfn => exact .nilfn
  | fn f caps us hl hrep ih => exact .fn f caps us hl ih

theorem RepD.weak {w : World} {imm : Imm} {full : Bool} {esz : Nat} {rows : List (List D)} {v : Value} (h : RepD w imm (.slc full esz rows) v) : RepD w imm (.slc false esz rows) v := by
  cases h with
  | slc full esz rows A c vals hc hn hf hrow hA hcell hrep => exact .slc false esz rows A c vals hc hn (by simp) hrow hA hcell hrep

/-- Where the objects lie. -/
structure Gh where
  imm : Imm
  blk : Nat → Option Nat
  val : Nat → Value

mutual
def RepV (w : World) (g : Gh) (hp : Nat → Obj) : V → Value → Prop
  | .undef, _ => True
  | .d x, v => RepD w g.imm x v
  | .ref id row esz off, v => (hp id).used = true ∧ (∀ e n, hp id ≠ .grow e n) ∧ ∃ b, g.blk id = some b ∧ v = .pointer (some ⟨b, row * esz + off, none⟩)
  | .own id, v => (hp id).used = true ∧ v = g.val id ∧ (∀ e n, hp id ≠ .grow e n) ∧ ∃ A n c, v = .slice A n c
  | .osl tok esz rows, v => (hp tok).used = true ∧ RepD w g.imm (.slc false esz rows) v ∧ ∀ e n, hp tok = .grow e n → e = esz ∧ rows.length ≤ n ∧ (rows.length = n → v = g.val tok)
  | .agg cs, v => ∃ us : Array Value, v = .agg us ∧ RepVs w g hp cs us.toList
  | .tup vs, v => ∃ us : Array Value, v = .tuple us ∧ RepVs w g hp vs us.toList
  | .clo f caps, v => ∃ us : Array Value, v = .func (.func f) #[] us ∧ RepVs w g hp caps us.toList
def RepVs (w : World) (g : Gh) (hp : Nat → Obj) : List V → List Value → Prop
  | [], us => us = []
  | c :: cs, us => ∃ u us', us = u :: us' ∧ RepV w g hp c u ∧ RepVs w g hp cs us'
end

/-- The old objects' places stay; none is made unused; a growing one grows. -/
structure GExt (w : World) (g : Gh) (hp : Nat → Obj) (w' : World) (g' : Gh) (hp' : Nat → Obj) : Prop where
  ext : Ext w g.imm w' g'.imm
  used : ∀ id, (hp id).used = true → (hp' id).used = true
  blk : ∀ id, (hp id).used = true → (∀ e n, hp id ≠ .grow e n) → g'.blk id = g.blk id
  val : ∀ id, (hp id).used = true → (∀ e n, hp id ≠ .grow e n) → g'.val id = g.val id
  nogrow : ∀ id, (hp id).used = true → (∀ e n, hp id ≠ .grow e n) → ∀ e n, hp' id ≠ .grow e n
  grow : ∀ id e n, (hp id).used = true → hp' id = .grow e n → ∃ m, hp id = .grow e m ∧ m ≤ n ∧ (m = n → g'.val id = g.val id)

theorem GExt.refl (w : World) (g : Gh) (hp : Nat → Obj) : GExt w g hp w g hp :=
  ⟨Ext.refl _ _, fun _ h => h, fun _ _ _ => rfl, fun _ _ _ => rfl, fun _ _ h => h, fun _ e n _ h => ⟨n, h, Nat.le_refl _, fun _ => rfl⟩⟩

theorem GExt.trans {w w1 w2 : World} {g g1 g2 : Gh} {h h1 h2 : Nat → Obj} (a : GExt w g h w1 g1 h1) (b : GExt w1 g1 h1 w2 g2 h2) : GExt w g h w2 g2 h2 where
  ext := a.ext.trans b.ext
  used := fun id u => b.used id (a.used id u)
  blk := fun id u n => (b.blk id (a.used id u) (a.nogrow id u n)).trans (a.blk id u n)
  val := fun id u n => (b.val id (a.used id u) (a.nogrow id u n)).trans (a.val id u n)
  nogrow := fun id u n => b.nogrow id (a.used id u) (a.nogrow id u n)
  grow := fun id e n u k => by
    obtain ⟨m, h3, h4, h5⟩ := b.grow id e n (a.used id u) k
    obtain ⟨m', h6, h7, h8⟩ := a.grow id e m u h3
    refine ⟨m', h6, by omega, fun q => ?_⟩
    rw [h5 (by omega), h8 (by omega)]

mutual
theorem RepV.ext {w w' : World} {g g' : Gh} {hp hp' : Nat → Obj} (e : GExt w g hp w' g' hp') :
    ∀ (x : V) (v : Value), RepV w g hp x v → RepV w' g' hp' x v
  | .undef, v, h => by simp [RepV]
  | .d x, v, h => by simp only [RepV] at h ⊢; exact h.ext e.ext
  | .ref id row esz off, v, h => by
    simp only [RepV] at h ⊢
    obtain ⟨h1, h2, b, h3, h4⟩ := h
    exact ⟨e.used _ h1, e.nogrow _ h1 h2, b, (e.blk _ h1 h2).trans h3, h4⟩
  | .own id, v, h => by
    simp only [RepV] at h ⊢
    obtain ⟨h1, h2, h3, h4⟩ := h
    exact ⟨e.used _ h1, h2.trans (e.val _ h1 h3).symm, e.nogrow _ h1 h3, h4⟩
  | .osl tok esz rows, v, h => by
    simp only [RepV] at h ⊢
    obtain ⟨h1, h2, h3⟩ := h
    refine ⟨e.used _ h1, h2.ext e.ext, fun e' n hn => ?_⟩
    obtain ⟨m, hm, hmn, hv⟩ := e.grow tok e' n h1 hn
    obtain ⟨h4, h5, h6⟩ := h3 e' m hm
    refine ⟨h4, Nat.le_trans h5 hmn, fun hl => ?_⟩
    rw [hv (by omega)]
    exact h6 (by omega)
  | .agg cs, v, h => by
    simp only [RepV] at h ⊢
    obtain ⟨us, rfl, h⟩ := h
    exact ⟨us, rfl, RepVs.ext e cs _ h⟩
  | .tup cs, v, h => by
    simp only [RepV] at h ⊢
    obtain ⟨us, rfl, h⟩ := h
    exact ⟨us, rfl, RepVs.ext e cs _ h⟩
  | .clo f cs, v, h => by
    simp only [RepV] at h ⊢
    obtain ⟨us, rfl, h⟩ := h
    exact ⟨us, rfl, RepVs.ext e cs _ h⟩
theorem RepVs.ext {w w' : World} {g g' : Gh} {hp hp' : Nat → Obj} (e : GExt w g hp w' g' hp') :
    ∀ (xs : List V) (vs : List Value), RepVs w g hp xs vs → RepVs w' g' hp' xs vs
  | [], vs, h => by simpa [RepVs] using h
  | c :: cs, vs, h => by
    simp only [RepVs] at h ⊢
    obtain ⟨u, us', rfl, h1, h2⟩ := h
    exact ⟨u, us', rfl, RepV.ext e c u h1, RepVs.ext e cs us' h2⟩
end

/-- Pure values: no object of a call is in them. -/
def gh0 (imm : Imm) : Gh := ⟨imm, fun _ => none, fun _ => Go.undef⟩
def RepP (w : World) (imm : Imm) (v : V) (u : Value) : Prop := RepV w (gh0 imm) (fun _ => .none) v u
def RepPs (w : World) (imm : Imm) (vs : List V) (us : List Value) : Prop := RepVs w (gh0 imm) (fun _ => .none) vs us

mutual
theorem RepP.to {w : World} {imm : Imm} {g : Gh} (hi : imm = g.imm) (hp : Nat → Obj) : ∀ (v : V) (u : Value), RepV w (gh0 imm) (fun _ => .none) v u → RepV w g hp v u
  | .undef, u, h => by simp [RepV]
  | .d x, u, h => by subst hi; simpa only [RepV, gh0] using h
  | .ref id r e f, u, h => by simp [RepV, Obj.used] at h
  | .own id, u, h => by simp [RepV, Obj.used] at h
  | .osl t e rows, u, h => by simp [RepV, Obj.used] at h
  | .agg cs, u, h => by
    simp only [RepV] at h ⊢
    obtain ⟨us, rfl, h⟩ := h
    exact ⟨us, rfl, RepPs.to hi hp cs _ h⟩
  | .tup cs, u, h => by
    simp only [RepV] at h ⊢
    obtain ⟨us, rfl, h⟩ := h
    exact ⟨us, rfl, RepPs.to hi hp cs _ h⟩
  | .clo f cs, u, h => by
    simp only [RepV] at h ⊢
    obtain ⟨us, rfl, h⟩ := h
    exact ⟨us, rfl, RepPs.to hi hp cs _ h⟩
theorem RepPs.to {w : World} {imm : Imm} {g : Gh} (hi : imm = g.imm) (hp : Nat → Obj) : ∀ (vs : List V) (us : List Value), RepVs w (gh0 imm) (fun _ => .none) vs us → RepVs w g hp vs us
  | [], us, h => by simpa [RepVs] using h
  | c :: cs, us, h => by
    simp only [RepVs] at h ⊢
    obtain ⟨u, us', rfl, h1, h2⟩ := h
    exact ⟨u, us', rfl, RepP.to hi hp c u h1, RepPs.to hi hp cs us' h2⟩
end

theorem RepP.ext {w w' : World} {imm imm' : Imm} (e : Ext w imm w' imm') {v : V} {u : Value} (h : RepP w imm v u) : RepP w' imm' v u :=
  RepV.ext (g := gh0 imm) (g' := gh0 imm') (hp := fun _ => .none) (hp' := fun _ => .none) ⟨e, fun _ h => h, fun _ _ _ => rfl, fun _ _ _ => rfl, fun _ _ h => h, fun _ e n _ h => ⟨n, h, Nat.le_refl _, fun _ => rfl⟩⟩ _ _ h

/-- What an object's block holds. -/
def ObjRep (w : World) (g : Gh) (hp : Nat → Obj) (id : Nat) : Obj → Prop
  | .none => True
  | .dead => True
  | .box cells => ∃ b us e, g.blk id = some b ∧ w.heap[b]? = some (.cells us e (0, 0)) ∧ RepVs w g hp cells us.toList ∧ ∀ o, ¬ g.imm b o
  | .arr full esz rows => ∃ A c, g.val id = .slice A rows.length c ∧ rows.length ≤ c ∧ rows.length ≤ 2 ^ 48 ∧ (full = true → c = rows.length) ∧
      (∀ (i : Nat) (r : List D), rows[i]? = some r → r.length = esz) ∧ (g.blk id = none → rows = []) ∧
      ∀ b, g.blk id = some b → A = some ⟨b, 0, none⟩ ∧ (∀ o, ¬ g.imm b o) ∧ ∃ us e, w.heap[b]? = some (.cells us e (0, 0)) ∧
        ∀ (i : Nat) (r : List D), rows[i]? = some r → ∀ (j : Nat) (x : D), r[j]? = some x → ∃ u, us[i * esz + j]? = some u ∧ RepD w g.imm x u
  | .grow esz n => ∃ A c, g.val id = .slice A n c ∧ n ≤ c ∧ n ≤ 2 ^ 48 ∧ (g.blk id = none → c = n) ∧
      ∀ b, g.blk id = some b → A = some ⟨b, 0, none⟩ ∧ (∀ o, n * esz ≤ o → ¬ g.imm b o) ∧ ∃ us e, w.heap[b]? = some (.cells us e (0, 0)) ∧ us.size = c * esz

/-- The environment of a call: program, types' and variables' tables, where it began. -/
structure Env where
  P : Program
  nt : Nat
  n0 : Nat
  own0 : Nat → Prop
  w0 : World
  i0 : Imm
  glob : Nat → V
  g0 : Gh
  hp0 : Nat → Obj

/-- What goes in and out of the program is as it was. -/
def SameIO (w w' : World) : Prop := w'.os = w.os ∧ w'.output = w.output
theorem SameIO.trans {a b c : World} (h : SameIO a b) (k : SameIO b c) : SameIO a c := ⟨k.1.trans h.1, k.2.trans h.2⟩

structure Rel (E : Env) (s : St) (a : Act) (w : World) (g : Gh) : Prop where
  slots : ∀ t, RepV w g s.hp (s.sl t) (a.tmps.getD t Go.undef)
  objs : ∀ id, ObjRep w g s.hp id (s.hp id)
  dist : ∀ i j b, i ≠ j → (s.hp i).live = true → (s.hp j).live = true → g.blk i = some b → g.blk j ≠ some b
  bound : ∀ b o, g.imm b o → b < w.heap.size
  globs : ∀ k, RepP w g.imm (E.glob k) (.pointer (some ⟨k, 0, none⟩))
  low : ∀ id b, (s.hp id).live = true → g.blk id = some b → E.n0 ≤ b ∨ E.own0 b
  frame : ∀ b, b < E.n0 → ¬ E.own0 b → w.heap[b]? = E.w0.heap[b]?
  size : E.n0 ≤ w.heap.size
  start : Ext E.w0 E.i0 w g.imm
  fresh : ∀ b o, g.imm b o → b < E.n0 → E.i0 b o ∨ E.own0 b
  nt : a.tmps.size = E.nt
  defers : a.defers = []
  old : GExt E.w0 E.g0 E.hp0 w g s.hp
  io : SameIO E.w0 w

end Go.Proofs.Ytnnmkenloijkcaa.Eng
