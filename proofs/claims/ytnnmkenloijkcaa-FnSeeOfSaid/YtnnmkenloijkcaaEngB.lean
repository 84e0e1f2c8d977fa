/- The engine, part B: what each operation does to an abstract state. -/
import Derived.Test.YtnnmkenloijkcaaEngA
set_option linter.unusedVariables false
set_option linter.unusedSimpArgs false
namespace Go.Proofs.Ytnnmkenloijkcaa.Eng
open Go

/-- What the engine knows of a type. -/
structure TI where
  agg : Bool := false
  size : Nat := 1
  bytes : Nat := 8
  zero : List D := []
  flds : List (Nat × Nat) := []
  slc : Bool := false
  str : Bool := false
  elem : Nat := 0
  esz : Nat := 0
  ebytes : Nat := 0
  ezero : List D := []
  scalar : Bool := false
  cmp : Bool := false
  bool : Bool := false
  kind : Option IntKind := none
  deriving Inhabited

abbrev Tab := List (Nat × TI)
def Tab.get : Tab → Nat → Option TI
  | [], _ => none
  | (k, i) :: r, t => match Nat.beq k t with | true => some i | false => Tab.get r t

def aIf (b : Bool) (p q : Prop) : Prop := match b with | true => p | false => q
theorem aIf_of {b : Bool} {p q : Prop} (h1 : b = true → p) (h2 : b = false → q) : aIf b p q := by cases b <;> simp_all [aIf]

def V.cells : V → List V
  | .agg cs => cs
  | v => [v]
/-- A cell's value is of one cell. -/
def V.leaf : V → Bool
  | .undef | .agg _ | .tup _ => false
  | _ => true
def V.isTup : V → Bool
  | .tup _ => true
  | _ => false
def D.scalar : D → Bool
  | .bool _ => true
  | .int _ _ => true
  | .str _ => true
  | _ => false
mutual
def V.scalar : V → Bool
  | .d x => x.scalar
  | .agg cs => scalars cs
  | .tup cs => scalars cs
  | _ => false
def scalars : List V → Bool
  | [] => true
  | c :: cs => match c.scalar with | true => scalars cs | false => false
end
mutual
def V.plain : V → Bool
  | .d _ => true
  | .agg cs => plains cs
  | .tup cs => plains cs
  | _ => false
def plains : List V → Bool
  | [] => true
  | c :: cs => match c.plain with | true => plains cs | false => false
end
def leavesB : List V → Bool
  | [] => true
  | v :: vs => match v.leaf with | true => leavesB vs | false => false
def mkV (agg : Bool) (cs : List V) : V := match agg with | true => .agg cs | false => cs.headD .undef

def cv : Value → V
  | .bool b => .d (.bool b)
  | .int k n => .d (.int k n)
  | .string s => .d (.str s)
  | .slice none 0 0 => .d (.slc true 0 [])
  | .pointer none => .d .nilp
  | .nilFunc => .d .nilfn
  | _ => .undef

def ev (G : Nat → V) (s : St) : Operand → V
  | .tmp t => s.sl t
  | .const v => cv v
  | .global g => G g
  | .func f => .d (.fn f [])

/-- A cell's value as pure data. -/
def leaf0 (hp : Nat → Obj) : V → Option D
  | .d x => some x
  | .osl _ e rows => some (.slc false e rows)
  | .own id => match hp id with | .arr full e rows => some (.slc full e rows) | _ => none
  | _ => none
def leafs (f : V → Option D) : List V → Option (List D)
  | [] => some []
  | c :: cs => match f c, leafs f cs with | some x, some xs => some (x :: xs) | _, _ => none
def leaf1 (hp : Nat → Obj) : V → Option D
  | .ref id 0 0 off => match hp id with | .box cells => (leafs (leaf0 hp) (cells.drop off)).map .ptr | _ => none
  | v => leaf0 hp v
def leaf2 (hp : Nat → Obj) : V → Option D
  | .clo f caps => (leafs (leaf1 hp) caps).map (.fn f)
  | v => leaf1 hp v
def pureV (hp : Nat → Obj) : V → Option V
  | .agg cs => (leafs (leaf0 hp) cs).map fun l => .agg (l.map .d)
  | .tup _ => none
  | v => (leaf2 hp v).map .d
def pureVs (hp : Nat → Obj) : List V → Option (List V)
  | [] => some []
  | c :: cs => match pureV hp c, pureVs hp cs with | some x, some xs => some (x :: xs) | _, _ => none

/-- The objects that a value leads to. -/
def ids0 : V → List Nat
  | .own id => [id]
  | _ => []
def ids1 (hp : Nat → Obj) : V → List Nat
  | .ref id _ _ off => id :: match hp id with | .box cells => (cells.drop off).flatMap ids0 | _ => []
  | v => ids0 v
def idsV (hp : Nat → Obj) : V → List Nat
  | .agg cs => cs.flatMap ids0
  | .clo _ caps => caps.flatMap (ids1 hp)
  | v => ids1 hp v

/-- With the number of a slice that grows. -/
def toks : V → List Nat
  | .osl t _ _ => [t]
  | _ => []
def idsT (hp : Nat → Obj) (v : V) : List Nat := toks v ++ idsV hp v
def kill (hp : Nat → Obj) : List Nat → Nat → Obj
  | [] => hp
  | i :: is => upd (kill hp is) i .dead

def St.app (s : St) (dst : Option Tmp) (v : V) : St :=
  match dst with | some d => ⟨upd s.sl d v, s.hp⟩ | none => s
def St.set (s : St) (id : Nat) (o : Obj) : St := ⟨s.sl, upd s.hp id o⟩
def St.kill (s : St) (is : List Nat) : St := ⟨s.sl, Eng.kill s.hp is⟩

def setCells (cs : List V) (off : Nat) : List V → List V
  | [] => cs
  | x :: xs => setCells (cs.set off x) (off + 1) xs

/-- The fields of a struct, filled. -/
def fillFlds (flds : List (Nat × Nat)) (zero : List V) : List (Nat × V) → Option (List V)
  | [] => some zero
  | (_, .undef) :: _ => none
  | (_, .tup _) :: _ => none
  | (i, v) :: r => match flds[i]? with
    | some (off, size) => match Nat.beq v.cells.length size with
      | true => fillFlds flds (setCells zero off v.cells) r
      | false => none
    | none => none

def byteAt (s : ByteArray) (i : Int) : Int := ((s.data.toList[i.toNat]?).getD 0).toNat

def eqD : D → D → D → Option Bool
  | .bool _, .bool a, .bool b => some (a == b)
  | .int k0 _, .int k a, .int k' b => match decide (k = k0), decide (k' = k0) with | true, true => some (a == b) | _, _ => none
  | .str _, .str a, .str b => some (a == b)
  | _, _, _ => none
def eqVs : List D → List V → List V → Option Bool
  | [], [], [] => some true
  | [z], [.d x], [.d y] => eqD z x y
  | z :: zs, .d x :: xs, .d y :: ys => match eqD z x y, eqVs zs xs ys with | some a, some b => some (a && b) | _, _ => none
  | _, _, _ => none

/-- A truth value is split where it arises. -/
def aP (p : Prop) (K : V → Prop) : Prop := (p → K (.d (.bool true))) ∧ (¬ p → K (.d (.bool false)))
def aB (b : Bool) (K : V → Prop) : Prop := (b = true → K (.d (.bool true))) ∧ (b = false → K (.d (.bool false)))
theorem aP_iff {p : Prop} [Decidable p] {K : V → Prop} : aP p K ↔ K (.d (.bool (decide p))) := by
  unfold aP; by_cases h : p <;> simp [h]
theorem aB_iff {b : Bool} {K : V → Prop} : aB b K ↔ K (.d (.bool b)) := by
  unfold aB; cases b <;> simp

def intOp (op : BinOp) (k : IntKind) (a b : Int) (K : V → Prop) : Prop :=
  match op with
  | .add => K (.d (.int k (k.wrap (a + b))))
  | .sub => K (.d (.int k (k.wrap (a - b))))
  | .mul => K (.d (.int k (k.wrap (a * b))))
  | .quo => b ≠ 0 ∧ K (.d (.int k (k.wrap (a.tdiv b))))
  | .rem => b ≠ 0 ∧ K (.d (.int k (a.tmod b)))
  | .and => K (.d (.int k (k.wrap ((BitVec.ofInt k.bits a &&& BitVec.ofInt k.bits b).toNat))))
  | .or => K (.d (.int k (k.wrap ((BitVec.ofInt k.bits a ||| BitVec.ofInt k.bits b).toNat))))
  | .xor => K (.d (.int k (k.wrap ((BitVec.ofInt k.bits a ^^^ BitVec.ofInt k.bits b).toNat))))
  | .eql => aP (a = b) K
  | .neq => aP (a ≠ b) K
  | .lss => aP (a < b) K
  | .leq => aP (a ≤ b) K
  | .gtr => aP (b < a) K
  | .geq => aP (b ≤ a) K
  | _ => False

def binV (cmp bl : Bool) (z : List D) (op : BinOp) (x y : V) (K : V → Prop) : Prop :=
  match x, y with
  | .d (.int k a), .d (.int k' b) => match op with
    | .shl => 0 ≤ b ∧ K (.d (.int k (k.wrap (a * 2 ^ (min b.toNat k.bits)))))
    | .shr => 0 ≤ b ∧ K (.d (.int k (a.fdiv (2 ^ (min b.toNat k.bits)))))
    | op => match decide (k = k') with | true => intOp op k a b K | false => False
  | .d (.bool a), .d (.bool b) => match bl, op with
    | true, .eql => K (.d (.bool (a == b)))
    | true, .neq => K (.d (.bool (!(a == b))))
    | _, _ => False
  | .d (.str a), .d (.str b) => match op with
    | .add => (a.size + b.size ≤ 9223372036854775807) ∧ K (.d (.str (a ++ b)))
    | .eql => aB (a == b) K
    | .neq => aB (!(a == b)) K
    | _ => False
  | .agg xs, .agg ys => match cmp, op, eqVs z xs ys with
    | true, .eql, some b => aB b K
    | true, .neq, some b => aB (!b) K
    | _, _, _ => False
  | _, _ => False

/-- The rows of a value that is read as a slice. -/
def rowsOf (hp : Nat → Obj) : V → Option (Nat × List (List D))
  | .d (.slc _ e rows) => some (e, rows)
  | .osl _ e rows => some (e, rows)
  | .own id => match hp id with | .arr _ e rows => some (e, rows) | _ => none
  | _ => none

def asInt : V → Option Int
  | .d (.int _ n) => some n
  | _ => none

/-- 'x[lo:hi:max]' of rows: the rows, and whether none is left behind them. -/
def cutRows (full : Bool) (rows : List (List D)) (lo hi mx : Option Int) (K : Bool → List (List D) → Prop) : Prop :=
  match lo, hi, mx with
  | none, none, none => K full rows
  | some l, none, none => 0 ≤ l ∧ l ≤ rows.length ∧ K full (rows.drop l.toNat)
  | none, some h, none => 0 ≤ h ∧ h ≤ rows.length ∧ K false (rows.take h.toNat)
  | some l, some h, none => 0 ≤ l ∧ l ≤ h ∧ h ≤ rows.length ∧ K false ((rows.take h.toNat).drop l.toNat)
  | none, some h, some m => 0 ≤ h ∧ h ≤ m ∧ m ≤ rows.length ∧ K (decide (h = m)) (rows.take h.toNat)
  | some l, some h, some m => 0 ≤ l ∧ l ≤ h ∧ h ≤ m ∧ m ≤ rows.length ∧ K (decide (h = m)) ((rows.take h.toNat).drop l.toNat)
  | _, _, _ => False

def optInt (G : Nat → V) (s : St) : Option Operand → Option (Option Int)
  | none => some none
  | some x => match asInt (ev G s x) with | some n => some (some n) | none => none

/-- What calls are known to do: function, arguments, and what is told of the result. -/
structure Ctr where
  pure : FuncId → List V → (V → Prop) → Prop
  heap : FuncId → (Nat → Obj) → List V → (V → List (Nat × Obj) → Prop) → Prop
  /-- Functions that are called with what their objects are. -/
  kind : FuncId → Bool
  /-- Appends whose result is an array of the call's own. -/
  own : Nat → Bool
  keep : List Nat

abbrev HP := List (Nat × Obj)
def look {α : Type} (d : α) : List (Nat × α) → Nat → α
  | [], _ => d
  | (k, v) :: r, t => match Nat.beq t k with | true => v | false => look d r t
def hpOf (l : HP) : Nat → Obj := look .none l
/-- The objects behind a call that gave some back. -/
def overlay (hp : Nat → Obj) (l : HP) (i : Nat) : Obj := look (hp i) l i
/-- Nothing of a new object's number was there. -/
def freshHp (s : St) (ids : List Nat) : HP → Prop
  | [] => True
  | (i, _) :: r => (match ids.contains i with | true => True | false => s.hp i = .none) ∧ freshHp s ids r
mutual
def okV (ids : List Nat) : V → Bool
  | .ref id _ _ _ => ids.contains id
  | .own id => ids.contains id
  | .osl tok _ _ => ids.contains tok
  | .agg cs => okVs ids cs
  | .tup cs => okVs ids cs
  | .clo _ cs => okVs ids cs
  | _ => true
def okVs (ids : List Nat) : List V → Bool
  | [] => true
  | c :: cs => okV ids c && okVs ids cs
end
def okO (ids : List Nat) : Obj → Bool
  | .box cs => okVs ids cs
  | .arr .. => true
  | .grow .. => true
  | .dead => true
  | _ => false
def weakHp (s : St) (ids : List Nat) : List (Nat × Obj) → Prop
  | [] => True
  | (k, o) :: r => s.hp k = o ∧ okO ids o = true ∧ weakHp s ids r

/-- The value, as far as its head. -/
def forceD (x : D) (K : D → Prop) : Prop :=
  match x with
  | .bool b => K (.bool b)
  | .int k n => K (.int k n)
  | .str s => K (.str s)
  | .slc f e rows => K (.slc f e rows)
  | .ptr cs => K (.ptr cs)
  | .nilp => K .nilp
  | .nilfn => K .nilfn
  | .fn f cs => K (.fn f cs)
def force (v : V) (K : V → Prop) : Prop :=
  match v with
  | .undef => K .undef
  | .d x => forceD x fun x => K (.d x)
  | .ref a b c d => K (.ref a b c d)
  | .own i => K (.own i)
  | .osl t e rows => K (.osl t e rows)
  | .agg cs => K (.agg cs)
  | .tup cs => K (.tup cs)
  | .clo f cs => K (.clo f cs)
def forceL (vs : List V) (K : List V → Prop) : Prop :=
  match vs with
  | [] => K []
  | v :: vs => force v fun v => forceL vs fun vs => K (v :: vs)
theorem forceD_eq (x : D) (K : D → Prop) : forceD x K = K x := by cases x <;> rfl
theorem force_eq (v : V) (K : V → Prop) : force v K = K v := by cases v <;> first | rfl | exact forceD_eq _ (fun x => K (.d x))
theorem forceL_eq (vs : List V) (K : List V → Prop) : forceL vs K = K vs := by
  induction vs generalizing K with
  | nil => rfl
  | cons v vs ih => simp [forceL, force_eq, ih]
/-- A state's two parts: no state is named twice in the next. -/
def withS (s : St) (k : (Nat → V) → (Nat → Obj) → Prop) : Prop := match s with | ⟨sl, hp⟩ => k sl hp
theorem withS_eq (s : St) (k : (Nat → V) → (Nat → Obj) → Prop) : withS s k = k s.sl s.hp := rfl
def forceN (l : List Nat) (K : List Nat → Prop) : Prop :=
  match l with
  | [] => K []
  | n :: r => forceN r fun r => K (n :: r)
theorem forceN_eq (l : List Nat) (K : List Nat → Prop) : forceN l K = K l := by
  induction l generalizing K with
  | nil => rfl
  | cons n l ih => simp [forceN, ih]
/-- A slot is written. -/
def putK (s : St) (dst : Option Tmp) (v : V) (K : St → Prop) : Prop :=
  match dst with
  | some d => force v fun v => withS s fun sl hp => K ⟨upd sl d v, hp⟩
  | none => K s
theorem putK_eq (s : St) (dst : Option Tmp) (v : V) (K : St → Prop) : putK s dst v K = K (s.app dst v) := by
  cases dst <;> simp [putK, St.app, force_eq, withS_eq]

/-- A slice is no longer than this. -/
def lenK (q : Bool) (n : Nat) (K : Prop) : Prop := match q with | true => K | false => n ≤ 281474976710656 → K

def ownB (C : Ctr) (o : Oper) : Bool := match o.dst with | some d => C.own d | none => false
/-- A slice of an array of the call's own: the array is not written any more. -/
def frz (q : Bool) (s : St) (x : Operand) : Option St :=
  match q, x with
  | false, .tmp t => match s.sl t with
    | .own id => match s.hp id with
      | .arr full e rows => match s with | ⟨sl, hp⟩ => some ⟨upd sl t (.d (.slc full e rows)), Eng.kill hp [id]⟩
      | _ => none
    | _ => none
  | _, _ => none
theorem frz_true (s : St) (x : Operand) : frz true s x = none := by cases x <;> rfl
def aSlice (T : Tab) (G : Nat → V) (s : St) (dst : Option Tmp) (t : TypeId) (x : Operand) (lo hi mx : Option Operand) (K : St → Prop) : Prop :=
  match T.get t with
    | some ti => match optInt G s lo, optInt G s hi, optInt G s mx with
      | some lo, some hi, some mx => match ti.slc, ti.str, ev G s x with
        | true, _, .d (.slc full e rows) => match Nat.beq e ti.esz with
          | true => cutRows full rows lo hi mx fun f r => putK s dst (.d (.slc f e r)) K
          | false => False
        | true, _, .osl _ e rows => match Nat.beq e ti.esz with
          | true => cutRows false rows lo hi mx fun f r => putK s dst (.d (.slc f e r)) K
          | false => False
        | _, true, .d (.str b) => match lo, hi, mx with
          | none, none, none => putK s dst (.d (.str b)) K
          | some l, none, none => 0 ≤ l ∧ l ≤ b.size ∧ putK s dst (.d (.str (b.extract l.toNat b.size))) K
          | none, some h, none => 0 ≤ h ∧ h ≤ b.size ∧ putK s dst (.d (.str (b.extract 0 h.toNat))) K
          | some l, some h, none => 0 ≤ l ∧ l ≤ h ∧ h ≤ b.size ∧ putK s dst (.d (.str (b.extract l.toNat h.toNat))) K
          | _, _, _ => False
        | _, _, _ => False
      | _, _, _ => False
    | none => False

/-- 'x[:n:n]' of an array of the call's own, of n rows: the array goes on under the new slot's number. -/
def aClip (T : Tab) (G : Nat → V) (s : St) (dst : Option Tmp) (t : TypeId) (x : Operand) (lo hi mx : Option Operand) (K : St → Prop) : Prop :=
  match T.get t, dst, ev G s x, lo with
  | some ti, some d, .own id, none => match s.hp id, s.hp d, optInt G s hi, optInt G s mx with
    | .arr _ e rows, .none, some (some h), some (some m) => match ti.slc, Nat.beq e ti.esz with
      | true, true => h = rows.length ∧ m = rows.length ∧ withS s fun sl hp => K ⟨upd sl d (.own d), upd (upd hp id .dead) d (.arr true e rows)⟩
      | _, _ => False
    | _, _, _, _ => False
  | _, _, _, _ => False
/-- A slice that is nil has the size of its type's elements. -/
def asgV (T : Tab) (ty : TypeId) (x : Operand) (v : V) : V :=
  match x with
  | .const (.slice none 0 0) => match T.get ty with
    | some ti => .d (.slc true ti.esz [])
    | none => v
  | _ => v
/-- A slice that is compared to nil. -/
def nilCmp (hp : Nat → Obj) (x : V) (y : Operand) : Option (Nat × List (List D)) :=
  match y with
  | .const (.slice none 0 0) => rowsOf hp x
  | _ => none
def nilK (op : BinOp) (rows : List (List D)) (K : V → Prop) : Prop :=
  match op with
  | .eql => (rows = [] → K (.d (.bool true))) ∧ K (.d (.bool false))
  | .neq => (rows = [] → K (.d (.bool false))) ∧ K (.d (.bool true))
  | _ => False

def aOp.leafRows : List V → Option (List (List D))
  | [] => some []
  | v :: vs => match v.isTup with
    | true => none
    | false => match leafs (leaf0 (fun _ => .none)) v.cells, aOp.leafRows vs with
      | some x, some xs => some (x :: xs)
      | _, _ => none

/-- One operation. q: in a region that draws its order (no told results then). -/
def aOp (T : Tab) (G : Nat → V) (C : Ctr) (q : Bool) (o : Oper) (s : St) (K : St → Prop) : Prop :=
  let put (v : V) : Prop := putK s o.dst v K
  match o.op with
  | .move x => put (ev G s x)
  | .assign x => put (asgV T o.type x (ev G s x))
  | .pick c a b => match ev G s c with
    | .d (.bool c) => aIf c (put (ev G s a)) (put (ev G s b))
    | _ => False
  | .alloc t => match o.dst, T.get t with
    | some d, some ti => match s.hp d, ti.zero with
      | .none, _ :: _ => forceL (ti.zero.map .d) fun cs => withS s fun sl hp => K ⟨upd sl d (.ref d 0 0 0), upd hp d (.box cs)⟩
      | _, _ => False
    | _, _ => False
  | .box _ x => match o.dst with
    | some d => match s.hp d, ev G s x with
      | .none, .undef => False
      | .none, .tup _ => False
      | .none, v => forceL v.cells fun cs => withS s fun sl hp => K ⟨upd sl d (.ref d 0 0 0), upd hp d (.box cs)⟩
      | _, _ => False
    | none => False
  | .build t parts => match T.get t with
    | some ti => match ti.agg, fillFlds ti.flds (ti.zero.map .d) (parts.toList.map fun p => (p.1, ev G s p.2)) with
      | true, some cs => put (.agg cs)
      | _, _ => False
    | none => False
  | .load t a => match T.get t with
    | some ti => match ev G s a with
      | .ref id row esz off => match s.hp id with
        | .box cells => match Nat.ble (off + ti.size) cells.length, row with
          | true, 0 => put (mkV ti.agg ((cells.drop off).take ti.size))
          | _, _ => False
        | .arr _ e rows => match Nat.beq e esz with
          | true => ∃ r, rows[row]? = some r ∧ match Nat.ble (off + ti.size) r.length with
            | true => put (mkV ti.agg (((r.drop off).take ti.size).map .d))
            | false => False
          | false => False
        | _ => False
      | .d (.ptr cells) => match Nat.ble ti.size cells.length with
        | true => put (mkV ti.agg ((cells.take ti.size).map .d))
        | false => False
      | _ => False
    | none => False
  | .store t a x => match T.get t with
    | some ti => match ev G s a with
      | .ref id row esz off => match s.hp id, Nat.beq (ev G s x).cells.length ti.size with
        | .box cells, true => match Nat.ble (off + ti.size) cells.length, row, leavesB (ev G s x).cells with
          | true, 0, true => forceL (setCells cells off (ev G s x).cells) fun cs => withS s fun sl hp => putK ⟨sl, upd hp id (.box cs)⟩ o.dst .undef K
          | _, _, _ => False
        | .arr full e rows, true => match Nat.beq e esz, leafs (leaf0 (fun _ => .none)) (ev G s x).cells with
          | true, some l => ∃ r, rows[row]? = some r ∧ match Nat.ble (off + ti.size) r.length with
            | true => withS s fun sl hp => putK ⟨sl, upd hp id (.arr full e (rows.set row (r.take off ++ l ++ r.drop (off + ti.size))))⟩ o.dst .undef K
            | false => False
          | _, _ => False
        | _, _ => False
      | _ => False
    | none => False
  | .nilCheck x => match ev G s x with
    | .ref id r e f => put (.ref id r e f)
    | .d (.ptr cs) => put (.d (.ptr cs))
    | .d (.fn f cs) => put (.d (.fn f cs))
    | .clo f cs => put (.clo f cs)
    | _ => False
  | .binOp op t x y _ => match T.get t with
    | some ti => match q, nilCmp s.hp (ev G s x) y with
      | false, some (e, rows) => match ti.slc, Nat.beq e ti.esz with
        | true, true => nilK op rows put
        | _, _ => False
      | _, _ => binV ti.cmp ti.bool ti.zero op (ev G s x) (ev G s y) put
    | none => False
  | .unOp op _ x => match op, ev G s x with
    | .not, .d (.bool b) => put (.d (.bool (!b)))
    | .neg, .d (.int k n) => put (.d (.int k (k.wrap (0 - n))))
    | .xor, .d (.int k n) => put (.d (.int k (k.wrap ((BitVec.ofInt k.bits (if k.signed then -1 else k.max) ^^^ BitVec.ofInt k.bits n).toNat))))
    | _, _ => False
  | .convert src dst x => match T.get dst, T.get src with
    | some ti, some si => match ev G s x, ti.kind, si.kind with
      | .d (.int _ n), some k, some _ => put (.d (.int k (k.wrap n)))
      | _, _, _ => False
    | _, _ => False
  | .makeFunc (.func f) first captured => match first.toList with
    | [] => put (.clo f (captured.toList.map (ev G s)))
    | _ => False
  | .fieldAddr t x f => match T.get t with
    | some ti => match ti.agg, ev G s x, ti.flds[f]? with
      | true, .ref id row esz off, some (fo, _) => put (.ref id row esz (off + fo))
      | true, .d (.ptr cells), some (fo, _) => put (.d (.ptr (cells.drop fo)))
      | _, _, _ => False
    | none => False
  | .indexAddr t x i => match T.get t with
    | some ti => match ti.slc with
      | true => match ev G s x, ev G s i with
        | .own id, .d (.int _ n) => match s.hp id with
          | .arr _ e rows => match Nat.beq e ti.esz with
            | true => 0 ≤ n ∧ n.toNat < rows.length ∧ put (.ref id n.toNat e 0)
            | false => False
          | _ => False
        | .d (.slc _ e rows), .d (.int _ n) => match Nat.beq e ti.esz with
          | true => 0 ≤ n ∧ ∃ r, rows[n.toNat]? = some r ∧ put (.d (.ptr r))
          | false => False
        | .osl _ e rows, .d (.int _ n) => match Nat.beq e ti.esz with
          | true => 0 ≤ n ∧ ∃ r, rows[n.toNat]? = some r ∧ put (.d (.ptr r))
          | false => False
        | _, _ => False
      | false => False
    | none => False
  | .index t x i => match ev G s x, ev G s i with
    | .d (.str b), .d (.int _ n) => match T.get t with
      | some ti => match ti.str with
        | true => 0 ≤ n ∧ n < b.size ∧ put (.d (.int .u8 (byteAt b n)))
        | false => False
      | none => False
    | _, _ => False
  | .extract x i => match ev G s x with
    | .tup vs => match vs[i]? with | some v => put v | none => False
    | _ => False
  | .buildSlice t len parts => match T.get t with
    | some ti => match ti.slc, aOp.leafRows (parts.toList.map fun p => ev G s p.2) with
      | true, some rows => match Nat.beq rows.length len, decide (parts.toList.map (·.1) = List.range len), rows.all (fun r => Nat.beq r.length ti.esz), Nat.ble (len * ti.esz) (2 ^ 24) with
        | true, true, true, true => match ownB C o with
          | false => put (.d (.slc true ti.esz rows))
          | true => match o.dst with
            | some d => match s.hp d with
              | .none => withS s fun sl hp => K ⟨upd sl d (.own d), upd hp d (.arr true ti.esz rows)⟩
              | _ => False
            | none => False
        | _, _, _, _ => False
      | _, _ => False
    | none => False
  | .makeSlice t l c => match T.get t with
    | some ti => match ti.slc, ev G s l, ev G s c, o.dst with
      | true, .d (.int _ n), .d (.int _ m), some d => match s.hp d with
        | .none => n = m ∧ 0 ≤ n ∧ n * ti.ebytes ≤ 2 ^ 47 ∧ n ≤ 2 ^ 47 ∧ withS s fun sl hp => K ⟨upd sl d (.own d), upd hp d (.arr true ti.esz (List.replicate n.toNat ti.ezero))⟩
        | _ => False
      | _, _, _, _ => False
    | none => False
  | .slice t x lo hi mx => match q, ownB C o with
    | false, true => aClip T G s o.dst t x lo hi mx K
    | _, _ => match frz q s x with
      | some s2 => aSlice T G s2 o.dst t x lo hi mx K
      | none => aSlice T G s o.dst t x lo hi mx K
  | .call c => match c.callee with
    | .builtin .len => match c.args.toList, c.argTypes.toList with
      | [x], t :: _ => match T.get t with
        | some ti => match ti.str, ti.slc, ev G s x with
          | true, _, .d (.str b) => put (.d (.int .i64 b.size))
          | _, true, v => match rowsOf s.hp v with
            | some (_, rows) => lenK q rows.length (put (.d (.int .i64 rows.length)))
            | none => False
          | _, _, _ => False
        | none => False
      | _, _ => False
    | .builtin .cap => match c.args.toList, c.argTypes.toList with
      | [x], t :: _ => match T.get t with
        | some ti => match ti.slc, ev G s x with
          | true, .d (.slc true _ rows) => put (.d (.int .i64 rows.length))
          | _, _ => False
        | none => False
      | _, _ => False
    | .builtin .append => match c.args.toList, c.argTypes.toList, o.dst with
      | [x, y], [tx, ty], some d => match T.get tx, T.get ty with
        | some ti, some tj => match ti.slc, tj.slc, rowsOf s.hp (ev G s y) with
          | true, true, some (e2, rows2) => match Nat.beq e2 ti.esz && Nat.beq tx ty, ev G s x with
            | true, .d (.slc true e rows) => match s.hp d, Nat.beq e ti.esz with
              | .none, true => match C.own d, rows with
                | true, [] => rows2.length * ti.ebytes ≤ 2 ^ 47 ∧ rows2.length ≤ 2 ^ 47 ∧ withS s fun sl hp => K ⟨upd sl d (.own d), upd hp d (.arr false e rows2)⟩
                | _, rows => (rows.length + rows2.length) * ti.ebytes ≤ 2 ^ 47 ∧ rows.length + rows2.length ≤ 2 ^ 47 ∧
                  withS s fun sl hp => K ⟨upd sl d (.osl d e (rows ++ rows2)), upd hp d (.grow e (rows.length + rows2.length))⟩
              | _, _ => False
            | true, .osl tok e rows => match s.hp tok, Nat.beq e ti.esz with
              | .grow _ n, true => n = rows.length ∧ (rows.length + rows2.length) * ti.ebytes ≤ 2 ^ 47 ∧ rows.length + rows2.length ≤ 2 ^ 47 ∧
                  withS s fun sl hp => K ⟨upd sl d (.osl tok e (rows ++ rows2)), upd hp tok (.grow e (rows.length + rows2.length))⟩
              | _, _ => False
            | _, _ => False
          | _, _, _ => False
        | _, _ => False
      | _, _, _ => False
    | .value f => match ev G s f with
      | .d (.fn fid caps) => match C.kind fid with
        | true => match q with
          | true => match ownB C o with
            | true => match f, o.dst with
              | .func _, some d => match s.hp d, plains (c.args.toList.map (ev G s)) with
                | .none, true => ∃ ob, C.heap fid (hpOf []) (c.args.toList.map (ev G s) ++ caps.map .d) (fun r l => r = .own d ∧ l = [(d, ob)]) ∧
                  match ob with
                  | .arr .. => withS s fun sl hp => K ⟨upd sl d (.own d), upd hp d ob⟩
                  | _ => False
                | _, _ => False
              | _, _ => False
            | false => match f, c.args.toList.map (ev G s) with
              | .func _, .ref id 0 0 0 :: as => match s.hp id with
                | .box cells => ∃ r cells', C.heap fid (hpOf [(id, .box cells)]) ((.ref id 0 0 0 :: as) ++ caps.map .d) (fun r' l => r' = r ∧ l = [(id, .box cells')]) ∧
                  match plains as, plains cells, r.plain, plains cells' with
                  | true, true, true, true => withS s fun sl hp => putK ⟨sl, upd hp id (.box cells')⟩ o.dst r K
                  | _, _, _, _ => False
                | _ => False
              | _, _ => False
          | false => ∃ hin φ, C.heap fid (hpOf hin) (c.args.toList.map (ev G s) ++ caps.map .d) φ ∧ weakHp s (hin.map (·.1)) hin ∧ okVs (hin.map (·.1)) (c.args.toList.map (ev G s)) = true ∧
            ∀ r l, φ r l → freshHp s (hin.map (·.1)) l ∧ withS s fun sl hp => putK ⟨sl, overlay hp l⟩ o.dst r K
        | false => match pureVs s.hp (c.args.toList.map (ev G s)) with
          | some args => match q with
            | true => ∃ r, C.pure fid (args ++ caps.map .d) (· = r) ∧ match r.scalar with
              | true => putK s o.dst r K
              | false => match (c.args.toList.map (ev G s)).flatMap (idsV s.hp), r.plain with
                | [], true => putK s o.dst r K
                | _, _ => False
            | false => ∃ φ, C.pure fid (args ++ caps.map .d) φ ∧ ∀ r, φ r → match r.scalar with
              | true => putK s o.dst r K
              | false => forceN ((c.args.toList.map (ev G s)).flatMap (idsV s.hp)) fun ids => withS s fun sl hp => putK ⟨sl, Eng.kill hp ids⟩ o.dst r K
          | none => False
      | _ => False
    | _ => False
  | _ => False

/-- The operation, if its guard lets it. -/
def aStep (T : Tab) (G : Nat → V) (C : Ctr) (q : Bool) (ops : Array Oper) (o : Oper) (s : St) (K : St → Prop) : Prop :=
  match o.guard with
  | none => aOp T G C q o s K
  | some (j, want) => match (ops[j]?).bind (·.dst) with
    | some g => match s.sl g with
      | .d (.bool b) => aIf b (match want with | true => aOp T G C q o s K | false => putK s o.dst (.tup []) K) (match want with | false => aOp T G C q o s K | true => putK s o.dst (.tup []) K)
      | .tup [] => putK s o.dst (.tup []) K
      | _ => False
    | none => False

def aOps (T : Tab) (G : Nat → V) (C : Ctr) (q : Bool) (ops : Array Oper) : List Oper → St → (St → Prop) → Prop
  | [], s, K => K s
  | o :: r, s, K => aStep T G C q ops o s fun s' => aOps T G C q ops r s' K

/-- What writes objects that were there. -/
def isW (kd : FuncId → Bool) : Op → Bool
  | .store .. => true
  | .call c => match c.callee with
    | .value (.func f) => kd f
    | .builtin .append => true
    | _ => false
  | _ => false
def bindsB (e : Edge) : Bool := match e.ground with | .textOnly _ => false | .gcOnly _ => false | _ => true
def maskOf (ms : List Nat) : List Edge → Nat
  | [] => 0
  | e :: r => match bindsB e with | true => Nat.lor (Nat.lor (2 ^ e.on) (ms.getD e.on 0)) (maskOf ms r) | false => maskOf ms r
/-- For each operation those that come before it in each order. -/
def masks : List Oper → List Nat → List Nat
  | [], acc => acc
  | o :: r, acc => masks r (acc ++ [maskOf acc o.after.toList])
/-- Pairs in no order, one of them a store. -/
def specialsOf (kd : FuncId → Bool) (ops : List Oper) : List (Nat × Nat) :=
  let ms := masks ops []
  (List.range ops.length).flatMap fun i => (List.range i).filter (fun j => match ops[i]?, ops[j]? with
    | some o, some x => !(ms.getD i 0).testBit j && (isW kd o.op || isW kd x.op)
    | _, _ => false) |>.map fun j => (j, i)
/-- What does not look at objects, though it may be given their places. -/
def heedless : Op → Bool
  | .move _ => true
  | .assign _ => true
  | .nilCheck _ => true
  | .fieldAddr .. => true
  | _ => false
def touch (G : Nat → V) (s : St) (o : Oper) : List Nat :=
  match heedless o.op with
  | true => []
  | false => o.op.operands.toList.flatMap fun x => idsT s.hp (ev G s x)
def disj (xs ys : List Nat) : Bool := xs.all fun x => !ys.contains x
def disjB (ts : List (List Nat)) (ps : List (Nat × Nat)) : Bool := ps.all fun p => disj (ts.getD p.1 []) (ts.getD p.2 [])
def aOpsT (T : Tab) (G : Nat → V) (C : Ctr) (ops : Array Oper) (ps : List (Nat × Nat)) : List (List Nat) → List Oper → St → (St → Prop) → Prop
  | acc, [], s, K => match disjB acc.reverse ps with | true => K s | false => False
  | acc, o :: r, s, K => aStep T G C true ops o s fun s' => aOpsT T G C ops ps (touch G s o :: acc) r s' K
/-- A region that draws its order. -/
def aDraw (T : Tab) (G : Nat → V) (C : Ctr) (ops : Array Oper) (s : St) (K : St → Prop) : Prop :=
  match ops.toList.any (fun o => isW C.kind o.op) with
  | false => aOps T G C true ops ops.toList s K
  | true => aOpsT T G C ops (specialsOf C.kind ops.toList) [] ops.toList s K

inductive Ex where
  | normal
  | exit (id : Nat)
  | ret

def Ex.seq (k : St → Prop) (Q : Ex → St → Prop) : Ex → St → Prop
  | .normal, s => k s
  | e, s => Q e s
def Ex.block (id : Nat) (Q : Ex → St → Prop) : Ex → St → Prop
  | .exit i, s => match Nat.beq i id with | true => Q .normal s | false => Q (.exit i) s
  | e, s => Q e s

/-- A state given by lists: what is known of slots, and the objects. -/
structure SL where
  sl : List (Nat × V)
  hp : List (Nat × Obj) := []

def SL.st (l : SL) : St := ⟨look .undef l.sl, look .none l.hp⟩

def weakSl (s : St) (ids : List Nat) : List (Nat × V) → Prop
  | [] => True
  | (k, v) :: r => s.sl k = v ∧ okV ids v = true ∧ weakSl s ids r
/-- A state that knows at least what the lists say. -/
def keepB (kp : List Nat) (l : SL) : Bool := kp.all fun i => (l.hp.map (·.1)).contains i
def Weak (kp : List Nat) (s : St) (l : SL) : Prop := weakSl s (l.hp.map (·.1)) l.sl ∧ weakHp s (l.hp.map (·.1)) l.hp ∧ keepB kp l = true

def aWp (T : Tab) (G : Nat → V) (C : Ctr) : Code → (Ex → St → Prop) → St → Prop
  | .skip, Q, s => Q .normal s
  | .region _ ops draw, Q, s => match draw with
    | false => aOps T G C false ops ops.toList s (Q .normal)
    | true => aDraw T G C ops s (Q .normal)
  | .seq a b, Q, s => aWp T G C a (Ex.seq (aWp T G C b Q) Q) s
  | .cond c a b, Q, s => match ev G s c with
    | .d (.bool b') => aIf b' (aWp T G C a Q s) (aWp T G C b Q s)
    | _ => False
  | .block id b, Q, s => aWp T G C b (Ex.block id Q) s
  | .loop b, Q, s => ∃ (ι : Type) (I : ι → SL) (m : ι → Nat) (x0 : ι), Weak C.keep s (I x0) ∧
      ∀ x, aWp T G C b (Ex.seq (fun s' => ∃ y, m y < m x ∧ Weak C.keep s' (I y)) Q) (I x).st
  | .exit id, Q, s => Q (.exit id) s
  | .ret, Q, s => Q .ret s
  | _, _, _ => False

end Go.Proofs.Ytnnmkenloijkcaa.Eng
