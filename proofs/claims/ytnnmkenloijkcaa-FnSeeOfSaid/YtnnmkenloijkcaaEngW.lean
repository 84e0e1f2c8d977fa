/- The engine, part W: a function's contract out of its code. -/
import Derived.Test.YtnnmkenloijkcaaEngV
import Derived.Test.YtnnmkenloijkcaaEngQ2
set_option linter.unusedVariables false
set_option linter.unusedSimpArgs false
namespace Go.Proofs.Ytnnmkenloijkcaa.Eng
open Go

def bodyOf (fn : Func) : Code := match fn.body with | some c => c | none => .skip
def fnB (fn : Func) : Bool := match fn.body with
  | some c => codeB fn.ntmps c && !(fn.name == "runtime.NumGoroutine")
  | none => false

structure TabOk (P : Program) (T : Tab) : Prop where
  tab : tabB P T = true
  cmp : cmpB P T = true
  any : P.follows .mixedOrders = true

/-- The contracts of a program. -/
def ctr (P : Program) (G : Nat → V) (own : List Nat := []) (kd : List Nat := []) (kp : List Nat := []) : Ctr := ⟨ACalls P G, HCalls P G, fun f => kd.contains f, fun d => own.contains d, kp⟩

theorem spec_own {P : Program} {G : Nat → V} {T : Tab} (hT : TabOk P T) {f : FuncId} {fn : Func} (hf : P.funcs[f]? = some fn) (hB : fnB fn = true) {args : List V} {φ : V → Prop} (own kd : List Nat) (hnt : Nat.ble args.length fn.ntmps = true)
    (hk : aWp T G (ctr P G own kd) (bodyOf fn) (finQ T fn.results.toList φ) (initSt args)) : ACalls P G f args φ := by
  unfold fnB at hB
  cases hb : fn.body with
  | none => simp [hb] at hB
  | some c =>
    simp only [hb, Bool.and_eq_true, Bool.not_eq_true'] at hB
    have hc : bodyOf fn = c := by simp [bodyOf, hb]
    rw [hc] at hk
    have hcmp := cmpB_ok hT.cmp
    refine acalls_intro (C := ctr P G own kd) hf hb hB.2 hT.tab hcmp (fun _ _ _ h => h) (fun _ _ _ _ h => h) (Nat.le_of_ble_eq_true hnt) (fun E hP hn hG hH => ?_) hk
    subst hP; subst hG
    exact codeB_ok ⟨hT.tab, hcmp, fun _ _ _ h => h, fun _ _ _ _ h => h, fun id hu => by rw [hH] at hu; simp [Obj.used] at hu⟩ hT.any c (by rw [hn]; exact hB.1)

theorem spec_intro {P : Program} {G : Nat → V} {T : Tab} (hT : TabOk P T) {f : FuncId} {fn : Func} (hf : P.funcs[f]? = some fn) (hB : fnB fn = true) {args : List V} {φ : V → Prop} (hnt : Nat.ble args.length fn.ntmps = true)
    (hk : aWp T G (ctr P G) (bodyOf fn) (finQ T fn.results.toList φ) (initSt args)) : ACalls P G f args φ := spec_own hT hf hB [] [] hnt hk

/-- A contract of a function that is given objects. -/
theorem hspec {P : Program} {G : Nat → V} {T : Tab} (hT : TabOk P T) {f : FuncId} {fn : Func} (hf : P.funcs[f]? = some fn) (hB : fnB fn = true) {hin : HP} {args : List V} {φ : V → HP → Prop} (raw : Bool) (own kd : List Nat) (hnt : Nat.ble args.length fn.ntmps = true)
    (hk : aWp T G (ctr P G own kd (hin.map (·.1))) (bodyOf fn) (finH raw T fn.results.toList (hin.map (·.1)) φ) (initH (hpOf hin) args)) : HCalls P G f (hpOf hin) args φ := by
  unfold fnB at hB
  cases hb : fn.body with
  | none => simp [hb] at hB
  | some c =>
    simp only [hb, Bool.and_eq_true, Bool.not_eq_true'] at hB
    have hc : bodyOf fn = c := by simp [bodyOf, hb]
    rw [hc] at hk
    have hcmp := cmpB_ok hT.cmp
    have hkp : ∀ id, (hpOf hin id).used = true → id ∈ hin.map (·.1) := fun id hu => by
      apply Classical.byContradiction
      intro hn
      rw [(overlay_out (hp := fun _ => .none) hn).2] at hu; simp [Obj.used] at hu
    refine hcalls_intro (C := ctr P G own kd (hin.map (·.1))) hf hb hB.2 hT.tab hcmp (fun _ _ _ h => h) (fun _ _ _ _ h => h) hkp (Nat.le_of_ble_eq_true hnt) (fun E hP hn hG hH => ?_) raw hk
    subst hP; subst hG
    exact codeB_ok ⟨hT.tab, hcmp, fun _ _ _ h => h, fun _ _ _ _ h => h, fun id hu => hkp id (by rw [← hH]; exact hu)⟩ hT.any c (by rw [hn]; exact hB.1)

theorem call_mono {P : Program} {G : Nat → V} {f : FuncId} {args : List V} {φ : V → Prop} (h : ACalls P G f args φ) {ψ : V → Prop} (k : ∀ r, φ r → ψ r) : ∃ φ, ACalls P G f args φ ∧ ∀ r, φ r → ψ r := ⟨φ, h, k⟩
theorem call_eq {P : Program} {G : Nat → V} {f : FuncId} {args : List V} {r : V} (h : ACalls P G f args (· = r)) {ψ : V → Prop} (k : ψ r) : ∃ φ, ACalls P G f args φ ∧ ∀ r, φ r → ψ r := ⟨_, h, fun _ e => e ▸ k⟩
theorem drawn_eq {P : Program} {G : Nat → V} {f : FuncId} {args : List V} {r : V} (h : ACalls P G f args (· = r)) {ψ : V → Prop} (k : ψ r) : ∃ r, ACalls P G f args (· = r) ∧ ψ r := ⟨r, h, k⟩

theorem call_eq' {P : Program} {G : Nat → V} {f : FuncId} {args args' : List V} {r : V} (h : ACalls P G f args (· = r)) (e : args' = args) {ψ : V → Prop} (k : ψ r) : ∃ φ, ACalls P G f args' φ ∧ ∀ r, φ r → ψ r := by subst e; exact call_eq h k
theorem drawn_eq' {P : Program} {G : Nat → V} {f : FuncId} {args args' : List V} {r : V} (h : ACalls P G f args (· = r)) (e : args' = args) {ψ : V → Prop} (k : ψ r) : ∃ r, ACalls P G f args' (· = r) ∧ ψ r := by subst e; exact ⟨r, h, k⟩
theorem call_bool {P : Program} {G : Nat → V} {f : FuncId} {args : List V} {b : Bool} (h : ACalls P G f args (· = .d (.bool b))) {ψ : V → Prop} (kt : b = true → ψ (.d (.bool true))) (kf : b = false → ψ (.d (.bool false))) :
    ∃ φ, ACalls P G f args φ ∧ ∀ r, φ r → ψ r := ⟨_, h, fun _ e => by cases b <;> simp_all⟩
theorem call_bool' {P : Program} {G : Nat → V} {f : FuncId} {args args' : List V} {b : Bool} (h : ACalls P G f args (· = .d (.bool b))) (e : args' = args) {ψ : V → Prop} (kt : b = true → ψ (.d (.bool true))) (kf : b = false → ψ (.d (.bool false))) :
    ∃ φ, ACalls P G f args' φ ∧ ∀ r, φ r → ψ r := by subst e; exact call_bool h kt kf
theorem drawn_bool {P : Program} {G : Nat → V} {f : FuncId} {args : List V} {b : Bool} (h : ACalls P G f args (· = .d (.bool b))) {ψ : V → Prop} (kt : b = true → ψ (.d (.bool true))) (kf : b = false → ψ (.d (.bool false))) :
    ∃ r, ACalls P G f args (· = r) ∧ ψ r := ⟨_, h, by cases b <;> simp_all⟩
theorem HCalls.mono {P : Program} {G : Nat → V} {f : FuncId} {hp0 : Nat → Obj} {args : List V} {φ ψ : V → HP → Prop} (h : HCalls P G f hp0 args φ) (k : ∀ r l, φ r l → ψ r l) : HCalls P G f hp0 args ψ :=
  ⟨h.1, fun w g us h1 h2 h3 h4 h5 => (h.2 w g us h1 h2 h3 h4 h5).mono fun e w' ho => ⟨by
    obtain ⟨u, r, l, g', q1, q2, q3⟩ := ho.out
    exact ⟨u, r, l, g', q1, k r l q2, q3⟩⟩⟩
/-- What a call says that is given one box, and changes it. -/
abbrev Box1 (id : Nat) (R : V) (c' : List V) : V → HP → Prop := fun r l => ∃ c, l = [(id, .box c)] ∧ r.plain = true ∧ plains c = true ∧ (r = R ∧ c = c')
theorem hcall_box {P : Program} {G : Nat → V} {f : FuncId} {id : Nat} {cells c' args : List V} {R : V} (h : HCalls P G f (hpOf [(id, .box cells)]) args (Box1 id R c')) {s : St} (hs : s.hp id = .box cells) (ho : okVs [id] cells = true) (ha : okVs [id] args = true) {K : HP → V → HP → Prop}
    (k : K [(id, .box cells)] R [(id, .box c')]) : ∃ hin φ, HCalls P G f (hpOf hin) args φ ∧ weakHp s (hin.map (·.1)) hin ∧ okVs (hin.map (·.1)) args = true ∧ ∀ r l, φ r l → K hin r l :=
  ⟨_, _, h, ⟨hs, ho, trivial⟩, ha, fun r l ⟨c, h1, _, _, h2, h3⟩ => by subst h1; subst h2; subst h3; exact k⟩
theorem drawn_box {P : Program} {G : Nat → V} {f : FuncId} {id : Nat} {cells c' args : List V} {R : V} (h : HCalls P G f (hpOf [(id, .box cells)]) args (Box1 id R c')) {K : V → List V → Prop}
    (k : K R c') : ∃ r cells', HCalls P G f (hpOf [(id, .box cells)]) args (fun r' l => r' = r ∧ l = [(id, .box cells')]) ∧ K r cells' :=
  ⟨_, _, h.mono fun r l ⟨c, h1, _, _, h2, h3⟩ => ⟨h2, by subst h3; exact h1⟩, k⟩
def vi (n : Int) : V := .d (.int .i64 n)
def vb (b : Bool) : V := .d (.bool b)
abbrev G0 : Nat → V := fun _ => .undef
theorem row_map {α : Type} {f : α → List D} {l : List α} {i : Nat} {x : α} (h : l[i]? = some x) : (l.map f)[i]? = some (f x) := by simp [h]
theorem wrap_id {n : Int} (h1 : -9223372036854775808 ≤ n) (h2 : n ≤ 9223372036854775807) : IntKind.i64.wrap n = n := by
  simp only [IntKind.wrap, IntKind.bits, IntKind.signed]
  simp
  split <;> omega
theorem wrap_range (n : Int) : -9223372036854775808 ≤ IntKind.i64.wrap n ∧ IntKind.i64.wrap n ≤ 9223372036854775807 := by
  simp only [IntKind.wrap, IntKind.bits, IntKind.signed]
  simp
  split <;> omega

/-- A loop that counts up. -/
theorem loop_up {T : Tab} {G : Nat → V} {C : Ctr} {b : Code} {Q : Ex → St → Prop} {s : St} (n : Nat) (P : Nat → Prop) (I : Nat → SL) (h0 : P 0) (hw : Weak C.keep s (I 0))
    (hstep : ∀ i, i ≤ n → P i → aWp T G C b (Ex.seq (fun s' => ∃ y : { i : Nat // i ≤ n ∧ P i }, n - y.1 < n - i ∧ Weak C.keep s' (I y.1)) Q) (I i).st) :
    ∃ (ι : Type) (I : ι → SL) (m : ι → Nat) (x0 : ι), Weak C.keep s (I x0) ∧ ∀ x, aWp T G C b (Ex.seq (fun s' => ∃ y, m y < m x ∧ Weak C.keep s' (I y)) Q) (I x).st :=
  ⟨{ i : Nat // i ≤ n ∧ P i }, fun x => I x.1, fun x => n - x.1, ⟨0, Nat.zero_le _, h0⟩, hw, fun x => hstep x.1 x.2.1 x.2.2⟩
theorem up_next {kp : List Nat} {n i : Nat} {P : Nat → Prop} {I : Nat → SL} {s' : St} (h : i < n) (hP : P (i + 1)) (hw : Weak kp s' (I (i + 1))) : ∃ y : { i : Nat // i ≤ n ∧ P i }, n - y.1 < n - i ∧ Weak kp s' (I y.1) :=
  ⟨⟨i + 1, h, hP⟩, by show n - (i + 1) < n - i; omega, hw⟩
theorem wrap_succ {i : Nat} (h : i ≤ 281474976710656) : vi (IntKind.i64.wrap ((i : Int) + 1)) = vi ((i + 1 : Nat) : Int) := congrArg vi (wrap_id (by omega) (by omega))

theorem weakSl_nil {s : St} {ids : List Nat} : weakSl s ids [] := trivial
theorem weakHp_nil {s : St} {ids : List Nat} : weakHp s ids [] := trivial
theorem weakSl_cons {s : St} {ids : List Nat} {k : Nat} {v : V} {r : List (Nat × V)} (h1 : s.sl k = v) (h2 : okV ids v = true) (h3 : weakSl s ids r) : weakSl s ids ((k, v) :: r) := ⟨h1, h2, h3⟩
theorem weakHp_cons {s : St} {ids : List Nat} {k : Nat} {v : Obj} {r : List (Nat × Obj)} (h1 : s.hp k = v) (h2 : okO ids v = true) (h3 : weakHp s ids r) : weakHp s ids ((k, v) :: r) := ⟨h1, h2, h3⟩

end Go.Proofs.Ytnnmkenloijkcaa.Eng
