/-
  No cell of these rows narrows 'for every input' (looked for: loops, veiled, ifaces, maps, wideKeys, modest, calm, conditions, laid).
  DERIVED. THE GIVEN ROWS OF THIS SEAT. 4 by the template 'for every input the law returns true; each argument reads behind the call as it read before'; 0 by the template 'total and deterministic' (their statements: YtnnmkenloijkcaaTotals.lean).
  GIVEN WITH THE SEED: the statements are not yours to turn. If you find one false, say at which input.
  Laid BY PROGRAM, IN A SANDBOX (cutbox-rows.mjs): the forced cells as the released guide's own fill.sh prints them over the translation b2d36bd6dbb570ab… (all of the seat's roots in one cut). By AI agents, Wed Nov 11 2026. No macro, syntax, notation, axiom, sorry.
-/
import Derived.Test.YtnnmkenloijkcaaChecked
import GoSem.Claim
import GoSem.ClaimJoined
import GoSem.ClaimMapViews
import Derived.JoinedTies
import Derived.KernelRfl
namespace Go.Proofs.Ytnnmkenloijkcaa
/- THE CELL 'sum', in the pinned program and in every row, IS THE sha256 OF THE DUMP (.gsa) THAT YtnnmkenloijkcaaProg.lean LOADS. Nothing in Lean hashes anything: it is a label: what it is worth is what the hold of that sum in a sandbox is worth. -/
noncomputable def Try.pinned : Pinned := { name := "ytnnmkenloijkcaa", sum := "b2d36bd6dbb570ab006855d2382c403b77019716bffda588aef82a108bc1f31d", checked := Try.checked }
namespace Rows
def none {H : Type} : Left H := { results := [], args := [] }

/-- 'laws.FnSeeOf': WHATEVER THE INPUT: true; the input reads as it did. -/
def fnSeeOfSpec : ChangeSpec := { name := "fnSeeOf", fn := fun _ => fun
  | [d] => { results := [.lit (.bool true)], args := [d] }
  | _ => none }
def fnSeeOfRow : OpenClaim := { program := "ytnnmkenloijkcaa", sum := "b2d36bd6dbb570ab006855d2382c403b77019716bffda588aef82a108bc1f31d", func := "loop.example/wapentake/laws.FnSeeOf", spec := "fnSeeOf", unfollowed := true, recurses := true, apart := false }
def FnSeeOfSaid : Prop := fnSeeOfRow.holds Try.pinned (OpenSpec.ofChange fnSeeOfSpec)

/-- ITS FALSE NEIGHBOUR: 'it returns false'. Refute it at one input. -/
def fnSeeOfWrong : ChangeSpec := { name := "fnSeeOf", fn := fun _ => fun
  | [d] => { results := [.lit (.bool false)], args := [d] }
  | _ => none }
def FnSeeOfWrongFalsely : Prop := fnSeeOfRow.holds Try.pinned (OpenSpec.ofChange fnSeeOfWrong)

/-- 'laws.FnSeeGold': WHATEVER THE INPUT: true; the input reads as it did. -/
def fnSeeGoldSpec : ChangeSpec := { name := "fnSeeGold", fn := fun _ => fun
  | [d1, d2] => { results := [.lit (.bool true)], args := [d1, d2] }
  | _ => none }
def fnSeeGoldRow : OpenClaim := { program := "ytnnmkenloijkcaa", sum := "b2d36bd6dbb570ab006855d2382c403b77019716bffda588aef82a108bc1f31d", func := "loop.example/wapentake/laws.FnSeeGold", spec := "fnSeeGold", inPlace := ["slices.overlaps[loop.example/wapentake/impl.Ent]"], unfollowed := true, recurses := true, apart := false }
def FnSeeGoldSaid : Prop := fnSeeGoldRow.holds Try.pinned (OpenSpec.ofChange fnSeeGoldSpec)

/-- ITS FALSE NEIGHBOUR: 'it returns false'. Refute it at one input. -/
def fnSeeGoldWrong : ChangeSpec := { name := "fnSeeGold", fn := fun _ => fun
  | [d1, d2] => { results := [.lit (.bool false)], args := [d1, d2] }
  | _ => none }
def FnSeeGoldWrongFalsely : Prop := fnSeeGoldRow.holds Try.pinned (OpenSpec.ofChange fnSeeGoldWrong)

/-- 'laws.FnSeeMoves': WHATEVER THE INPUT: true; the input reads as it did. -/
def fnSeeMovesSpec : ChangeSpec := { name := "fnSeeMoves", fn := fun _ => fun
  | [d] => { results := [.lit (.bool true)], args := [d] }
  | _ => none }
def fnSeeMovesRow : OpenClaim := { program := "ytnnmkenloijkcaa", sum := "b2d36bd6dbb570ab006855d2382c403b77019716bffda588aef82a108bc1f31d", func := "loop.example/wapentake/laws.FnSeeMoves", spec := "fnSeeMoves", inPlace := ["slices.overlaps[loop.example/wapentake/impl.Ent]"], unfollowed := true, recurses := true, apart := false }
def FnSeeMovesSaid : Prop := fnSeeMovesRow.holds Try.pinned (OpenSpec.ofChange fnSeeMovesSpec)

/-- ITS FALSE NEIGHBOUR: 'it returns false'. Refute it at one input. -/
def fnSeeMovesWrong : ChangeSpec := { name := "fnSeeMoves", fn := fun _ => fun
  | [d] => { results := [.lit (.bool false)], args := [d] }
  | _ => none }
def FnSeeMovesWrongFalsely : Prop := fnSeeMovesRow.holds Try.pinned (OpenSpec.ofChange fnSeeMovesWrong)

/-- 'laws.FnExactSeeMoves': WHATEVER THE INPUT: true; the input reads as it did. -/
def fnExactSeeMovesSpec : ChangeSpec := { name := "fnExactSeeMoves", fn := fun _ => fun
  | [d1, d2] => { results := [.lit (.bool true)], args := [d1, d2] }
  | _ => none }
def fnExactSeeMovesRow : OpenClaim := { program := "ytnnmkenloijkcaa", sum := "b2d36bd6dbb570ab006855d2382c403b77019716bffda588aef82a108bc1f31d", func := "loop.example/wapentake/laws.FnExactSeeMoves", spec := "fnExactSeeMoves", inPlace := ["slices.overlaps[loop.example/wapentake/impl.Ent]"], unfollowed := true, recurses := true, apart := false }
def FnExactSeeMovesSaid : Prop := fnExactSeeMovesRow.holds Try.pinned (OpenSpec.ofChange fnExactSeeMovesSpec)

/-- ITS FALSE NEIGHBOUR: 'it returns false'. Refute it at one input. -/
def fnExactSeeMovesWrong : ChangeSpec := { name := "fnExactSeeMoves", fn := fun _ => fun
  | [d1, d2] => { results := [.lit (.bool false)], args := [d1, d2] }
  | _ => none }
def FnExactSeeMovesWrongFalsely : Prop := fnExactSeeMovesRow.holds Try.pinned (OpenSpec.ofChange fnExactSeeMovesWrong)

/- THE SECOND FORM. 'bulk': how many values and letters a reading holds, each counted each time it is reached (what is shared counts as often as it is met; a slice's spare places count too). A statement '..UptoSaid' is the law's where the arguments, and the package variables that the reading takes, are together of bulk at most 1048576: NARROWER than '..Said'. Prove '..Said' where nothing that the law and all that it calls make is longer than what came in: it says more and counts as full. Else prove '..UptoSaid'. A law counts once. -/
mutual
def uptoBulk {H : Type} : DataW H → Nat
  | .lit (.string bytes) => bytes.length + 1
  | .lit _ => 1
  | .nil => 1
  | .ptr d => uptoBulk d + 1
  | .slice elems spare => uptoBulkAll elems + uptoBulkAll spare + 1
  | .agg parts => uptoBulkAll parts + 1
  | .iface _ d => uptoBulk d + 1
  | .map entries => uptoBulkEntries entries + 1
  | .held _ => 1
def uptoBulkAll {H : Type} : List (DataW H) → Nat
  | [] => 0
  | d :: r => uptoBulk d + uptoBulkAll r
def uptoBulkEntries {H : Type} : List (Lit × DataW H) → Nat
  | [] => 0
  | x :: r => uptoBulkEntry x + uptoBulkEntries r
def uptoBulkEntry {H : Type} : Lit × DataW H → Nat
  | (.string bytes, d) => bytes.length + uptoBulk d + 1
  | (_, d) => uptoBulk d + 1
 end
def uptoSmall : (H : Type) → List (DataW H) → Bool := fun _ ds => decide (uptoBulkAll ds ≤ 1048576)
def OpenSpec.upto (s : _root_.Go.ChangeSpec) : _root_.Go.OpenSpec := { _root_.Go.OpenSpec.ofChange s with cond := some uptoSmall }

/-- 'laws.FnSeeOf', WHERE WHAT IT READS IS OF BULK AT MOST 1048576: true; the input reads as it did. -/
def fnSeeOfUptoRow : OpenClaim := { program := "ytnnmkenloijkcaa", sum := "b2d36bd6dbb570ab006855d2382c403b77019716bffda588aef82a108bc1f31d", func := "loop.example/wapentake/laws.FnSeeOf", spec := "fnSeeOf", unfollowed := true, recurses := true, apart := false, narrowed := true }
def FnSeeOfUptoSaid : Prop := fnSeeOfUptoRow.holds Try.pinned (OpenSpec.upto fnSeeOfSpec)

/-- 'laws.FnSeeGold', WHERE WHAT IT READS IS OF BULK AT MOST 1048576: true; the input reads as it did. -/
def fnSeeGoldUptoRow : OpenClaim := { program := "ytnnmkenloijkcaa", sum := "b2d36bd6dbb570ab006855d2382c403b77019716bffda588aef82a108bc1f31d", func := "loop.example/wapentake/laws.FnSeeGold", spec := "fnSeeGold", inPlace := ["slices.overlaps[loop.example/wapentake/impl.Ent]"], unfollowed := true, recurses := true, apart := false, narrowed := true }
def FnSeeGoldUptoSaid : Prop := fnSeeGoldUptoRow.holds Try.pinned (OpenSpec.upto fnSeeGoldSpec)

/-- 'laws.FnSeeMoves', WHERE WHAT IT READS IS OF BULK AT MOST 1048576: true; the input reads as it did. -/
def fnSeeMovesUptoRow : OpenClaim := { program := "ytnnmkenloijkcaa", sum := "b2d36bd6dbb570ab006855d2382c403b77019716bffda588aef82a108bc1f31d", func := "loop.example/wapentake/laws.FnSeeMoves", spec := "fnSeeMoves", inPlace := ["slices.overlaps[loop.example/wapentake/impl.Ent]"], unfollowed := true, recurses := true, apart := false, narrowed := true }
def FnSeeMovesUptoSaid : Prop := fnSeeMovesUptoRow.holds Try.pinned (OpenSpec.upto fnSeeMovesSpec)

/-- 'laws.FnExactSeeMoves', WHERE WHAT IT READS IS OF BULK AT MOST 1048576: true; the input reads as it did. -/
def fnExactSeeMovesUptoRow : OpenClaim := { program := "ytnnmkenloijkcaa", sum := "b2d36bd6dbb570ab006855d2382c403b77019716bffda588aef82a108bc1f31d", func := "loop.example/wapentake/laws.FnExactSeeMoves", spec := "fnExactSeeMoves", inPlace := ["slices.overlaps[loop.example/wapentake/impl.Ent]"], unfollowed := true, recurses := true, apart := false, narrowed := true }
def FnExactSeeMovesUptoSaid : Prop := fnExactSeeMovesUptoRow.holds Try.pinned (OpenSpec.upto fnExactSeeMovesSpec)

end Rows
end Go.Proofs.Ytnnmkenloijkcaa
