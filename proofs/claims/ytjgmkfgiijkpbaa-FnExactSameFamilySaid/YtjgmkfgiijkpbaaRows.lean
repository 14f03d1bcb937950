/-
  No cell of these rows narrows 'for every input' (looked for: loops, veiled, ifaces, maps, wideKeys, modest, calm, conditions, laid).
  DERIVED. THE GIVEN ROWS OF THIS SEAT. 4 by the template 'for every input the law returns true; each argument reads behind the call as it read before'; 0 by the template 'total and deterministic' (their statements: YtjgmkfgiijkpbaaTotals.lean).
  GIVEN WITH THE SEED: the statements are not yours to turn. If you find one false, say at which input.
  Laid BY PROGRAM, IN A SANDBOX (cutbox-rows.mjs): the forced cells as the released guide's own fill.sh prints them over the translation 82750d2889a6be0a… (all of the seat's roots in one cut). By AI agents, Wed Nov 11 2026. No macro, syntax, notation, axiom, sorry.
-/
import Derived.Test.YtjgmkfgiijkpbaaChecked
import GoSem.Claim
import GoSem.ClaimJoined
import GoSem.ClaimMapViews
import Derived.JoinedTies
import Derived.KernelRfl
namespace Go.Proofs.Ytjgmkfgiijkpbaa
/- THE CELL 'sum', in the pinned program and in every row, IS THE sha256 OF THE DUMP (.gsa) THAT YtjgmkfgiijkpbaaProg.lean LOADS. Nothing in Lean hashes anything: it is a label: what it is worth is what the hold of that sum in a sandbox is worth. -/
noncomputable def Try.pinned : Pinned := { name := "ytjgmkfgiijkpbaa", sum := "82750d2889a6be0a1cfab2397ca3d60469aae9d9ec26de5c001f3bd105cd50eb", checked := Try.checked }
namespace Rows
def none {H : Type} : Left H := { results := [], args := [] }

/-- 'laws.FnExactSameSystem': WHATEVER THE INPUT: true; the input reads as it did. -/
def fnExactSameSystemSpec : ChangeSpec := { name := "fnExactSameSystem", fn := fun _ => fun
  | [d1, d2] => { results := [.lit (.bool true)], args := [d1, d2] }
  | _ => none }
def fnExactSameSystemRow : OpenClaim := { program := "ytjgmkfgiijkpbaa", sum := "82750d2889a6be0a1cfab2397ca3d60469aae9d9ec26de5c001f3bd105cd50eb", func := "loop.example/g01143/laws.FnExactSameSystem", spec := "fnExactSameSystem", apart := false }
def FnExactSameSystemSaid : Prop := fnExactSameSystemRow.holds Try.pinned (OpenSpec.ofChange fnExactSameSystemSpec)

/-- ITS FALSE NEIGHBOUR: 'it returns false'. Refute it at one input. -/
def fnExactSameSystemWrong : ChangeSpec := { name := "fnExactSameSystem", fn := fun _ => fun
  | [d1, d2] => { results := [.lit (.bool false)], args := [d1, d2] }
  | _ => none }
def FnExactSameSystemWrongFalsely : Prop := fnExactSameSystemRow.holds Try.pinned (OpenSpec.ofChange fnExactSameSystemWrong)

/-- 'laws.FnExactSameSolutions': WHATEVER THE INPUT: true; the input reads as it did. -/
def fnExactSameSolutionsSpec : ChangeSpec := { name := "fnExactSameSolutions", fn := fun _ => fun
  | [d1, d2] => { results := [.lit (.bool true)], args := [d1, d2] }
  | _ => none }
def fnExactSameSolutionsRow : OpenClaim := { program := "ytjgmkfgiijkpbaa", sum := "82750d2889a6be0a1cfab2397ca3d60469aae9d9ec26de5c001f3bd105cd50eb", func := "loop.example/g01143/laws.FnExactSameSolutions", spec := "fnExactSameSolutions", apart := false }
def FnExactSameSolutionsSaid : Prop := fnExactSameSolutionsRow.holds Try.pinned (OpenSpec.ofChange fnExactSameSolutionsSpec)

/-- ITS FALSE NEIGHBOUR: 'it returns false'. Refute it at one input. -/
def fnExactSameSolutionsWrong : ChangeSpec := { name := "fnExactSameSolutions", fn := fun _ => fun
  | [d1, d2] => { results := [.lit (.bool false)], args := [d1, d2] }
  | _ => none }
def FnExactSameSolutionsWrongFalsely : Prop := fnExactSameSolutionsRow.holds Try.pinned (OpenSpec.ofChange fnExactSameSolutionsWrong)

/-- 'laws.FnExactSameFamily': WHATEVER THE INPUT: true; the input reads as it did. -/
def fnExactSameFamilySpec : ChangeSpec := { name := "fnExactSameFamily", fn := fun _ => fun
  | [d1, d2] => { results := [.lit (.bool true)], args := [d1, d2] }
  | _ => none }
def fnExactSameFamilyRow : OpenClaim := { program := "ytjgmkfgiijkpbaa", sum := "82750d2889a6be0a1cfab2397ca3d60469aae9d9ec26de5c001f3bd105cd50eb", func := "loop.example/g01143/laws.FnExactSameFamily", spec := "fnExactSameFamily", unfollowed := true, recurses := true, apart := false }
def FnExactSameFamilySaid : Prop := fnExactSameFamilyRow.holds Try.pinned (OpenSpec.ofChange fnExactSameFamilySpec)

/-- ITS FALSE NEIGHBOUR: 'it returns false'. Refute it at one input. -/
def fnExactSameFamilyWrong : ChangeSpec := { name := "fnExactSameFamily", fn := fun _ => fun
  | [d1, d2] => { results := [.lit (.bool false)], args := [d1, d2] }
  | _ => none }
def FnExactSameFamilyWrongFalsely : Prop := fnExactSameFamilyRow.holds Try.pinned (OpenSpec.ofChange fnExactSameFamilyWrong)

/-- 'laws.FnExactSameGraph': WHATEVER THE INPUT: true; the input reads as it did. -/
def fnExactSameGraphSpec : ChangeSpec := { name := "fnExactSameGraph", fn := fun _ => fun
  | [d1, d2] => { results := [.lit (.bool true)], args := [d1, d2] }
  | _ => none }
def fnExactSameGraphRow : OpenClaim := { program := "ytjgmkfgiijkpbaa", sum := "82750d2889a6be0a1cfab2397ca3d60469aae9d9ec26de5c001f3bd105cd50eb", func := "loop.example/g01143/laws.FnExactSameGraph", spec := "fnExactSameGraph", unfollowed := true, recurses := true, apart := false }
def FnExactSameGraphSaid : Prop := fnExactSameGraphRow.holds Try.pinned (OpenSpec.ofChange fnExactSameGraphSpec)

/-- ITS FALSE NEIGHBOUR: 'it returns false'. Refute it at one input. -/
def fnExactSameGraphWrong : ChangeSpec := { name := "fnExactSameGraph", fn := fun _ => fun
  | [d1, d2] => { results := [.lit (.bool false)], args := [d1, d2] }
  | _ => none }
def FnExactSameGraphWrongFalsely : Prop := fnExactSameGraphRow.holds Try.pinned (OpenSpec.ofChange fnExactSameGraphWrong)

/- THE SECOND FORM. 'bulk': how many values and letters a reading holds, each counted each time it is reached (what is shared counts as often as it is met; a slice's spare places count too). A statement '..UptoSaid' is the law's where the arguments, and the package variables that the reading takes, are together of bulk at most 1048576: NARROWER than '..Said'. Prove '..Said' where nothing that the law and all that it calls make is longer than what came in: it says more and counts as full. Else prove '..UptoSaid'. A law counts once. -/
mutual
def uptoBulk {H : Type} : DataW H → Nat
  | .lit (.string bytes) => bytes.length + 1
  | .lit _ => 1
  | .nil => 1
  | .ptr d => uptoBulk d + 1
  | .slice elems spare => uptoBulkAll elems + uptoBulkAll spare + 1
  | .agg parts => uptoBulkAll parts + 1
  | .iface _ d => uptoBulk d + 1
  | .map entries => uptoBulkEntries entries + 1
  | .held _ => 1
def uptoBulkAll {H : Type} : List (DataW H) → Nat
  | [] => 0
  | d :: r => uptoBulk d + uptoBulkAll r
def uptoBulkEntries {H : Type} : List (Lit × DataW H) → Nat
  | [] => 0
  | x :: r => uptoBulkEntry x + uptoBulkEntries r
def uptoBulkEntry {H : Type} : Lit × DataW H → Nat
  | (.string bytes, d) => bytes.length + uptoBulk d + 1
  | (_, d) => uptoBulk d + 1
 end
def uptoSmall : (H : Type) → List (DataW H) → Bool := fun _ ds => decide (uptoBulkAll ds ≤ 1048576)
def OpenSpec.upto (s : _root_.Go.ChangeSpec) : _root_.Go.OpenSpec := { _root_.Go.OpenSpec.ofChange s with cond := some uptoSmall }

/-- 'laws.FnExactSameSystem', WHERE WHAT IT READS IS OF BULK AT MOST 1048576: true; the input reads as it did. -/
def fnExactSameSystemUptoRow : OpenClaim := { program := "ytjgmkfgiijkpbaa", sum := "82750d2889a6be0a1cfab2397ca3d60469aae9d9ec26de5c001f3bd105cd50eb", func := "loop.example/g01143/laws.FnExactSameSystem", spec := "fnExactSameSystem", apart := false, narrowed := true }
def FnExactSameSystemUptoSaid : Prop := fnExactSameSystemUptoRow.holds Try.pinned (OpenSpec.upto fnExactSameSystemSpec)

/-- 'laws.FnExactSameSolutions', WHERE WHAT IT READS IS OF BULK AT MOST 1048576: true; the input reads as it did. -/
def fnExactSameSolutionsUptoRow : OpenClaim := { program := "ytjgmkfgiijkpbaa", sum := "82750d2889a6be0a1cfab2397ca3d60469aae9d9ec26de5c001f3bd105cd50eb", func := "loop.example/g01143/laws.FnExactSameSolutions", spec := "fnExactSameSolutions", apart := false, narrowed := true }
def FnExactSameSolutionsUptoSaid : Prop := fnExactSameSolutionsUptoRow.holds Try.pinned (OpenSpec.upto fnExactSameSolutionsSpec)

/-- 'laws.FnExactSameFamily', WHERE WHAT IT READS IS OF BULK AT MOST 1048576: true; the input reads as it did. -/
def fnExactSameFamilyUptoRow : OpenClaim := { program := "ytjgmkfgiijkpbaa", sum := "82750d2889a6be0a1cfab2397ca3d60469aae9d9ec26de5c001f3bd105cd50eb", func := "loop.example/g01143/laws.FnExactSameFamily", spec := "fnExactSameFamily", unfollowed := true, recurses := true, apart := false, narrowed := true }
def FnExactSameFamilyUptoSaid : Prop := fnExactSameFamilyUptoRow.holds Try.pinned (OpenSpec.upto fnExactSameFamilySpec)

/-- 'laws.FnExactSameGraph', WHERE WHAT IT READS IS OF BULK AT MOST 1048576: true; the input reads as it did. -/
def fnExactSameGraphUptoRow : OpenClaim := { program := "ytjgmkfgiijkpbaa", sum := "82750d2889a6be0a1cfab2397ca3d60469aae9d9ec26de5c001f3bd105cd50eb", func := "loop.example/g01143/laws.FnExactSameGraph", spec := "fnExactSameGraph", unfollowed := true, recurses := true, apart := false, narrowed := true }
def FnExactSameGraphUptoSaid : Prop := fnExactSameGraphUptoRow.holds Try.pinned (OpenSpec.upto fnExactSameGraphSpec)

end Rows
end Go.Proofs.Ytjgmkfgiijkpbaa
