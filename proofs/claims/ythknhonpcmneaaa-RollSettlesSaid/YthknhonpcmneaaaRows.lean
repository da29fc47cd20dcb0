/-
  No cell of these rows narrows 'for every input' (looked for: loops, veiled, ifaces, maps, wideKeys, modest, calm, conditions, laid).
  DERIVED. THE GIVEN ROWS OF THIS SEAT. 3 by the template 'for every input the law returns true; each argument reads behind the call as it read before'; 0 by the template 'total and deterministic' (their statements: YthknhonpcmneaaaTotals.lean).
  GIVEN WITH THE SEED: the statements are not yours to turn. If you find one false, say at which input.
  Laid BY PROGRAM, IN A SANDBOX (cutbox-rows.mjs): the forced cells as the released guide's own fill.sh prints them over the translation c4e6947ab61142f5… (all of the seat's roots in one cut). By AI agents, Wed Nov 11 2026. No macro, syntax, notation, axiom, sorry.
-/
import Derived.Test.YthknhonpcmneaaaChecked
import GoSem.Claim
import GoSem.ClaimJoined
import GoSem.ClaimMapViews
import Derived.JoinedTies
import Derived.KernelRfl
namespace Go.Proofs.Ythknhonpcmneaaa
/- THE CELL 'sum', in the pinned program and in every row, IS THE sha256 OF THE DUMP (.gsa) THAT YthknhonpcmneaaaProg.lean LOADS. Nothing in Lean hashes anything: it is a label: what it is worth is what the hold of that sum in a sandbox is worth. -/
noncomputable def Try.pinned : Pinned := { name := "ythknhonpcmneaaa", sum := "c4e6947ab61142f533ced89ad70ecf6d08a58bd52efb950959cab87254558ddd", checked := Try.checked }
namespace Rows
def none {H : Type} : Left H := { results := [], args := [] }

/-- 'tenementlaw15.RollLines': WHATEVER THE INPUT: true; the input reads as it did. -/
def rollLinesSpec : ChangeSpec := { name := "rollLines", fn := fun _ => fun
  | [d1, d2, d3] => { results := [.lit (.bool true)], args := [d1, d2, d3] }
  | _ => none }
def rollLinesRow : OpenClaim := { program := "ythknhonpcmneaaa", sum := "c4e6947ab61142f533ced89ad70ecf6d08a58bd52efb950959cab87254558ddd", func := "tenement/tenementlaw15.RollLines", spec := "rollLines", apart := false }
def RollLinesSaid : Prop := rollLinesRow.holds Try.pinned (OpenSpec.ofChange rollLinesSpec)

/-- ITS FALSE NEIGHBOUR: 'it returns false'. Refute it at one input. -/
def rollLinesWrong : ChangeSpec := { name := "rollLines", fn := fun _ => fun
  | [d1, d2, d3] => { results := [.lit (.bool false)], args := [d1, d2, d3] }
  | _ => none }
def RollLinesWrongFalsely : Prop := rollLinesRow.holds Try.pinned (OpenSpec.ofChange rollLinesWrong)

/-- 'tenementlaw15.RollSettles': WHATEVER THE INPUT: true; the input reads as it did. -/
def rollSettlesSpec : ChangeSpec := { name := "rollSettles", fn := fun _ => fun
  | [d1, d2, d3] => { results := [.lit (.bool true)], args := [d1, d2, d3] }
  | _ => none }
def rollSettlesRow : OpenClaim := { program := "ythknhonpcmneaaa", sum := "c4e6947ab61142f533ced89ad70ecf6d08a58bd52efb950959cab87254558ddd", func := "tenement/tenementlaw15.RollSettles", spec := "rollSettles", apart := false }
def RollSettlesSaid : Prop := rollSettlesRow.holds Try.pinned (OpenSpec.ofChange rollSettlesSpec)

/-- ITS FALSE NEIGHBOUR: 'it returns false'. Refute it at one input. -/
def rollSettlesWrong : ChangeSpec := { name := "rollSettles", fn := fun _ => fun
  | [d1, d2, d3] => { results := [.lit (.bool false)], args := [d1, d2, d3] }
  | _ => none }
def RollSettlesWrongFalsely : Prop := rollSettlesRow.holds Try.pinned (OpenSpec.ofChange rollSettlesWrong)

/-- 'tenementlaw15.RollDowns': WHATEVER THE INPUT: true; the input reads as it did. -/
def rollDownsSpec : ChangeSpec := { name := "rollDowns", fn := fun _ => fun
  | [d1, d2, d3] => { results := [.lit (.bool true)], args := [d1, d2, d3] }
  | _ => none }
def rollDownsRow : OpenClaim := { program := "ythknhonpcmneaaa", sum := "c4e6947ab61142f533ced89ad70ecf6d08a58bd52efb950959cab87254558ddd", func := "tenement/tenementlaw15.RollDowns", spec := "rollDowns", apart := false }
def RollDownsSaid : Prop := rollDownsRow.holds Try.pinned (OpenSpec.ofChange rollDownsSpec)

/-- ITS FALSE NEIGHBOUR: 'it returns false'. Refute it at one input. -/
def rollDownsWrong : ChangeSpec := { name := "rollDowns", fn := fun _ => fun
  | [d1, d2, d3] => { results := [.lit (.bool false)], args := [d1, d2, d3] }
  | _ => none }
def RollDownsWrongFalsely : Prop := rollDownsRow.holds Try.pinned (OpenSpec.ofChange rollDownsWrong)

/- THE SECOND FORM. 'bulk': how many values and letters a reading holds, each counted each time it is reached (what is shared counts as often as it is met; a slice's spare places count too). A statement '..UptoSaid' is the law's where the arguments, and the package variables that the reading takes, are together of bulk at most 1048576: NARROWER than '..Said'. Prove '..Said' where nothing that the law and all that it calls make is longer than what came in: it says more and counts as full. Else prove '..UptoSaid'. A law counts once. -/
mutual
def uptoBulk {H : Type} : DataW H → Nat
  | .lit (.string bytes) => bytes.length + 1
  | .lit _ => 1
  | .nil => 1
  | .ptr d => uptoBulk d + 1
  | .slice elems spare => uptoBulkAll elems + uptoBulkAll spare + 1
  | .agg parts => uptoBulkAll parts + 1
  | .iface _ d => uptoBulk d + 1
  | .map entries => uptoBulkEntries entries + 1
  | .held _ => 1
def uptoBulkAll {H : Type} : List (DataW H) → Nat
  | [] => 0
  | d :: r => uptoBulk d + uptoBulkAll r
def uptoBulkEntries {H : Type} : List (Lit × DataW H) → Nat
  | [] => 0
  | x :: r => uptoBulkEntry x + uptoBulkEntries r
def uptoBulkEntry {H : Type} : Lit × DataW H → Nat
  | (.string bytes, d) => bytes.length + uptoBulk d + 1
  | (_, d) => uptoBulk d + 1
 end
def uptoSmall : (H : Type) → List (DataW H) → Bool := fun _ ds => decide (uptoBulkAll ds ≤ 1048576)
def OpenSpec.upto (s : _root_.Go.ChangeSpec) : _root_.Go.OpenSpec := { _root_.Go.OpenSpec.ofChange s with cond := some uptoSmall }

/-- 'tenementlaw15.RollLines', WHERE WHAT IT READS IS OF BULK AT MOST 1048576: true; the input reads as it did. -/
def rollLinesUptoRow : OpenClaim := { program := "ythknhonpcmneaaa", sum := "c4e6947ab61142f533ced89ad70ecf6d08a58bd52efb950959cab87254558ddd", func := "tenement/tenementlaw15.RollLines", spec := "rollLines", apart := false, narrowed := true }
def RollLinesUptoSaid : Prop := rollLinesUptoRow.holds Try.pinned (OpenSpec.upto rollLinesSpec)

/-- 'tenementlaw15.RollSettles', WHERE WHAT IT READS IS OF BULK AT MOST 1048576: true; the input reads as it did. -/
def rollSettlesUptoRow : OpenClaim := { program := "ythknhonpcmneaaa", sum := "c4e6947ab61142f533ced89ad70ecf6d08a58bd52efb950959cab87254558ddd", func := "tenement/tenementlaw15.RollSettles", spec := "rollSettles", apart := false, narrowed := true }
def RollSettlesUptoSaid : Prop := rollSettlesUptoRow.holds Try.pinned (OpenSpec.upto rollSettlesSpec)

/-- 'tenementlaw15.RollDowns', WHERE WHAT IT READS IS OF BULK AT MOST 1048576: true; the input reads as it did. -/
def rollDownsUptoRow : OpenClaim := { program := "ythknhonpcmneaaa", sum := "c4e6947ab61142f533ced89ad70ecf6d08a58bd52efb950959cab87254558ddd", func := "tenement/tenementlaw15.RollDowns", spec := "rollDowns", apart := false, narrowed := true }
def RollDownsUptoSaid : Prop := rollDownsUptoRow.holds Try.pinned (OpenSpec.upto rollDownsSpec)

end Rows
end Go.Proofs.Ythknhonpcmneaaa
