/-
  No cell of these rows narrows 'for every input' (looked for: loops, veiled, ifaces, maps, wideKeys, modest, calm, conditions, laid).
  DERIVED. THE GIVEN ROWS OF THIS SEAT. 6 by the template 'for every input the law returns true; each argument reads behind the call as it read before'; 0 by the template 'total and deterministic' (their statements: YthgapchfhhcodaaTotals.lean).
  GIVEN WITH THE SEED: the statements are not yours to turn. If you find one false, say at which input.
  Laid BY PROGRAM, IN A SANDBOX (cutbox-rows.mjs): the forced cells as the released guide's own fill.sh prints them over the translation 9c52836107386b11… (all of the seat's roots in one cut). By AI agents, Wed Nov 11 2026. No macro, syntax, notation, axiom, sorry.
-/
import Derived.Test.YthgapchfhhcodaaChecked
import GoSem.Claim
import GoSem.ClaimJoined
import GoSem.ClaimMapViews
import Derived.JoinedTies
import Derived.KernelRfl
namespace Go.Proofs.Ythgapchfhhcodaa
/- THE CELL 'sum', in the pinned program and in every row, IS THE sha256 OF THE DUMP (.gsa) THAT YthgapchfhhcodaaProg.lean LOADS. Nothing in Lean hashes anything: it is a label: what it is worth is what the hold of that sum in a sandbox is worth. -/
noncomputable def Try.pinned : Pinned := { name := "ythgapchfhhcodaa", sum := "9c52836107386b1118bb4534c468fe34a8b312b944941e555b12b91c1a2b465a", checked := Try.checked }
namespace Rows
def none {H : Type} : Left H := { results := [], args := [] }

/-- 'tenementlaw04.RowBack': WHATEVER THE INPUT: true; the input reads as it did. -/
def rowBackSpec : ChangeSpec := { name := "rowBack", fn := fun _ => fun
  | [d] => { results := [.lit (.bool true)], args := [d] }
  | _ => none }
def rowBackRow : OpenClaim := { program := "ythgapchfhhcodaa", sum := "9c52836107386b1118bb4534c468fe34a8b312b944941e555b12b91c1a2b465a", func := "tenement/tenementlaw04.RowBack", spec := "rowBack", apart := false }
def RowBackSaid : Prop := rowBackRow.holds Try.pinned (OpenSpec.ofChange rowBackSpec)

/-- ITS FALSE NEIGHBOUR: 'it returns false'. Refute it at one input. -/
def rowBackWrong : ChangeSpec := { name := "rowBack", fn := fun _ => fun
  | [d] => { results := [.lit (.bool false)], args := [d] }
  | _ => none }
def RowBackWrongFalsely : Prop := rowBackRow.holds Try.pinned (OpenSpec.ofChange rowBackWrong)

/-- 'tenementlaw04.RowAny': WHATEVER THE INPUT: true; the input reads as it did. -/
def rowAnySpec : ChangeSpec := { name := "rowAny", fn := fun _ => fun
  | [d1, d2, d3] => { results := [.lit (.bool true)], args := [d1, d2, d3] }
  | _ => none }
def rowAnyRow : OpenClaim := { program := "ythgapchfhhcodaa", sum := "9c52836107386b1118bb4534c468fe34a8b312b944941e555b12b91c1a2b465a", func := "tenement/tenementlaw04.RowAny", spec := "rowAny", apart := false }
def RowAnySaid : Prop := rowAnyRow.holds Try.pinned (OpenSpec.ofChange rowAnySpec)

/-- ITS FALSE NEIGHBOUR: 'it returns false'. Refute it at one input. -/
def rowAnyWrong : ChangeSpec := { name := "rowAny", fn := fun _ => fun
  | [d1, d2, d3] => { results := [.lit (.bool false)], args := [d1, d2, d3] }
  | _ => none }
def RowAnyWrongFalsely : Prop := rowAnyRow.holds Try.pinned (OpenSpec.ofChange rowAnyWrong)

/-- 'tenementlaw04.RowApart': WHATEVER THE INPUT: true; the input reads as it did. -/
def rowApartSpec : ChangeSpec := { name := "rowApart", fn := fun _ => fun
  | [d1, d2] => { results := [.lit (.bool true)], args := [d1, d2] }
  | _ => none }
def rowApartRow : OpenClaim := { program := "ythgapchfhhcodaa", sum := "9c52836107386b1118bb4534c468fe34a8b312b944941e555b12b91c1a2b465a", func := "tenement/tenementlaw04.RowApart", spec := "rowApart", apart := false }
def RowApartSaid : Prop := rowApartRow.holds Try.pinned (OpenSpec.ofChange rowApartSpec)

/-- ITS FALSE NEIGHBOUR: 'it returns false'. Refute it at one input. -/
def rowApartWrong : ChangeSpec := { name := "rowApart", fn := fun _ => fun
  | [d1, d2] => { results := [.lit (.bool false)], args := [d1, d2] }
  | _ => none }
def RowApartWrongFalsely : Prop := rowApartRow.holds Try.pinned (OpenSpec.ofChange rowApartWrong)

/-- 'tenementlaw04.RowSizes': WHATEVER THE INPUT: true; the input reads as it did. -/
def rowSizesSpec : ChangeSpec := { name := "rowSizes", fn := fun _ => fun
  | [d1, d2] => { results := [.lit (.bool true)], args := [d1, d2] }
  | _ => none }
def rowSizesRow : OpenClaim := { program := "ythgapchfhhcodaa", sum := "9c52836107386b1118bb4534c468fe34a8b312b944941e555b12b91c1a2b465a", func := "tenement/tenementlaw04.RowSizes", spec := "rowSizes", apart := false }
def RowSizesSaid : Prop := rowSizesRow.holds Try.pinned (OpenSpec.ofChange rowSizesSpec)

/-- ITS FALSE NEIGHBOUR: 'it returns false'. Refute it at one input. -/
def rowSizesWrong : ChangeSpec := { name := "rowSizes", fn := fun _ => fun
  | [d1, d2] => { results := [.lit (.bool false)], args := [d1, d2] }
  | _ => none }
def RowSizesWrongFalsely : Prop := rowSizesRow.holds Try.pinned (OpenSpec.ofChange rowSizesWrong)

/-- 'tenementlaw04.RowValues': WHATEVER THE INPUT: true; the input reads as it did. -/
def rowValuesSpec : ChangeSpec := { name := "rowValues", fn := fun _ => fun
  | [d1, d2, d3] => { results := [.lit (.bool true)], args := [d1, d2, d3] }
  | _ => none }
def rowValuesRow : OpenClaim := { program := "ythgapchfhhcodaa", sum := "9c52836107386b1118bb4534c468fe34a8b312b944941e555b12b91c1a2b465a", func := "tenement/tenementlaw04.RowValues", spec := "rowValues", apart := false }
def RowValuesSaid : Prop := rowValuesRow.holds Try.pinned (OpenSpec.ofChange rowValuesSpec)

/-- ITS FALSE NEIGHBOUR: 'it returns false'. Refute it at one input. -/
def rowValuesWrong : ChangeSpec := { name := "rowValues", fn := fun _ => fun
  | [d1, d2, d3] => { results := [.lit (.bool false)], args := [d1, d2, d3] }
  | _ => none }
def RowValuesWrongFalsely : Prop := rowValuesRow.holds Try.pinned (OpenSpec.ofChange rowValuesWrong)

/-- 'tenementlaw04.RowOrder': WHATEVER THE INPUT: true; the input reads as it did. -/
def rowOrderSpec : ChangeSpec := { name := "rowOrder", fn := fun _ => fun
  | [d1, d2] => { results := [.lit (.bool true)], args := [d1, d2] }
  | _ => none }
def rowOrderRow : OpenClaim := { program := "ythgapchfhhcodaa", sum := "9c52836107386b1118bb4534c468fe34a8b312b944941e555b12b91c1a2b465a", func := "tenement/tenementlaw04.RowOrder", spec := "rowOrder", apart := false }
def RowOrderSaid : Prop := rowOrderRow.holds Try.pinned (OpenSpec.ofChange rowOrderSpec)

/-- ITS FALSE NEIGHBOUR: 'it returns false'. Refute it at one input. -/
def rowOrderWrong : ChangeSpec := { name := "rowOrder", fn := fun _ => fun
  | [d1, d2] => { results := [.lit (.bool false)], args := [d1, d2] }
  | _ => none }
def RowOrderWrongFalsely : Prop := rowOrderRow.holds Try.pinned (OpenSpec.ofChange rowOrderWrong)

/- THE SECOND FORM. 'bulk': how many values and letters a reading holds, each counted each time it is reached (what is shared counts as often as it is met; a slice's spare places count too). A statement '..UptoSaid' is the law's where the arguments, and the package variables that the reading takes, are together of bulk at most 1048576: NARROWER than '..Said'. Prove '..Said' where nothing that the law and all that it calls make is longer than what came in: it says more and counts as full. Else prove '..UptoSaid'. A law counts once. -/
mutual
def uptoBulk {H : Type} : DataW H → Nat
  | .lit (.string bytes) => bytes.length + 1
  | .lit _ => 1
  | .nil => 1
  | .ptr d => uptoBulk d + 1
  | .slice elems spare => uptoBulkAll elems + uptoBulkAll spare + 1
  | .agg parts => uptoBulkAll parts + 1
  | .iface _ d => uptoBulk d + 1
  | .map entries => uptoBulkEntries entries + 1
  | .held _ => 1
def uptoBulkAll {H : Type} : List (DataW H) → Nat
  | [] => 0
  | d :: r => uptoBulk d + uptoBulkAll r
def uptoBulkEntries {H : Type} : List (Lit × DataW H) → Nat
  | [] => 0
  | x :: r => uptoBulkEntry x + uptoBulkEntries r
def uptoBulkEntry {H : Type} : Lit × DataW H → Nat
  | (.string bytes, d) => bytes.length + uptoBulk d + 1
  | (_, d) => uptoBulk d + 1
 end
def uptoSmall : (H : Type) → List (DataW H) → Bool := fun _ ds => decide (uptoBulkAll ds ≤ 1048576)
def OpenSpec.upto (s : _root_.Go.ChangeSpec) : _root_.Go.OpenSpec := { _root_.Go.OpenSpec.ofChange s with cond := some uptoSmall }

/-- 'tenementlaw04.RowBack', WHERE WHAT IT READS IS OF BULK AT MOST 1048576: true; the input reads as it did. -/
def rowBackUptoRow : OpenClaim := { program := "ythgapchfhhcodaa", sum := "9c52836107386b1118bb4534c468fe34a8b312b944941e555b12b91c1a2b465a", func := "tenement/tenementlaw04.RowBack", spec := "rowBack", apart := false, narrowed := true }
def RowBackUptoSaid : Prop := rowBackUptoRow.holds Try.pinned (OpenSpec.upto rowBackSpec)

/-- 'tenementlaw04.RowAny', WHERE WHAT IT READS IS OF BULK AT MOST 1048576: true; the input reads as it did. -/
def rowAnyUptoRow : OpenClaim := { program := "ythgapchfhhcodaa", sum := "9c52836107386b1118bb4534c468fe34a8b312b944941e555b12b91c1a2b465a", func := "tenement/tenementlaw04.RowAny", spec := "rowAny", apart := false, narrowed := true }
def RowAnyUptoSaid : Prop := rowAnyUptoRow.holds Try.pinned (OpenSpec.upto rowAnySpec)

/-- 'tenementlaw04.RowApart', WHERE WHAT IT READS IS OF BULK AT MOST 1048576: true; the input reads as it did. -/
def rowApartUptoRow : OpenClaim := { program := "ythgapchfhhcodaa", sum := "9c52836107386b1118bb4534c468fe34a8b312b944941e555b12b91c1a2b465a", func := "tenement/tenementlaw04.RowApart", spec := "rowApart", apart := false, narrowed := true }
def RowApartUptoSaid : Prop := rowApartUptoRow.holds Try.pinned (OpenSpec.upto rowApartSpec)

/-- 'tenementlaw04.RowSizes', WHERE WHAT IT READS IS OF BULK AT MOST 1048576: true; the input reads as it did. -/
def rowSizesUptoRow : OpenClaim := { program := "ythgapchfhhcodaa", sum := "9c52836107386b1118bb4534c468fe34a8b312b944941e555b12b91c1a2b465a", func := "tenement/tenementlaw04.RowSizes", spec := "rowSizes", apart := false, narrowed := true }
def RowSizesUptoSaid : Prop := rowSizesUptoRow.holds Try.pinned (OpenSpec.upto rowSizesSpec)

/-- 'tenementlaw04.RowValues', WHERE WHAT IT READS IS OF BULK AT MOST 1048576: true; the input reads as it did. -/
def rowValuesUptoRow : OpenClaim := { program := "ythgapchfhhcodaa", sum := "9c52836107386b1118bb4534c468fe34a8b312b944941e555b12b91c1a2b465a", func := "tenement/tenementlaw04.RowValues", spec := "rowValues", apart := false, narrowed := true }
def RowValuesUptoSaid : Prop := rowValuesUptoRow.holds Try.pinned (OpenSpec.upto rowValuesSpec)

/-- 'tenementlaw04.RowOrder', WHERE WHAT IT READS IS OF BULK AT MOST 1048576: true; the input reads as it did. -/
def rowOrderUptoRow : OpenClaim := { program := "ythgapchfhhcodaa", sum := "9c52836107386b1118bb4534c468fe34a8b312b944941e555b12b91c1a2b465a", func := "tenement/tenementlaw04.RowOrder", spec := "rowOrder", apart := false, narrowed := true }
def RowOrderUptoSaid : Prop := rowOrderUptoRow.holds Try.pinned (OpenSpec.upto rowOrderSpec)

end Rows
end Go.Proofs.Ythgapchfhhcodaa
