/-
  No cell of these rows narrows 'for every input' (looked for: loops, veiled, ifaces, maps, wideKeys, modest, calm, conditions, laid).
  DERIVED. THE GIVEN ROWS OF THIS SEAT. 8 by the template 'for every input the law returns true; each argument reads behind the call as it read before'; 0 by the template 'total and deterministic' (their statements: YtllknflphgahfaaTotals.lean).
  GIVEN WITH THE SEED: the statements are not yours to turn. If you find one false, say at which input.
  Laid BY PROGRAM, IN A SANDBOX (cutbox-rows.mjs): the forced cells as the released guide's own fill.sh prints them over the translation 69875f001a5c006d… (all of the seat's roots in one cut). By AI agents, Wed Nov 11 2026. No macro, syntax, notation, axiom, sorry.
-/
import Derived.Test.YtllknflphgahfaaChecked
import GoSem.Claim
import GoSem.ClaimJoined
import GoSem.ClaimMapViews
import Derived.JoinedTies
import Derived.KernelRfl
namespace Go.Proofs.Ytllknflphgahfaa
/- THE CELL 'sum', in the pinned program and in every row, IS THE sha256 OF THE DUMP (.gsa) THAT YtllknflphgahfaaProg.lean LOADS. Nothing in Lean hashes anything: it is a label: what it is worth is what the hold of that sum in a sandbox is worth. -/
noncomputable def Try.pinned : Pinned := { name := "ytllknflphgahfaa", sum := "69875f001a5c006d38640a1f304e1654a3babc28c20123b9c4f167e403b9b9b7", checked := Try.checked }
namespace Rows
def none {H : Type} : Left H := { results := [], args := [] }

/-- 'tenementlaw14.PortBack': WHATEVER THE INPUT: true; the input reads as it did. -/
def portBackSpec : ChangeSpec := { name := "portBack", fn := fun _ => fun
  | [d] => { results := [.lit (.bool true)], args := [d] }
  | _ => none }
def portBackRow : OpenClaim := { program := "ytllknflphgahfaa", sum := "69875f001a5c006d38640a1f304e1654a3babc28c20123b9c4f167e403b9b9b7", func := "tenement/tenementlaw14.PortBack", spec := "portBack", apart := false }
def PortBackSaid : Prop := portBackRow.holds Try.pinned (OpenSpec.ofChange portBackSpec)

/-- ITS FALSE NEIGHBOUR: 'it returns false'. Refute it at one input. -/
def portBackWrong : ChangeSpec := { name := "portBack", fn := fun _ => fun
  | [d] => { results := [.lit (.bool false)], args := [d] }
  | _ => none }
def PortBackWrongFalsely : Prop := portBackRow.holds Try.pinned (OpenSpec.ofChange portBackWrong)

/-- 'tenementlaw14.PortAny': WHATEVER THE INPUT: true; the input reads as it did. -/
def portAnySpec : ChangeSpec := { name := "portAny", fn := fun _ => fun
  | [d1, d2, d3] => { results := [.lit (.bool true)], args := [d1, d2, d3] }
  | _ => none }
def portAnyRow : OpenClaim := { program := "ytllknflphgahfaa", sum := "69875f001a5c006d38640a1f304e1654a3babc28c20123b9c4f167e403b9b9b7", func := "tenement/tenementlaw14.PortAny", spec := "portAny", apart := false }
def PortAnySaid : Prop := portAnyRow.holds Try.pinned (OpenSpec.ofChange portAnySpec)

/-- ITS FALSE NEIGHBOUR: 'it returns false'. Refute it at one input. -/
def portAnyWrong : ChangeSpec := { name := "portAny", fn := fun _ => fun
  | [d1, d2, d3] => { results := [.lit (.bool false)], args := [d1, d2, d3] }
  | _ => none }
def PortAnyWrongFalsely : Prop := portAnyRow.holds Try.pinned (OpenSpec.ofChange portAnyWrong)

/-- 'tenementlaw14.PortWrong': WHATEVER THE INPUT: true; the input reads as it did. -/
def portWrongSpec : ChangeSpec := { name := "portWrong", fn := fun _ => fun
  | [d1, d2] => { results := [.lit (.bool true)], args := [d1, d2] }
  | _ => none }
def portWrongRow : OpenClaim := { program := "ytllknflphgahfaa", sum := "69875f001a5c006d38640a1f304e1654a3babc28c20123b9c4f167e403b9b9b7", func := "tenement/tenementlaw14.PortWrong", spec := "portWrong", apart := false }
def PortWrongSaid : Prop := portWrongRow.holds Try.pinned (OpenSpec.ofChange portWrongSpec)

/-- ITS FALSE NEIGHBOUR: 'it returns false'. Refute it at one input. -/
def portWrongWrong : ChangeSpec := { name := "portWrong", fn := fun _ => fun
  | [d1, d2] => { results := [.lit (.bool false)], args := [d1, d2] }
  | _ => none }
def PortWrongWrongFalsely : Prop := portWrongRow.holds Try.pinned (OpenSpec.ofChange portWrongWrong)

/-- 'tenementlaw14.PortSizes': WHATEVER THE INPUT: true; the input reads as it did. -/
def portSizesSpec : ChangeSpec := { name := "portSizes", fn := fun _ => fun
  | [d] => { results := [.lit (.bool true)], args := [d] }
  | _ => none }
def portSizesRow : OpenClaim := { program := "ytllknflphgahfaa", sum := "69875f001a5c006d38640a1f304e1654a3babc28c20123b9c4f167e403b9b9b7", func := "tenement/tenementlaw14.PortSizes", spec := "portSizes", apart := false }
def PortSizesSaid : Prop := portSizesRow.holds Try.pinned (OpenSpec.ofChange portSizesSpec)

/-- ITS FALSE NEIGHBOUR: 'it returns false'. Refute it at one input. -/
def portSizesWrong : ChangeSpec := { name := "portSizes", fn := fun _ => fun
  | [d] => { results := [.lit (.bool false)], args := [d] }
  | _ => none }
def PortSizesWrongFalsely : Prop := portSizesRow.holds Try.pinned (OpenSpec.ofChange portSizesWrong)

/-- 'tenementlaw14.PortApart': WHATEVER THE INPUT: true; the input reads as it did. -/
def portApartSpec : ChangeSpec := { name := "portApart", fn := fun _ => fun
  | [d1, d2] => { results := [.lit (.bool true)], args := [d1, d2] }
  | _ => none }
def portApartRow : OpenClaim := { program := "ytllknflphgahfaa", sum := "69875f001a5c006d38640a1f304e1654a3babc28c20123b9c4f167e403b9b9b7", func := "tenement/tenementlaw14.PortApart", spec := "portApart", apart := false }
def PortApartSaid : Prop := portApartRow.holds Try.pinned (OpenSpec.ofChange portApartSpec)

/-- ITS FALSE NEIGHBOUR: 'it returns false'. Refute it at one input. -/
def portApartWrong : ChangeSpec := { name := "portApart", fn := fun _ => fun
  | [d1, d2] => { results := [.lit (.bool false)], args := [d1, d2] }
  | _ => none }
def PortApartWrongFalsely : Prop := portApartRow.holds Try.pinned (OpenSpec.ofChange portApartWrong)

/-- 'tenementlaw14.PortTorn': WHATEVER THE INPUT: true; the input reads as it did. -/
def portTornSpec : ChangeSpec := { name := "portTorn", fn := fun _ => fun
  | [d1, d2, d3] => { results := [.lit (.bool true)], args := [d1, d2, d3] }
  | _ => none }
def portTornRow : OpenClaim := { program := "ytllknflphgahfaa", sum := "69875f001a5c006d38640a1f304e1654a3babc28c20123b9c4f167e403b9b9b7", func := "tenement/tenementlaw14.PortTorn", spec := "portTorn", apart := false }
def PortTornSaid : Prop := portTornRow.holds Try.pinned (OpenSpec.ofChange portTornSpec)

/-- ITS FALSE NEIGHBOUR: 'it returns false'. Refute it at one input. -/
def portTornWrong : ChangeSpec := { name := "portTorn", fn := fun _ => fun
  | [d1, d2, d3] => { results := [.lit (.bool false)], args := [d1, d2, d3] }
  | _ => none }
def PortTornWrongFalsely : Prop := portTornRow.holds Try.pinned (OpenSpec.ofChange portTornWrong)

/-- 'tenementlaw14.PortSums': WHATEVER THE INPUT: true; the input reads as it did. -/
def portSumsSpec : ChangeSpec := { name := "portSums", fn := fun _ => fun
  | [d1, d2, d3] => { results := [.lit (.bool true)], args := [d1, d2, d3] }
  | _ => none }
def portSumsRow : OpenClaim := { program := "ytllknflphgahfaa", sum := "69875f001a5c006d38640a1f304e1654a3babc28c20123b9c4f167e403b9b9b7", func := "tenement/tenementlaw14.PortSums", spec := "portSums", apart := false }
def PortSumsSaid : Prop := portSumsRow.holds Try.pinned (OpenSpec.ofChange portSumsSpec)

/-- ITS FALSE NEIGHBOUR: 'it returns false'. Refute it at one input. -/
def portSumsWrong : ChangeSpec := { name := "portSums", fn := fun _ => fun
  | [d1, d2, d3] => { results := [.lit (.bool false)], args := [d1, d2, d3] }
  | _ => none }
def PortSumsWrongFalsely : Prop := portSumsRow.holds Try.pinned (OpenSpec.ofChange portSumsWrong)

/-- 'tenementlaw14.PortOrder': WHATEVER THE INPUT: true; the input reads as it did. -/
def portOrderSpec : ChangeSpec := { name := "portOrder", fn := fun _ => fun
  | [d1, d2] => { results := [.lit (.bool true)], args := [d1, d2] }
  | _ => none }
def portOrderRow : OpenClaim := { program := "ytllknflphgahfaa", sum := "69875f001a5c006d38640a1f304e1654a3babc28c20123b9c4f167e403b9b9b7", func := "tenement/tenementlaw14.PortOrder", spec := "portOrder", apart := false }
def PortOrderSaid : Prop := portOrderRow.holds Try.pinned (OpenSpec.ofChange portOrderSpec)

/-- ITS FALSE NEIGHBOUR: 'it returns false'. Refute it at one input. -/
def portOrderWrong : ChangeSpec := { name := "portOrder", fn := fun _ => fun
  | [d1, d2] => { results := [.lit (.bool false)], args := [d1, d2] }
  | _ => none }
def PortOrderWrongFalsely : Prop := portOrderRow.holds Try.pinned (OpenSpec.ofChange portOrderWrong)

/- THE SECOND FORM. 'bulk': how many values and letters a reading holds, each counted each time it is reached (what is shared counts as often as it is met; a slice's spare places count too). A statement '..UptoSaid' is the law's where the arguments, and the package variables that the reading takes, are together of bulk at most 1048576: NARROWER than '..Said'. Prove '..Said' where nothing that the law and all that it calls make is longer than what came in: it says more and counts as full. Else prove '..UptoSaid'. A law counts once. -/
mutual
def uptoBulk {H : Type} : DataW H → Nat
  | .lit (.string bytes) => bytes.length + 1
  | .lit _ => 1
  | .nil => 1
  | .ptr d => uptoBulk d + 1
  | .slice elems spare => uptoBulkAll elems + uptoBulkAll spare + 1
  | .agg parts => uptoBulkAll parts + 1
  | .iface _ d => uptoBulk d + 1
  | .map entries => uptoBulkEntries entries + 1
  | .held _ => 1
def uptoBulkAll {H : Type} : List (DataW H) → Nat
  | [] => 0
  | d :: r => uptoBulk d + uptoBulkAll r
def uptoBulkEntries {H : Type} : List (Lit × DataW H) → Nat
  | [] => 0
  | x :: r => uptoBulkEntry x + uptoBulkEntries r
def uptoBulkEntry {H : Type} : Lit × DataW H → Nat
  | (.string bytes, d) => bytes.length + uptoBulk d + 1
  | (_, d) => uptoBulk d + 1
 end
def uptoSmall : (H : Type) → List (DataW H) → Bool := fun _ ds => decide (uptoBulkAll ds ≤ 1048576)
def OpenSpec.upto (s : _root_.Go.ChangeSpec) : _root_.Go.OpenSpec := { _root_.Go.OpenSpec.ofChange s with cond := some uptoSmall }

/-- 'tenementlaw14.PortBack', WHERE WHAT IT READS IS OF BULK AT MOST 1048576: true; the input reads as it did. -/
def portBackUptoRow : OpenClaim := { program := "ytllknflphgahfaa", sum := "69875f001a5c006d38640a1f304e1654a3babc28c20123b9c4f167e403b9b9b7", func := "tenement/tenementlaw14.PortBack", spec := "portBack", apart := false, narrowed := true }
def PortBackUptoSaid : Prop := portBackUptoRow.holds Try.pinned (OpenSpec.upto portBackSpec)

/-- 'tenementlaw14.PortAny', WHERE WHAT IT READS IS OF BULK AT MOST 1048576: true; the input reads as it did. -/
def portAnyUptoRow : OpenClaim := { program := "ytllknflphgahfaa", sum := "69875f001a5c006d38640a1f304e1654a3babc28c20123b9c4f167e403b9b9b7", func := "tenement/tenementlaw14.PortAny", spec := "portAny", apart := false, narrowed := true }
def PortAnyUptoSaid : Prop := portAnyUptoRow.holds Try.pinned (OpenSpec.upto portAnySpec)

/-- 'tenementlaw14.PortWrong', WHERE WHAT IT READS IS OF BULK AT MOST 1048576: true; the input reads as it did. -/
def portWrongUptoRow : OpenClaim := { program := "ytllknflphgahfaa", sum := "69875f001a5c006d38640a1f304e1654a3babc28c20123b9c4f167e403b9b9b7", func := "tenement/tenementlaw14.PortWrong", spec := "portWrong", apart := false, narrowed := true }
def PortWrongUptoSaid : Prop := portWrongUptoRow.holds Try.pinned (OpenSpec.upto portWrongSpec)

/-- 'tenementlaw14.PortSizes', WHERE WHAT IT READS IS OF BULK AT MOST 1048576: true; the input reads as it did. -/
def portSizesUptoRow : OpenClaim := { program := "ytllknflphgahfaa", sum := "69875f001a5c006d38640a1f304e1654a3babc28c20123b9c4f167e403b9b9b7", func := "tenement/tenementlaw14.PortSizes", spec := "portSizes", apart := false, narrowed := true }
def PortSizesUptoSaid : Prop := portSizesUptoRow.holds Try.pinned (OpenSpec.upto portSizesSpec)

/-- 'tenementlaw14.PortApart', WHERE WHAT IT READS IS OF BULK AT MOST 1048576: true; the input reads as it did. -/
def portApartUptoRow : OpenClaim := { program := "ytllknflphgahfaa", sum := "69875f001a5c006d38640a1f304e1654a3babc28c20123b9c4f167e403b9b9b7", func := "tenement/tenementlaw14.PortApart", spec := "portApart", apart := false, narrowed := true }
def PortApartUptoSaid : Prop := portApartUptoRow.holds Try.pinned (OpenSpec.upto portApartSpec)

/-- 'tenementlaw14.PortTorn', WHERE WHAT IT READS IS OF BULK AT MOST 1048576: true; the input reads as it did. -/
def portTornUptoRow : OpenClaim := { program := "ytllknflphgahfaa", sum := "69875f001a5c006d38640a1f304e1654a3babc28c20123b9c4f167e403b9b9b7", func := "tenement/tenementlaw14.PortTorn", spec := "portTorn", apart := false, narrowed := true }
def PortTornUptoSaid : Prop := portTornUptoRow.holds Try.pinned (OpenSpec.upto portTornSpec)

/-- 'tenementlaw14.PortSums', WHERE WHAT IT READS IS OF BULK AT MOST 1048576: true; the input reads as it did. -/
def portSumsUptoRow : OpenClaim := { program := "ytllknflphgahfaa", sum := "69875f001a5c006d38640a1f304e1654a3babc28c20123b9c4f167e403b9b9b7", func := "tenement/tenementlaw14.PortSums", spec := "portSums", apart := false, narrowed := true }
def PortSumsUptoSaid : Prop := portSumsUptoRow.holds Try.pinned (OpenSpec.upto portSumsSpec)

/-- 'tenementlaw14.PortOrder', WHERE WHAT IT READS IS OF BULK AT MOST 1048576: true; the input reads as it did. -/
def portOrderUptoRow : OpenClaim := { program := "ytllknflphgahfaa", sum := "69875f001a5c006d38640a1f304e1654a3babc28c20123b9c4f167e403b9b9b7", func := "tenement/tenementlaw14.PortOrder", spec := "portOrder", apart := false, narrowed := true }
def PortOrderUptoSaid : Prop := portOrderUptoRow.holds Try.pinned (OpenSpec.upto portOrderSpec)

end Rows
end Go.Proofs.Ytllknflphgahfaa
