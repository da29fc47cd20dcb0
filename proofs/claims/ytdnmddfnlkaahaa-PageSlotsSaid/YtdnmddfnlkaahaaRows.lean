/-
  No cell of these rows narrows 'for every input' (looked for: loops, veiled, ifaces, maps, wideKeys, modest, calm, conditions, laid).
  DERIVED. THE GIVEN ROWS OF THIS SEAT. 8 by the template 'for every input the law returns true; each argument reads behind the call as it read before'; 0 by the template 'total and deterministic' (their statements: YtdnmddfnlkaahaaTotals.lean).
  GIVEN WITH THE SEED: the statements are not yours to turn. If you find one false, say at which input.
  Laid BY PROGRAM, IN A SANDBOX (cutbox-rows.mjs): the forced cells as the released guide's own fill.sh prints them over the translation 479f2f89753d1a5a… (all of the seat's roots in one cut). By AI agents, Wed Nov 11 2026. No macro, syntax, notation, axiom, sorry.
-/
import Derived.Test.YtdnmddfnlkaahaaChecked
import GoSem.Claim
import GoSem.ClaimJoined
import GoSem.ClaimMapViews
import Derived.JoinedTies
import Derived.KernelRfl
namespace Go.Proofs.Ytdnmddfnlkaahaa
/- THE CELL 'sum', in the pinned program and in every row, IS THE sha256 OF THE DUMP (.gsa) THAT YtdnmddfnlkaahaaProg.lean LOADS. Nothing in Lean hashes anything: it is a label: what it is worth is what the hold of that sum in a sandbox is worth. -/
noncomputable def Try.pinned : Pinned := { name := "ytdnmddfnlkaahaa", sum := "479f2f89753d1a5abe59211e6e174924455091a9673b72a476ab2e6cb6ea4908", checked := Try.checked }
namespace Rows
def none {H : Type} : Left H := { results := [], args := [] }

/-- 'tenementlaw05.PageCopies': WHATEVER THE INPUT: true; the input reads as it did. -/
def pageCopiesSpec : ChangeSpec := { name := "pageCopies", fn := fun _ => fun
  | [d1, d2, d3] => { results := [.lit (.bool true)], args := [d1, d2, d3] }
  | _ => none }
def pageCopiesRow : OpenClaim := { program := "ytdnmddfnlkaahaa", sum := "479f2f89753d1a5abe59211e6e174924455091a9673b72a476ab2e6cb6ea4908", func := "tenement/tenementlaw05.PageCopies", spec := "pageCopies", apart := false }
def PageCopiesSaid : Prop := pageCopiesRow.holds Try.pinned (OpenSpec.ofChange pageCopiesSpec)

/-- ITS FALSE NEIGHBOUR: 'it returns false'. Refute it at one input. -/
def pageCopiesWrong : ChangeSpec := { name := "pageCopies", fn := fun _ => fun
  | [d1, d2, d3] => { results := [.lit (.bool false)], args := [d1, d2, d3] }
  | _ => none }
def PageCopiesWrongFalsely : Prop := pageCopiesRow.holds Try.pinned (OpenSpec.ofChange pageCopiesWrong)

/-- 'tenementlaw05.PageSlots': WHATEVER THE INPUT: true; the input reads as it did. -/
def pageSlotsSpec : ChangeSpec := { name := "pageSlots", fn := fun _ => fun
  | [d1, d2, d3] => { results := [.lit (.bool true)], args := [d1, d2, d3] }
  | _ => none }
def pageSlotsRow : OpenClaim := { program := "ytdnmddfnlkaahaa", sum := "479f2f89753d1a5abe59211e6e174924455091a9673b72a476ab2e6cb6ea4908", func := "tenement/tenementlaw05.PageSlots", spec := "pageSlots", unfollowed := true, recurses := true, apart := false }
def PageSlotsSaid : Prop := pageSlotsRow.holds Try.pinned (OpenSpec.ofChange pageSlotsSpec)

/-- ITS FALSE NEIGHBOUR: 'it returns false'. Refute it at one input. -/
def pageSlotsWrong : ChangeSpec := { name := "pageSlots", fn := fun _ => fun
  | [d1, d2, d3] => { results := [.lit (.bool false)], args := [d1, d2, d3] }
  | _ => none }
def PageSlotsWrongFalsely : Prop := pageSlotsRow.holds Try.pinned (OpenSpec.ofChange pageSlotsWrong)

/-- 'tenementlaw05.PageFull': WHATEVER THE INPUT: true; the input reads as it did. -/
def pageFullSpec : ChangeSpec := { name := "pageFull", fn := fun _ => fun
  | [d1, d2] => { results := [.lit (.bool true)], args := [d1, d2] }
  | _ => none }
def pageFullRow : OpenClaim := { program := "ytdnmddfnlkaahaa", sum := "479f2f89753d1a5abe59211e6e174924455091a9673b72a476ab2e6cb6ea4908", func := "tenement/tenementlaw05.PageFull", spec := "pageFull", unfollowed := true, recurses := true, apart := false }
def PageFullSaid : Prop := pageFullRow.holds Try.pinned (OpenSpec.ofChange pageFullSpec)

/-- ITS FALSE NEIGHBOUR: 'it returns false'. Refute it at one input. -/
def pageFullWrong : ChangeSpec := { name := "pageFull", fn := fun _ => fun
  | [d1, d2] => { results := [.lit (.bool false)], args := [d1, d2] }
  | _ => none }
def PageFullWrongFalsely : Prop := pageFullRow.holds Try.pinned (OpenSpec.ofChange pageFullWrong)

/-- 'tenementlaw05.PageMarks': WHATEVER THE INPUT: true; the input reads as it did. -/
def pageMarksSpec : ChangeSpec := { name := "pageMarks", fn := fun _ => fun
  | [d1, d2] => { results := [.lit (.bool true)], args := [d1, d2] }
  | _ => none }
def pageMarksRow : OpenClaim := { program := "ytdnmddfnlkaahaa", sum := "479f2f89753d1a5abe59211e6e174924455091a9673b72a476ab2e6cb6ea4908", func := "tenement/tenementlaw05.PageMarks", spec := "pageMarks", apart := false }
def PageMarksSaid : Prop := pageMarksRow.holds Try.pinned (OpenSpec.ofChange pageMarksSpec)

/-- ITS FALSE NEIGHBOUR: 'it returns false'. Refute it at one input. -/
def pageMarksWrong : ChangeSpec := { name := "pageMarks", fn := fun _ => fun
  | [d1, d2] => { results := [.lit (.bool false)], args := [d1, d2] }
  | _ => none }
def PageMarksWrongFalsely : Prop := pageMarksRow.holds Try.pinned (OpenSpec.ofChange pageMarksWrong)

/-- 'tenementlaw05.PageEmpties': WHATEVER THE INPUT: true; the input reads as it did. -/
def pageEmptiesSpec : ChangeSpec := { name := "pageEmpties", fn := fun _ => fun
  | [d1, d2] => { results := [.lit (.bool true)], args := [d1, d2] }
  | _ => none }
def pageEmptiesRow : OpenClaim := { program := "ytdnmddfnlkaahaa", sum := "479f2f89753d1a5abe59211e6e174924455091a9673b72a476ab2e6cb6ea4908", func := "tenement/tenementlaw05.PageEmpties", spec := "pageEmpties", unfollowed := true, recurses := true, apart := false }
def PageEmptiesSaid : Prop := pageEmptiesRow.holds Try.pinned (OpenSpec.ofChange pageEmptiesSpec)

/-- ITS FALSE NEIGHBOUR: 'it returns false'. Refute it at one input. -/
def pageEmptiesWrong : ChangeSpec := { name := "pageEmpties", fn := fun _ => fun
  | [d1, d2] => { results := [.lit (.bool false)], args := [d1, d2] }
  | _ => none }
def PageEmptiesWrongFalsely : Prop := pageEmptiesRow.holds Try.pinned (OpenSpec.ofChange pageEmptiesWrong)

/-- 'tenementlaw05.PageBack': WHATEVER THE INPUT: true; the input reads as it did. -/
def pageBackSpec : ChangeSpec := { name := "pageBack", fn := fun _ => fun
  | [d1, d2, d3] => { results := [.lit (.bool true)], args := [d1, d2, d3] }
  | _ => none }
def pageBackRow : OpenClaim := { program := "ytdnmddfnlkaahaa", sum := "479f2f89753d1a5abe59211e6e174924455091a9673b72a476ab2e6cb6ea4908", func := "tenement/tenementlaw05.PageBack", spec := "pageBack", apart := false }
def PageBackSaid : Prop := pageBackRow.holds Try.pinned (OpenSpec.ofChange pageBackSpec)

/-- ITS FALSE NEIGHBOUR: 'it returns false'. Refute it at one input. -/
def pageBackWrong : ChangeSpec := { name := "pageBack", fn := fun _ => fun
  | [d1, d2, d3] => { results := [.lit (.bool false)], args := [d1, d2, d3] }
  | _ => none }
def PageBackWrongFalsely : Prop := pageBackRow.holds Try.pinned (OpenSpec.ofChange pageBackWrong)

/-- 'tenementlaw05.PageTorn': WHATEVER THE INPUT: true; the input reads as it did. -/
def pageTornSpec : ChangeSpec := { name := "pageTorn", fn := fun _ => fun
  | [d1, d2, d3] => { results := [.lit (.bool true)], args := [d1, d2, d3] }
  | _ => none }
def pageTornRow : OpenClaim := { program := "ytdnmddfnlkaahaa", sum := "479f2f89753d1a5abe59211e6e174924455091a9673b72a476ab2e6cb6ea4908", func := "tenement/tenementlaw05.PageTorn", spec := "pageTorn", apart := false }
def PageTornSaid : Prop := pageTornRow.holds Try.pinned (OpenSpec.ofChange pageTornSpec)

/-- ITS FALSE NEIGHBOUR: 'it returns false'. Refute it at one input. -/
def pageTornWrong : ChangeSpec := { name := "pageTorn", fn := fun _ => fun
  | [d1, d2, d3] => { results := [.lit (.bool false)], args := [d1, d2, d3] }
  | _ => none }
def PageTornWrongFalsely : Prop := pageTornRow.holds Try.pinned (OpenSpec.ofChange pageTornWrong)

/-- 'tenementlaw05.PageAny': WHATEVER THE INPUT: true; the input reads as it did. -/
def pageAnySpec : ChangeSpec := { name := "pageAny", fn := fun _ => fun
  | [d1, d2, d3] => { results := [.lit (.bool true)], args := [d1, d2, d3] }
  | _ => none }
def pageAnyRow : OpenClaim := { program := "ytdnmddfnlkaahaa", sum := "479f2f89753d1a5abe59211e6e174924455091a9673b72a476ab2e6cb6ea4908", func := "tenement/tenementlaw05.PageAny", spec := "pageAny", apart := false }
def PageAnySaid : Prop := pageAnyRow.holds Try.pinned (OpenSpec.ofChange pageAnySpec)

/-- ITS FALSE NEIGHBOUR: 'it returns false'. Refute it at one input. -/
def pageAnyWrong : ChangeSpec := { name := "pageAny", fn := fun _ => fun
  | [d1, d2, d3] => { results := [.lit (.bool false)], args := [d1, d2, d3] }
  | _ => none }
def PageAnyWrongFalsely : Prop := pageAnyRow.holds Try.pinned (OpenSpec.ofChange pageAnyWrong)

/- THE SECOND FORM. 'bulk': how many values and letters a reading holds, each counted each time it is reached (what is shared counts as often as it is met; a slice's spare places count too). A statement '..UptoSaid' is the law's where the arguments, and the package variables that the reading takes, are together of bulk at most 1048576: NARROWER than '..Said'. Prove '..Said' where nothing that the law and all that it calls make is longer than what came in: it says more and counts as full. Else prove '..UptoSaid'. A law counts once. -/
mutual
def uptoBulk {H : Type} : DataW H → Nat
  | .lit (.string bytes) => bytes.length + 1
  | .lit _ => 1
  | .nil => 1
  | .ptr d => uptoBulk d + 1
  | .slice elems spare => uptoBulkAll elems + uptoBulkAll spare + 1
  | .agg parts => uptoBulkAll parts + 1
  | .iface _ d => uptoBulk d + 1
  | .map entries => uptoBulkEntries entries + 1
  | .held _ => 1
def uptoBulkAll {H : Type} : List (DataW H) → Nat
  | [] => 0
  | d :: r => uptoBulk d + uptoBulkAll r
def uptoBulkEntries {H : Type} : List (Lit × DataW H) → Nat
  | [] => 0
  | x :: r => uptoBulkEntry x + uptoBulkEntries r
def uptoBulkEntry {H : Type} : Lit × DataW H → Nat
  | (.string bytes, d) => bytes.length + uptoBulk d + 1
  | (_, d) => uptoBulk d + 1
 end
def uptoSmall : (H : Type) → List (DataW H) → Bool := fun _ ds => decide (uptoBulkAll ds ≤ 1048576)
def OpenSpec.upto (s : _root_.Go.ChangeSpec) : _root_.Go.OpenSpec := { _root_.Go.OpenSpec.ofChange s with cond := some uptoSmall }

/-- 'tenementlaw05.PageCopies', WHERE WHAT IT READS IS OF BULK AT MOST 1048576: true; the input reads as it did. -/
def pageCopiesUptoRow : OpenClaim := { program := "ytdnmddfnlkaahaa", sum := "479f2f89753d1a5abe59211e6e174924455091a9673b72a476ab2e6cb6ea4908", func := "tenement/tenementlaw05.PageCopies", spec := "pageCopies", apart := false, narrowed := true }
def PageCopiesUptoSaid : Prop := pageCopiesUptoRow.holds Try.pinned (OpenSpec.upto pageCopiesSpec)

/-- 'tenementlaw05.PageSlots', WHERE WHAT IT READS IS OF BULK AT MOST 1048576: true; the input reads as it did. -/
def pageSlotsUptoRow : OpenClaim := { program := "ytdnmddfnlkaahaa", sum := "479f2f89753d1a5abe59211e6e174924455091a9673b72a476ab2e6cb6ea4908", func := "tenement/tenementlaw05.PageSlots", spec := "pageSlots", unfollowed := true, recurses := true, apart := false, narrowed := true }
def PageSlotsUptoSaid : Prop := pageSlotsUptoRow.holds Try.pinned (OpenSpec.upto pageSlotsSpec)

/-- 'tenementlaw05.PageFull', WHERE WHAT IT READS IS OF BULK AT MOST 1048576: true; the input reads as it did. -/
def pageFullUptoRow : OpenClaim := { program := "ytdnmddfnlkaahaa", sum := "479f2f89753d1a5abe59211e6e174924455091a9673b72a476ab2e6cb6ea4908", func := "tenement/tenementlaw05.PageFull", spec := "pageFull", unfollowed := true, recurses := true, apart := false, narrowed := true }
def PageFullUptoSaid : Prop := pageFullUptoRow.holds Try.pinned (OpenSpec.upto pageFullSpec)

/-- 'tenementlaw05.PageMarks', WHERE WHAT IT READS IS OF BULK AT MOST 1048576: true; the input reads as it did. -/
def pageMarksUptoRow : OpenClaim := { program := "ytdnmddfnlkaahaa", sum := "479f2f89753d1a5abe59211e6e174924455091a9673b72a476ab2e6cb6ea4908", func := "tenement/tenementlaw05.PageMarks", spec := "pageMarks", apart := false, narrowed := true }
def PageMarksUptoSaid : Prop := pageMarksUptoRow.holds Try.pinned (OpenSpec.upto pageMarksSpec)

/-- 'tenementlaw05.PageEmpties', WHERE WHAT IT READS IS OF BULK AT MOST 1048576: true; the input reads as it did. -/
def pageEmptiesUptoRow : OpenClaim := { program := "ytdnmddfnlkaahaa", sum := "479f2f89753d1a5abe59211e6e174924455091a9673b72a476ab2e6cb6ea4908", func := "tenement/tenementlaw05.PageEmpties", spec := "pageEmpties", unfollowed := true, recurses := true, apart := false, narrowed := true }
def PageEmptiesUptoSaid : Prop := pageEmptiesUptoRow.holds Try.pinned (OpenSpec.upto pageEmptiesSpec)

/-- 'tenementlaw05.PageBack', WHERE WHAT IT READS IS OF BULK AT MOST 1048576: true; the input reads as it did. -/
def pageBackUptoRow : OpenClaim := { program := "ytdnmddfnlkaahaa", sum := "479f2f89753d1a5abe59211e6e174924455091a9673b72a476ab2e6cb6ea4908", func := "tenement/tenementlaw05.PageBack", spec := "pageBack", apart := false, narrowed := true }
def PageBackUptoSaid : Prop := pageBackUptoRow.holds Try.pinned (OpenSpec.upto pageBackSpec)

/-- 'tenementlaw05.PageTorn', WHERE WHAT IT READS IS OF BULK AT MOST 1048576: true; the input reads as it did. -/
def pageTornUptoRow : OpenClaim := { program := "ytdnmddfnlkaahaa", sum := "479f2f89753d1a5abe59211e6e174924455091a9673b72a476ab2e6cb6ea4908", func := "tenement/tenementlaw05.PageTorn", spec := "pageTorn", apart := false, narrowed := true }
def PageTornUptoSaid : Prop := pageTornUptoRow.holds Try.pinned (OpenSpec.upto pageTornSpec)

/-- 'tenementlaw05.PageAny', WHERE WHAT IT READS IS OF BULK AT MOST 1048576: true; the input reads as it did. -/
def pageAnyUptoRow : OpenClaim := { program := "ytdnmddfnlkaahaa", sum := "479f2f89753d1a5abe59211e6e174924455091a9673b72a476ab2e6cb6ea4908", func := "tenement/tenementlaw05.PageAny", spec := "pageAny", apart := false, narrowed := true }
def PageAnyUptoSaid : Prop := pageAnyUptoRow.holds Try.pinned (OpenSpec.upto pageAnySpec)

end Rows
end Go.Proofs.Ytdnmddfnlkaahaa
