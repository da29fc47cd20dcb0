/- A block's cells, out of its list. -/
import Derived.WalkKit
import Derived.Test.YthknhonpcmneaaaBase
namespace Go.Proofs.Ythknhonpcmneaaa
open Go Go.RowKit
theorem cell_of {w : World} {g : Nat} {cs : List Value} {t : TypeId} {fr : Nat × Nat} (h : w.heap[g]? = some (.cells cs.toArray t fr)) (i : Nat) (v : Value) (hv : cs[i]? = some v) : w.cell? ⟨g, i, none⟩ = some v := by
  rw [cell_of_row w g i _ t fr h]
  simpa using hv
theorem free_of {w : World} {g : Nat} {cs : Array Value} {t : TypeId} (h : w.heap[g]? = some (.cells cs t)) (i : Nat) : w.frozen? ⟨g, i, none⟩ = false := by
  unfold World.frozen?
  simp [h]
theorem Keep.cellk {w w' : World} (k : Keep w w') {a : Addr} {v : Value} (h : w.cell? a = some v) : w'.cell? a = some v := (k.cell (World.block_lt_of_cell? w _ h)).trans h
theorem heap_set_same {w : World} {g i : Nat} {cs : List Value} {t : TypeId} (h : w.heap[g]? = some (.cells cs.toArray t)) (v : Value) : (w.setCell ⟨g, i, none⟩ v).heap[g]? = some (.cells (cs.set i v).toArray t) := by
  rw [heap_setCell_same w g i _ t v h]
  congr 2
  simp
end Go.Proofs.Ythknhonpcmneaaa
