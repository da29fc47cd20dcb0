/- A store elsewhere leaves a slice of bytes. -/
import Derived.Test.YthknhonpcmneaaaMem
namespace Go.Proofs.Ythknhonpcmneaaa
open Go Go.RowKit

theorem SlB.setCell {w : World} {v : Value} {l : List UInt8} (h : SlB w v l) {p : Addr} {u : Value} (hp : w.cell? p = some u) (hu : ∀ b : UInt8, u ≠ B b) (x : Value) : SlB (w.setCell p x) v l := by
  obtain ⟨ao, cap, hv, hm, hcap, hc⟩ := h
  refine ⟨ao, cap, hv, hm, hcap, fun i hi => ?_⟩
  obtain ⟨b, off, ha, hcell⟩ := hc i hi
  refine ⟨b, off, ha, ?_⟩
  rw [World.cell?_setCell_other]
  · exact hcell
  · intro he
    rw [he] at hp
    rw [hp] at hcell
    have h1 : (l.map B)[i] = B (l[i]'(by simpa using hi)) := by simp
    rw [h1] at hcell
    exact hu _ (Option.some.inj hcell)
end Go.Proofs.Ythknhonpcmneaaa
