/- A slice of strings among the arguments. -/
import Derived.Test.YtonodicdfhjngaaOpen
import Derived.SliceStrings
namespace Go.Proofs.Ytonodicdfhjngaa
open Go.ChangeShapes Go.WideShapes Go.ChangeAt Go.RowKit Go.Deep

section
variable {H : Type} {enc : TypeId × Value → H} {w : World} {base : Nat}
theorem open_strs {v : Value} {d : DataW H} {p : List MemPlace} (hv : Value.okWide Try.prog w .any base 42 v) (h : DataW.Trod enc Try.prog w 0 (fun _ => true) true 42 v d p) :
    ∃ ls : List (List UInt8), Sl w v (ls.map strV) ∧ ∀ l ∈ ls, l.length ≤ 9223372036854775807 := by
  obtain ⟨a0, len0, cap0, rfl⟩ := okWide_slice Try.underlying42 hv
  obtain ⟨fuel, hf⟩ := h
  rcases open_strings Try.underlying42 Try.underlying9 (by kernel_rfl) hf with ⟨hcs, _⟩ | ⟨x, l, c, ss, hcs, _, hl, hm, hz, _, hcell, hsz⟩
  · simp [Value.cells] at hcs
    obtain ⟨rfl, rfl, rfl⟩ := hcs
    exact ⟨[], ⟨none, 0, rfl, Nat.zero_le _, ⟨Nat.le_refl _, fun _ => rfl⟩, fun i h => absurd h (by simp)⟩, by simp⟩
  · simp [Value.cells] at hcs
    obtain ⟨rfl, rfl, rfl⟩ := hcs
    have hz' : ss.length = cap0 := by simpa using hz
    refine ⟨(ss.take len0).map fun s => s.data.toList, ⟨some x, cap0, by simp; omega, by simp; omega, ⟨by simp; omega, fun h => by cases h⟩, fun i hi => ?_⟩, ?_⟩
    · have hi2 : i < len0 := by simp at hi; omega
      have hc := hcell i (by omega)
      have hspot : x.spot = none := by
        cases hs : x.spot with
        | none => rfl
        | some s =>
          exfalso
          have h0 := hcell 0 (by omega)
          rw [show x.add 0 = x from rfl] at h0
          unfold World.cell? at h0
          split at h0
          · rw [hs] at h0; simp at h0
          · cases h0
      refine ⟨x.block, x.off, by cases x; simp_all, ?_⟩
      have hx : x.add i = ⟨x.block, x.off + i, none⟩ := by
        unfold Addr.add
        split
        · rename_i h0; subst h0; cases x; simp_all
        · rfl
      rw [hx] at hc
      rw [hc]
      simp only [List.getElem_map, List.getElem_take, strV]
      rw [List.getD_eq_getElem?_getD, List.getElem?_eq_getElem (by omega)]
      rfl
    · intro l hl2
      obtain ⟨s, hs, rfl⟩ := List.mem_map.1 hl2
      have := hsz s (List.mem_of_mem_take hs)
      rw [Array.length_toList]
      exact this
end
end Go.Proofs.Ytonodicdfhjngaa
