/- Slices of ints among the arguments. -/
import Derived.Test.YthknhonpcmneaaaSlC
namespace Go.Proofs.Ythknhonpcmneaaa
open Go.Joins Go.ChangeShapes Go.WideShapes Go.ChangeAt Go.RowKit Go.Deep

section
variable {H : Type} {enc : TypeId × Value → H} {w : World} {base : Nat}
theorem open_slI {v : Value} {d : DataW H} {p : List MemPlace} (hv : Value.okWide Try.prog w .any base 37 v) (h : DataW.Trod enc Try.prog w 0 (fun _ => true) true 37 v d p) :
    ∃ l : List Int, (∀ x ∈ l, -9223372036854775808 ≤ x ∧ x ≤ 9223372036854775807) ∧ Sl w v (l.map fun n => .int .i64 n) := by
  obtain ⟨a0, len0, cap0, rfl⟩ := okWide_slice Try.underlying37 hv
  obtain ⟨fuel, hf⟩ := h
  obtain ⟨v, css, hc, hs, hel⟩ := slc_of_trod (P := Try.prog) (k := 1) Try.underlying37 (by kernel_rfl) (by decide) hf
  simp [Value.cells] at hc
  rw [hc]
  have hall : ∀ i, ∃ q : Int, (-9223372036854775808 ≤ q ∧ q ≤ 9223372036854775807) ∧ ((h : i < css.length) → css[i] = [.int .i64 q]) := by
    intro i
    by_cases hi : i < css.length
    · obtain ⟨hl, fuel', x', hx⟩ := hel css[i] (List.getElem_mem _)
      obtain ⟨a, e0, _, w0⟩ := DataW.trod_int Try.underlying3 hx
      exact ⟨a, bounds_i64 w0, fun _ => e0⟩
    · exact ⟨0, by decide, fun h => absurd h hi⟩
  let f := fun i => Classical.choose (hall i)
  have hsp : ∀ i (h : i < css.length), css[i] = [.int .i64 (f i)] := fun i => (Classical.choose_spec (hall i)).2
  have hbd : ∀ i, -9223372036854775808 ≤ f i ∧ f i ≤ 9223372036854775807 := fun i => (Classical.choose_spec (hall i)).1
  refine ⟨(List.range css.length).map f, fun x hx => ?_, ?_⟩
  · obtain ⟨i, _, rfl⟩ := List.mem_map.1 hx
    exact hbd i
  · obtain ⟨ao, cap, hv, hm, hcap, hce⟩ := hs
    have hlen : (((List.range css.length).map f).map fun n => Value.int .i64 n).length = css.length := by simp
    refine ⟨ao, cap, by rw [hlen]; exact hv, by rw [hlen]; exact hm, by rw [hlen]; exact hcap, fun i hi => ?_⟩
    have hi2 : i < css.length := by rw [hlen] at hi; exact hi
    obtain ⟨b, off, ha, hx⟩ := hce i hi2
    refine ⟨b, off, ha, ?_⟩
    have := hx 0 _ (by rw [hsp i hi2]; rfl)
    rw [Nat.mul_one, Nat.add_zero] at this
    rw [this]
    simp
end
end Go.Proofs.Ythknhonpcmneaaa
