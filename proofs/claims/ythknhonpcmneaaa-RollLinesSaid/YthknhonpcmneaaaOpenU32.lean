/- An array of two numbers among the arguments. -/
import Derived.Test.YthknhonpcmneaaaOpen
import Derived.Lib.SmallJoins
namespace Go.Proofs.Ythknhonpcmneaaa
open Go.Joins Go.ChangeShapes Go.WideShapes Go.ChangeAt Go.RowKit Go.Deep

theorem okWide_array {P : Program} {w : World} {r : Reach} {base : Nat} {t e : TypeId} {v : Value} {n : Nat} (ht : P.underlying t = some (.array n e)) (h : Value.okWide P w r base t v) : ∃ cs, v = .agg cs ∧ cs.size = P.cellsOf t := by
  simp only [Value.okWide, ht] at h
  obtain ⟨cs, h1, h2, _⟩ := h
  exact ⟨cs, h1, h2⟩
theorem byte_of {a : Int} (h : 0 ≤ a ∧ a ≤ 255) : ∃ b : UInt8, a = (b.toNat : Int) := ⟨UInt8.ofNat a.toNat, by
  rw [UInt8.toNat_ofNat', Nat.mod_eq_of_lt (by omega)]
  omega⟩

section
variable {H : Type} {enc : TypeId × Value → H} {w : World} {base : Nat}
theorem open_u32s2 {v : Value} {d : DataW H} {p : List MemPlace} (hv : Value.okWide Try.prog w .any base 23 v) (h : DataW.Trod enc Try.prog w 0 (fun _ => true) true 23 v d p) :
    ∃ a b : Nat, v = .agg #[.int .u32 a, .int .u32 b] ∧ a < 4294967296 ∧ b < 4294967296 := by
  obtain ⟨cs, rfl, hsz⟩ := okWide_array Try.underlying23 hv
  have hC : Try.prog.cellsOf 23 = 2 := by kernel_rfl
  have hC1 : Try.prog.cellsOf 22 = 1 := by kernel_rfl
  obtain ⟨c0, c1, rfl⟩ := array2 (hsz.trans hC)
  obtain ⟨fuel, hf⟩ := h
  obtain ⟨xs, m, _, _, _, hlen, hel⟩ := DataW.trod_array Try.underlying23 hf
  rw [hC1] at hel
  have g0 := hel 0 (by decide)
  have g1 := hel 1 (by decide)
  rw [List.getElem?_eq_getElem (by omega)] at g0 g1
  obtain ⟨a, e0, _, w0⟩ := DataW.trod_int Try.underlying22 g0
  obtain ⟨b, e1, _, w1⟩ := DataW.trod_int Try.underlying22 g1
  simp [Value.cells] at e0 e1
  subst e0 e1
  have b0 := bounds_u32 w0
  have b1 := bounds_u32 w1
  obtain ⟨a, rfl⟩ := Int.eq_ofNat_of_zero_le b0.1
  obtain ⟨b, rfl⟩ := Int.eq_ofNat_of_zero_le b1.1
  exact ⟨a, b, rfl, by omega, by omega⟩
end
end Go.Proofs.Ythknhonpcmneaaa
