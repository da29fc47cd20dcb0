/- An array of three byte slices among the arguments. -/
import Derived.Test.YtgpneahbeggbeaaOpen
import Derived.Lib.SmallJoins
namespace Go.Proofs.Ytgpneahbeggbeaa
open Go.Joins Go.ChangeShapes Go.WideShapes Go.ChangeAt Go.RowKit Go.Deep

theorem okWide_array {P : Program} {w : World} {r : Reach} {base : Nat} {t e : TypeId} {v : Value} {n : Nat} (ht : P.underlying t = some (.array n e)) (h : Value.okWide P w r base t v) : ∃ cs, v = .agg cs ∧ cs.size = P.cellsOf t := by
  simp only [Value.okWide, ht] at h
  obtain ⟨cs, h1, h2, _⟩ := h
  exact ⟨cs, h1, h2⟩

theorem byte_of {a : Int} (h : 0 ≤ a ∧ a ≤ 255) : ∃ b : UInt8, a = (b.toNat : Int) := ⟨UInt8.ofNat a.toNat, by
  rw [UInt8.toNat_ofNat', Nat.mod_eq_of_lt (by omega)]
  omega⟩

section
variable {H : Type} {enc : TypeId × Value → H} {w : World} {base : Nat}
theorem open_bytes_cs {fuel : Nat} {cs : List Value} {x : DataW H × List MemPlace} (hf : DataW.trod enc Try.prog w 0 (fun _ => true) true fuel 22 cs = some x) : ∃ (v : Value) (l : List UInt8), cs = [v] ∧ SlB w v l := by
  rcases open_ints Try.underlying22 Try.underlying5 (by kernel_rfl) hf with ⟨hcs, _⟩ | ⟨x, n, c, zs, hcs, _, hl, hm, hz, _, hcell, hwz⟩
  · exact ⟨_, [], hcs, SlB.nil w⟩
  · have w0 : IsRow .u8 w (some x) n c zs := .inr ⟨_, rfl, hl, hm, by simpa using hz, hcell, hwz⟩
    obtain ⟨l, h, _⟩ := w0.bytes
    exact ⟨_, l, hcs, h⟩

theorem open_bytes3 {v : Value} {d : DataW H} {p : List MemPlace} (hv : Value.okWide Try.prog w .any base 32 v) (h : DataW.Trod enc Try.prog w 0 (fun _ => true) true 32 v d p) :
    ∃ (v0 v1 v2 : Value) (l0 l1 l2 : List UInt8), v = .agg #[v0, v1, v2] ∧ SlB w v0 l0 ∧ SlB w v1 l1 ∧ SlB w v2 l2 := by
  obtain ⟨cs, rfl, hsz⟩ := okWide_array Try.underlying32 hv
  have hC : Try.prog.cellsOf 32 = 3 := by kernel_rfl
  have hC1 : Try.prog.cellsOf 22 = 1 := by kernel_rfl
  obtain ⟨c0, c1, c2, rfl⟩ := array3 (hsz.trans hC)
  obtain ⟨fuel, hf⟩ := h
  obtain ⟨xs, m, _, _, _, hlen, hel⟩ := DataW.trod_array Try.underlying32 hf
  rw [hC1] at hel
  have g0 := hel 0 (by decide)
  have g1 := hel 1 (by decide)
  have g2 := hel 2 (by decide)
  rw [List.getElem?_eq_getElem (by omega)] at g0 g1 g2
  obtain ⟨v0, l0, e0, s0⟩ := open_bytes_cs g0
  obtain ⟨v1, l1, e1, s1⟩ := open_bytes_cs g1
  obtain ⟨v2, l2, e2, s2⟩ := open_bytes_cs g2
  simp [Value.cells] at e0 e1 e2
  subst e0 e1 e2
  exact ⟨_, _, _, l0, l1, l2, rfl, s0, s1, s2⟩
end
end Go.Proofs.Ytgpneahbeggbeaa
