/- A slice of calls among the arguments: its numbers. -/
import Derived.Test.YtonodicdfhjngaaPackReads
import Derived.Test.YtonodicdfhjngaaOpen
namespace Go.Proofs.Ytonodicdfhjngaa
open Go.ChangeShapes Go.WideShapes Go.ChangeAt Go.RowKit Go.Deep

section
variable {H : Type} {enc : TypeId × Value → H} {w : World} {base : Nat}
theorem calls_of_trod {fuel : Nat} {cs : List Value} {x : DataW H × List MemPlace} (h : DataW.trod enc Try.prog w 0 (fun _ => true) true fuel 32 cs = some x) :
    ∃ v n, cs = [v] ∧ Called w v n := by
  have hsz : Try.prog.cellsOf 35 = 2 := by kernel_rfl
  have hsi : Try.prog.cellsOf 3 = 1 := by kernel_rfl
  rcases open_slice Try.underlying32 h with ⟨rfl, _⟩ | ⟨a, len, cap, m, n, D, Pl, rfl, hb, hl, hm, hmm, _, hel⟩
  · exact ⟨_, 0, rfl, none, 0, rfl, Nat.zero_le _, fun i hi => absurd hi (by omega)⟩
  · rw [hsz] at hel
    refine ⟨_, len, rfl, some a, cap, rfl, by omega, fun i hi => ?_⟩
    obtain ⟨cs, hl2, hd⟩ := hel i (by rw [hmm]; simp; omega)
    obtain ⟨_, hcl, hat⟩ := World.cells?_some hl2
    obtain ⟨ys, k, _, _, hlen, hyl, hf⟩ := DataW.trod_struct Try.underlying35 hd
    have g0 : DataW.trod enc Try.prog w 0 (fun _ => true) true k 3 ((cs.drop 0).take (Try.prog.cellsOf 3)) = ys[0]? := hf 0 _ rfl
    have g1 : DataW.trod enc Try.prog w 0 (fun _ => true) true k 3 ((cs.drop 1).take (Try.prog.cellsOf 3)) = ys[1]? := hf 1 _ rfl
    rw [hsi] at g0 g1
    have hy2 : ys.length = 2 := hyl
    rw [List.getElem?_eq_getElem (by omega)] at g0 g1
    obtain ⟨z0, e0, _, w0⟩ := DataW.trod_int Try.underlying3 g0
    obtain ⟨z1, e1, _, w1⟩ := DataW.trod_int Try.underlying3 g1
    have hb1 := bounds_i64 w1
    have c0 := hat 0 (by omega)
    have c1 := hat 1 (by omega)
    match cs, hcl with
    | [x0, x1], _ =>
      simp at e0 e1
      subst e0 e1
      have hspot : a.spot = none := by
        cases hs : a.spot with
        | none => rfl
        | some s =>
          exfalso
          obtain ⟨cs2, hl3, _⟩ := hel 0 (by rw [hmm]; simp; omega)
          obtain ⟨_, hl4, hat2⟩ := World.cells?_some hl3
          have d0 := hat2 0 (by omega)
          rw [List.getElem?_eq_getElem (by omega)] at d0
          rw [show (a.add (0 * 2)).add 0 = a from rfl] at d0
          unfold World.cell? at d0
          split at d0
          · rw [hs] at d0; simp at d0
          · cases d0
      have hadd : ∀ k, (a.add k) = ⟨a.block, a.off + k, none⟩ := fun k => by unfold Addr.add; split <;> (cases a; simp_all)
      rw [hadd] at c0 c1
      refine ⟨a.block, a.off, z0, z1, by cases a; simp_all, ?_, ?_, hb1.1, hb1.2⟩
      · rw [show (⟨a.block, a.off + i * 2, none⟩ : Addr) = (⟨a.block, a.off + i * 2, none⟩ : Addr).add 0 from rfl, c0]; rfl
      · rw [show (⟨a.block, a.off + i * 2 + 1, none⟩ : Addr) = (⟨a.block, a.off + i * 2, none⟩ : Addr).add 1 from rfl, c1]; rfl
theorem open_calls {v : Value} {d : DataW H} {p : List MemPlace} (hv : Value.okWide Try.prog w .any base 32 v) (h : DataW.Trod enc Try.prog w 0 (fun _ => true) true 32 v d p) : ∃ n, Called w v n := by
  obtain ⟨a0, len0, cap0, rfl⟩ := okWide_slice Try.underlying32 hv
  obtain ⟨fuel, hf⟩ := h
  obtain ⟨v, n, hc, hcl⟩ := calls_of_trod hf
  simp [Value.cells] at hc
  exact ⟨n, by rw [hc]; exact hcl⟩
end
end Go.Proofs.Ytonodicdfhjngaa
