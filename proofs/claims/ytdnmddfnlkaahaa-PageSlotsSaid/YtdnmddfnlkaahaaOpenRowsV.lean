/- Rows among the arguments. -/
import Derived.Test.YtdnmddfnlkaahaaRwV
import Derived.Test.YtdnmddfnlkaahaaOpen
namespace Go.Proofs.Ytdnmddfnlkaahaa
open Go.Joins Go.ChangeShapes Go.WideShapes Go.ChangeAt Go.RowKit Go.Deep

theorem byte_of {a : Int} (h : 0 ≤ a ∧ a ≤ 255) : ∃ b : UInt8, a = (b.toNat : Int) := ⟨UInt8.ofNat a.toNat, by
  rw [UInt8.toNat_ofNat', Nat.mod_eq_of_lt (by omega)]
  omega⟩
section
variable {H : Type} {enc : TypeId × Value → H} {w : World} {base : Nat}
theorem open_rw_cs {fuel : Nat} {cs : List Value} {x : DataW H × List MemPlace} (hsz : cs.length = 3) (hf : DataW.trod enc Try.prog w 0 (fun _ => true) true fuel 24 cs = some x) :
    ∃ r : Rw, cs = r.cells := by
  have hi : Try.prog.cellsOf 3 = 1 := by kernel_rfl
  have hs : Try.prog.cellsOf 9 = 1 := by kernel_rfl
  match cs, hsz with
  | [c0, c1, c2], _ =>
    obtain ⟨xs, n, _, _, _, hlen, hg⟩ := DataW.trod_struct Try.underlying24 hf
    have hl8 : xs.length = 3 := hlen
    have g0 : DataW.trod enc Try.prog w 0 (fun _ => true) true n 3 [c0] = xs[0]? := by
      have h0 : DataW.trod enc Try.prog w 0 (fun _ => true) true n 3 (([c0, c1, c2].drop 0).take (Try.prog.cellsOf 3)) = xs[0]? := hg 0 _ rfl
      rw [hi] at h0
      exact h0
    have g1 : DataW.trod enc Try.prog w 0 (fun _ => true) true n 9 [c1] = xs[1]? := by
      have h0 : DataW.trod enc Try.prog w 0 (fun _ => true) true n 9 (([c0, c1, c2].drop 1).take (Try.prog.cellsOf 9)) = xs[1]? := hg 1 _ rfl
      rw [hs] at h0
      exact h0
    have g2 : DataW.trod enc Try.prog w 0 (fun _ => true) true n 9 [c2] = xs[2]? := by
      have h0 : DataW.trod enc Try.prog w 0 (fun _ => true) true n 9 (([c0, c1, c2].drop 2).take (Try.prog.cellsOf 9)) = xs[2]? := hg 2 _ rfl
      rw [hs] at h0
      exact h0
    rw [List.getElem?_eq_getElem (by omega)] at g0 g1 g2
    obtain ⟨z0, e0, _, _⟩ := DataW.trod_int Try.underlying3 g0
    obtain ⟨s1, e1, _, _⟩ := DataW.trod_string Try.underlying9 g1
    obtain ⟨s2, e2, _, _⟩ := DataW.trod_string Try.underlying9 g2
    simp only [List.cons.injEq, and_true] at e0 e1 e2
    subst e0 e1 e2
    exact ⟨⟨z0, s1.data.toList, s2.data.toList⟩, by simp [Rw.cells]⟩
theorem open_rows {v : Value} {d : DataW H} {p : List MemPlace} (hv : Value.okWide Try.prog w .any base 22 v) (h : DataW.Trod enc Try.prog w 0 (fun _ => true) true 22 v d p) :
    ∃ l : List Rw, SlR w v l := by
  obtain ⟨a0, len0, cap0, rfl⟩ := okWide_slice Try.underlying22 hv
  obtain ⟨fuel, hf⟩ := h
  obtain ⟨v, css, hc, hs, hel⟩ := slc_of_trod (P := Try.prog) (k := 3) Try.underlying22 (by kernel_rfl) (by decide) hf
  simp [Value.cells] at hc
  rw [hc]
  have hall : ∀ i, ∃ r : Rw, (h : i < css.length) → css[i] = r.cells := by
    intro i
    by_cases hi : i < css.length
    · obtain ⟨hl, fuel', x', hx⟩ := hel css[i] (List.getElem_mem _)
      obtain ⟨r, e⟩ := open_rw_cs hl hx
      exact ⟨r, fun _ => e⟩
    · exact ⟨⟨0, [], []⟩, fun h => absurd h hi⟩
  let f := fun i => Classical.choose (hall i)
  have hsp : ∀ i (h : i < css.length), css[i] = (f i).cells := fun i => Classical.choose_spec (hall i)
  refine ⟨(List.range css.length).map f, ?_⟩
  have e : ((List.range css.length).map f).map Rw.cells = css := by
    apply List.ext_getElem
    · simp
    · intro i h1 h2
      rw [List.getElem_map, List.getElem_map, List.getElem_range, hsp i h2]
  unfold SlR
  rw [e]
  exact hs
end
end Go.Proofs.Ytdnmddfnlkaahaa
