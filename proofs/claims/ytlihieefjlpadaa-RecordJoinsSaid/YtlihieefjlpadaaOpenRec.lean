/- A record among the arguments. -/
import Derived.Test.YtlihieefjlpadaaRec
import Derived.Test.YtlihieefjlpadaaOpen
import Derived.Lib.SmallJoins
namespace Go.Proofs.Ytlihieefjlpadaa
open Go.Joins Go.ChangeShapes Go.WideShapes Go.ChangeAt Go.RowKit Go.Deep

theorem IsRow.nums {w : World} {a : Option Addr} {len cap : Nat} {zs : List Int} (h : IsRow .u64 w a len cap zs) : ∃ l : List Nat, SlU w (.slice a len cap) l ∧ l.length = len ∧ ∀ x ∈ l, x < 256 ^ 8 := by
  rcases h with ⟨rfl, rfl, rfl, rfl⟩ | ⟨x, rfl, hl, hm, hz, hc, hwf⟩
  · exact ⟨[], ⟨none, 0, rfl, Nat.zero_le _, ⟨Nat.le_refl _, fun _ => rfl⟩, fun i h => absurd h (by simp)⟩, rfl, by simp⟩
  · have hlen : ((zs.take len).map fun z => z.toNat).length = len := by simp; omega
    have hbd : ∀ z ∈ zs, 0 ≤ z ∧ z ≤ 18446744073709551615 := fun z hz => by
      have := bounds_u64 (hwf z hz)
      omega
    refine ⟨(zs.take len).map fun z => z.toNat, ?_, hlen, ?_⟩
    · refine ⟨some x, cap, by simp; omega, by simp; omega, ⟨by simp; omega, fun h => by cases h⟩, fun i hi => ?_⟩
      have hi2 : i < len := by simp at hi; omega
      have hcell := hc i (by omega)
      have hspot : x.spot = none := by
        cases hs : x.spot with
        | none => rfl
        | some s =>
          exfalso
          have h0 := hc 0 (by omega)
          rw [show x.add 0 = x from rfl] at h0
          unfold World.cell? at h0
          split at h0
          · rw [hs] at h0; simp at h0
          · cases h0
      refine ⟨x.block, x.off, by cases x; simp_all, ?_⟩
      have hx : x.add i = ⟨x.block, x.off + i, none⟩ := by
        unfold Addr.add
        split
        · rename_i h0; subst h0; cases x; simp_all
        · rfl
      rw [hx] at hcell
      rw [hcell]
      have he : zs.getD i 0 = zs[i]'(by omega) := by rw [List.getD_eq_getElem?_getD, List.getElem?_eq_getElem (by omega)]; rfl
      have hb := hbd (zs[i]'(by omega)) (List.getElem_mem _)
      rw [he]
      simp only [List.getElem_map, List.getElem_take, U]
      rw [Int.toNat_of_nonneg hb.1]
    · intro y hy
      obtain ⟨z, hz, rfl⟩ := List.mem_map.1 hy
      have := hbd z (List.mem_of_mem_take hz)
      omega

section
variable {H : Type} {enc : TypeId × Value → H} {w : World} {base : Nat}
theorem open_nums_cs {fuel : Nat} {cs : List Value} {x : DataW H × List MemPlace} (hf : DataW.trod enc Try.prog w 0 (fun _ => true) true fuel 22 cs = some x) : ∃ (v : Value) (l : List Nat), cs = [v] ∧ SlU w v l ∧ ∀ x ∈ l, x < 256 ^ 8 := by
  rcases open_ints Try.underlying22 Try.underlying46 (by kernel_rfl) hf with ⟨hcs, _⟩ | ⟨x, n, c, zs, hcs, _, hl, hm, hz, _, hcell, hwz⟩
  · exact ⟨_, [], hcs, ⟨none, 0, rfl, Nat.zero_le _, ⟨Nat.le_refl _, fun _ => rfl⟩, fun i h => absurd h (by simp)⟩, by simp⟩
  · have w0 : IsRow .u64 w (some x) n c zs := .inr ⟨_, rfl, hl, hm, by simpa using hz, hcell, hwz⟩
    obtain ⟨l, h, _, hb⟩ := w0.nums
    exact ⟨_, l, hcs, h, hb⟩

theorem open_rc {v : Value} {d : DataW H} {p : List MemPlace} (hv : Value.okWide Try.prog w .any base 24 v) (h : DataW.Trod enc Try.prog w 0 (fun _ => true) true 24 v d p) :
    ∃ (r : Rc) (dv : Value), v = r.val dv ∧ SlU w dv r.dirty ∧ ∀ x ∈ r.dirty, x < 256 ^ 8 := by
  obtain ⟨cs, rfl, hsz⟩ := okWide_struct Try.underlying24 hv
  have hC : Try.prog.cellsOf 24 = 8 := by kernel_rfl
  have hi : Try.prog.cellsOf 3 = 1 := by kernel_rfl
  have hs : Try.prog.cellsOf 9 = 1 := by kernel_rfl
  have hu : Try.prog.cellsOf 22 = 1 := by kernel_rfl
  obtain ⟨l⟩ := cs
  match l, hsz.trans hC with
  | [c0, c1, c2, c3, c4, c5, c6, c7], _ =>
    obtain ⟨fuel, hf⟩ := h
    obtain ⟨xs, n, _, _, _, hlen, hg⟩ := DataW.trod_struct Try.underlying24 hf
    have hl8 : xs.length = 8 := hlen
    have g0 : DataW.trod enc Try.prog w 0 (fun _ => true) true n 3 [c0] = xs[0]? := by
      have h0 : DataW.trod enc Try.prog w 0 (fun _ => true) true n 3 (([c0, c1, c2, c3, c4, c5, c6, c7].drop 0).take (Try.prog.cellsOf 3)) = xs[0]? := hg 0 _ rfl
      rw [hi] at h0
      exact h0
    have g1 : DataW.trod enc Try.prog w 0 (fun _ => true) true n 3 [c1] = xs[1]? := by
      have h0 : DataW.trod enc Try.prog w 0 (fun _ => true) true n 3 (([c0, c1, c2, c3, c4, c5, c6, c7].drop 1).take (Try.prog.cellsOf 3)) = xs[1]? := hg 1 _ rfl
      rw [hi] at h0
      exact h0
    have g2 : DataW.trod enc Try.prog w 0 (fun _ => true) true n 3 [c2] = xs[2]? := by
      have h0 : DataW.trod enc Try.prog w 0 (fun _ => true) true n 3 (([c0, c1, c2, c3, c4, c5, c6, c7].drop 2).take (Try.prog.cellsOf 3)) = xs[2]? := hg 2 _ rfl
      rw [hi] at h0
      exact h0
    have g3 : DataW.trod enc Try.prog w 0 (fun _ => true) true n 3 [c3] = xs[3]? := by
      have h0 : DataW.trod enc Try.prog w 0 (fun _ => true) true n 3 (([c0, c1, c2, c3, c4, c5, c6, c7].drop 3).take (Try.prog.cellsOf 3)) = xs[3]? := hg 3 _ rfl
      rw [hi] at h0
      exact h0
    have g4 : DataW.trod enc Try.prog w 0 (fun _ => true) true n 9 [c4] = xs[4]? := by
      have h0 : DataW.trod enc Try.prog w 0 (fun _ => true) true n 9 (([c0, c1, c2, c3, c4, c5, c6, c7].drop 4).take (Try.prog.cellsOf 9)) = xs[4]? := hg 4 _ rfl
      rw [hs] at h0
      exact h0
    have g5 : DataW.trod enc Try.prog w 0 (fun _ => true) true n 9 [c5] = xs[5]? := by
      have h0 : DataW.trod enc Try.prog w 0 (fun _ => true) true n 9 (([c0, c1, c2, c3, c4, c5, c6, c7].drop 5).take (Try.prog.cellsOf 9)) = xs[5]? := hg 5 _ rfl
      rw [hs] at h0
      exact h0
    have g6 : DataW.trod enc Try.prog w 0 (fun _ => true) true n 9 [c6] = xs[6]? := by
      have h0 : DataW.trod enc Try.prog w 0 (fun _ => true) true n 9 (([c0, c1, c2, c3, c4, c5, c6, c7].drop 6).take (Try.prog.cellsOf 9)) = xs[6]? := hg 6 _ rfl
      rw [hs] at h0
      exact h0
    have g7 : DataW.trod enc Try.prog w 0 (fun _ => true) true n 22 [c7] = xs[7]? := by
      have h0 : DataW.trod enc Try.prog w 0 (fun _ => true) true n 22 (([c0, c1, c2, c3, c4, c5, c6, c7].drop 7).take (Try.prog.cellsOf 22)) = xs[7]? := hg 7 _ rfl
      rw [hu] at h0
      exact h0
    rw [List.getElem?_eq_getElem (by omega)] at g0 g1 g2 g3 g4 g5 g6 g7
    obtain ⟨k, e0, _, _⟩ := DataW.trod_int Try.underlying3 g0
    obtain ⟨t, e1, _, _⟩ := DataW.trod_int Try.underlying3 g1
    obtain ⟨pg, e2, _, _⟩ := DataW.trod_int Try.underlying3 g2
    obtain ⟨sl, e3, _, _⟩ := DataW.trod_int Try.underlying3 g3
    obtain ⟨s1, e4, _, _⟩ := DataW.trod_string Try.underlying9 g4
    obtain ⟨s2, e5, _, _⟩ := DataW.trod_string Try.underlying9 g5
    obtain ⟨s3, e6, _, _⟩ := DataW.trod_string Try.underlying9 g6
    obtain ⟨dv, dl, e7, hd, hb⟩ := open_nums_cs g7
    simp only [List.cons.injEq, and_true] at e0 e1 e2 e3 e4 e5 e6 e7
    subst e0 e1 e2 e3 e4 e5 e6 e7
    exact ⟨⟨k, t, pg, sl, s1.data.toList, s2.data.toList, s3.data.toList, dl⟩, c7, by simp [Rc.val], hd, hb⟩
end
end Go.Proofs.Ytlihieefjlpadaa
