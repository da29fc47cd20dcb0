/- Requests among the arguments. -/
import Derived.Test.YtndndklaaegifaaReq
import Derived.Test.YtndndklaaegifaaSlC
namespace Go.Proofs.Ytndndklaaegifaa
open Go.Joins Go.ChangeShapes Go.WideShapes Go.ChangeAt Go.RowKit Go.Deep

section
variable {H : Type} {enc : TypeId × Value → H} {w : World} {base : Nat}
theorem open_bytes_cs {fuel : Nat} {cs : List Value} {x : DataW H × List MemPlace} (hf : DataW.trod enc Try.prog w 0 (fun _ => true) true fuel 26 cs = some x) : ∃ (v : Value) (l : List UInt8), cs = [v] ∧ SlB w v l := by
  rcases open_ints Try.underlying26 Try.underlying5 (by kernel_rfl) hf with ⟨hcs, _⟩ | ⟨x, n, c, zs, hcs, _, hl, hm, hz, _, hcell, hwz⟩
  · exact ⟨_, [], hcs, SlB.nil w⟩
  · have w0 : IsRow .u8 w (some x) n c zs := .inr ⟨_, rfl, hl, hm, by simpa using hz, hcell, hwz⟩
    obtain ⟨l, h, _⟩ := w0.bytes
    exact ⟨_, l, hcs, h⟩
theorem open_rq_cs {fuel : Nat} {cs : List Value} {x : DataW H × List MemPlace} (hsz : cs.length = 10) (hf : DataW.trod enc Try.prog w 0 (fun _ => true) true fuel 34 cs = some x) :
    ∃ (q : Rq) (dv : Value), cs = q.cells dv ∧ SlB w dv q.data ∧ q.mask < 256 ^ 8 := by
  have hi : Try.prog.cellsOf 3 = 1 := by kernel_rfl
  have hs : Try.prog.cellsOf 9 = 1 := by kernel_rfl
  have hr : Try.prog.cellsOf 31 = 3 := by kernel_rfl
  have hu : Try.prog.cellsOf 32 = 1 := by kernel_rfl
  have hb : Try.prog.cellsOf 26 = 1 := by kernel_rfl
  match cs, hsz with
  | [c0, c1, c2, c3, c4, c5, c6, c7, c8, c9], _ =>
    obtain ⟨xs, n, _, _, _, hlen, hg⟩ := DataW.trod_struct Try.underlying34 hf
    have hl8 : xs.length = 8 := hlen
    have g0 : DataW.trod enc Try.prog w 0 (fun _ => true) true n 3 [c0] = xs[0]? := by
      have h0 : DataW.trod enc Try.prog w 0 (fun _ => true) true n 3 (([c0, c1, c2, c3, c4, c5, c6, c7, c8, c9].drop 0).take (Try.prog.cellsOf 3)) = xs[0]? := hg 0 _ rfl
      rw [hi] at h0
      exact h0
    have g1 : DataW.trod enc Try.prog w 0 (fun _ => true) true n 3 [c1] = xs[1]? := by
      have h0 : DataW.trod enc Try.prog w 0 (fun _ => true) true n 3 (([c0, c1, c2, c3, c4, c5, c6, c7, c8, c9].drop 1).take (Try.prog.cellsOf 3)) = xs[1]? := hg 1 _ rfl
      rw [hi] at h0
      exact h0
    have g2 : DataW.trod enc Try.prog w 0 (fun _ => true) true n 3 [c2] = xs[2]? := by
      have h0 : DataW.trod enc Try.prog w 0 (fun _ => true) true n 3 (([c0, c1, c2, c3, c4, c5, c6, c7, c8, c9].drop 2).take (Try.prog.cellsOf 3)) = xs[2]? := hg 2 _ rfl
      rw [hi] at h0
      exact h0
    have g3 : DataW.trod enc Try.prog w 0 (fun _ => true) true n 31 [c3, c4, c5] = xs[3]? := by
      have h0 : DataW.trod enc Try.prog w 0 (fun _ => true) true n 31 (([c0, c1, c2, c3, c4, c5, c6, c7, c8, c9].drop 3).take (Try.prog.cellsOf 31)) = xs[3]? := hg 3 _ rfl
      rw [hr] at h0
      exact h0
    have g4 : DataW.trod enc Try.prog w 0 (fun _ => true) true n 9 [c6] = xs[4]? := by
      have h0 : DataW.trod enc Try.prog w 0 (fun _ => true) true n 9 (([c0, c1, c2, c3, c4, c5, c6, c7, c8, c9].drop 6).take (Try.prog.cellsOf 9)) = xs[4]? := hg 4 _ rfl
      rw [hs] at h0
      exact h0
    have g5 : DataW.trod enc Try.prog w 0 (fun _ => true) true n 3 [c7] = xs[5]? := by
      have h0 : DataW.trod enc Try.prog w 0 (fun _ => true) true n 3 (([c0, c1, c2, c3, c4, c5, c6, c7, c8, c9].drop 7).take (Try.prog.cellsOf 3)) = xs[5]? := hg 5 _ rfl
      rw [hi] at h0
      exact h0
    have g6 : DataW.trod enc Try.prog w 0 (fun _ => true) true n 32 [c8] = xs[6]? := by
      have h0 : DataW.trod enc Try.prog w 0 (fun _ => true) true n 32 (([c0, c1, c2, c3, c4, c5, c6, c7, c8, c9].drop 8).take (Try.prog.cellsOf 32)) = xs[6]? := hg 6 _ rfl
      rw [hu] at h0
      exact h0
    have g7 : DataW.trod enc Try.prog w 0 (fun _ => true) true n 26 [c9] = xs[7]? := by
      have h0 : DataW.trod enc Try.prog w 0 (fun _ => true) true n 26 (([c0, c1, c2, c3, c4, c5, c6, c7, c8, c9].drop 9).take (Try.prog.cellsOf 26)) = xs[7]? := hg 7 _ rfl
      rw [hb] at h0
      exact h0
    rw [List.getElem?_eq_getElem (by omega)] at g0 g1 g2 g3 g4 g5 g6 g7
    obtain ⟨ys, m, _, _, _, hlen2, hg2⟩ := DataW.trod_struct Try.underlying31 g3
    have hl3 : ys.length = 3 := hlen2
    have r0 : DataW.trod enc Try.prog w 0 (fun _ => true) true m 3 [c3] = ys[0]? := by
      have h0 : DataW.trod enc Try.prog w 0 (fun _ => true) true m 3 (([c3, c4, c5].drop 0).take (Try.prog.cellsOf 3)) = ys[0]? := hg2 0 _ rfl
      rw [hi] at h0
      exact h0
    have r1 : DataW.trod enc Try.prog w 0 (fun _ => true) true m 9 [c4] = ys[1]? := by
      have h0 : DataW.trod enc Try.prog w 0 (fun _ => true) true m 9 (([c3, c4, c5].drop 1).take (Try.prog.cellsOf 9)) = ys[1]? := hg2 1 _ rfl
      rw [hs] at h0
      exact h0
    have r2 : DataW.trod enc Try.prog w 0 (fun _ => true) true m 9 [c5] = ys[2]? := by
      have h0 : DataW.trod enc Try.prog w 0 (fun _ => true) true m 9 (([c3, c4, c5].drop 2).take (Try.prog.cellsOf 9)) = ys[2]? := hg2 2 _ rfl
      rw [hs] at h0
      exact h0
    rw [List.getElem?_eq_getElem (by omega)] at r0 r1 r2
    obtain ⟨z0, e0, _, _⟩ := DataW.trod_int Try.underlying3 g0
    obtain ⟨z1, e1, _, _⟩ := DataW.trod_int Try.underlying3 g1
    obtain ⟨z2, e2, _, _⟩ := DataW.trod_int Try.underlying3 g2
    obtain ⟨z3, e3, _, _⟩ := DataW.trod_int Try.underlying3 r0
    obtain ⟨s4, e4, _, _⟩ := DataW.trod_string Try.underlying9 r1
    obtain ⟨s5, e5, _, _⟩ := DataW.trod_string Try.underlying9 r2
    obtain ⟨s6, e6, _, _⟩ := DataW.trod_string Try.underlying9 g4
    obtain ⟨z7, e7, _, _⟩ := DataW.trod_int Try.underlying3 g5
    obtain ⟨z8, e8, _, w8⟩ := DataW.trod_int Try.underlying32 g6
    obtain ⟨dv, dl, e9, hd⟩ := open_bytes_cs g7
    simp only [List.cons.injEq, and_true] at e0 e1 e2 e3 e4 e5 e6 e7 e8 e9
    subst e0 e1 e2 e3 e4 e5 e6 e7 e8 e9
    have hm := bounds_u64 w8
    refine ⟨⟨z0, z1, z2, z3, s4.data.toList, s5.data.toList, s6.data.toList, z7, z8.toNat, dl⟩, c9, ?_, hd, ?_⟩
    · simp [Rq.cells, Int.toNat_of_nonneg hm.1]
    · show z8.toNat < 256 ^ 8
      omega
theorem open_rq {v : Value} {d : DataW H} {p : List MemPlace} (hv : Value.okWide Try.prog w .any base 34 v) (h : DataW.Trod enc Try.prog w 0 (fun _ => true) true 34 v d p) :
    ∃ (q : Rq) (dv : Value), v = .agg (q.cells dv).toArray ∧ SlB w dv q.data ∧ q.mask < 256 ^ 8 := by
  obtain ⟨cs, rfl, hsz⟩ := okWide_struct Try.underlying34 hv
  have hC : Try.prog.cellsOf 34 = 10 := by kernel_rfl
  obtain ⟨fuel, hf⟩ := h
  obtain ⟨q, dv, e, h1, h2⟩ := open_rq_cs (cs := cs.toList) (by simpa using hsz.trans hC) hf
  refine ⟨q, dv, ?_, h1, h2⟩
  obtain ⟨l⟩ := cs
  simp only at e
  rw [e]
theorem open_reqs {v : Value} {d : DataW H} {p : List MemPlace} (hv : Value.okWide Try.prog w .any base 22 v) (h : DataW.Trod enc Try.prog w 0 (fun _ => true) true 22 v d p) :
    ∃ qs : List Rq, SlQ w v qs ∧ ∀ q ∈ qs, q.mask < 256 ^ 8 := by
  obtain ⟨a0, len0, cap0, rfl⟩ := okWide_slice Try.underlying22 hv
  obtain ⟨fuel, hf⟩ := h
  obtain ⟨v, css, hc, hs, hel⟩ := slc_of_trod (P := Try.prog) (k := 10) Try.underlying22 (by kernel_rfl) (by decide) hf
  simp [Value.cells] at hc
  rw [hc]
  have hall : ∀ i, ∃ q : Rq, (h : i < css.length) → (∃ dv, css[i] = q.cells dv ∧ SlB w dv q.data) ∧ q.mask < 256 ^ 8 := by
    intro i
    by_cases hi : i < css.length
    · obtain ⟨hl, fuel', x', hx⟩ := hel css[i] (List.getElem_mem _)
      obtain ⟨q, dv, e, h1, h2⟩ := open_rq_cs hl hx
      exact ⟨q, fun _ => ⟨⟨dv, e, h1⟩, h2⟩⟩
    · exact ⟨badQ, fun h => absurd h hi⟩
  let f := fun i => Classical.choose (hall i)
  have hsp : ∀ i (h : i < css.length), (∃ dv, css[i] = (f i).cells dv ∧ SlB w dv (f i).data) ∧ (f i).mask < 256 ^ 8 := fun i => Classical.choose_spec (hall i)
  refine ⟨(List.range css.length).map f, ⟨css, hs, by simp, fun i hi hi' => ?_⟩, fun q hq => ?_⟩
  · rw [List.getElem_map, List.getElem_range]
    exact (hsp i hi).1
  · obtain ⟨i, hi, rfl⟩ := List.mem_map.1 hq
    exact (hsp i (List.mem_range.1 hi)).2
end
end Go.Proofs.Ytndndklaaegifaa
