/- Calls among the arguments. -/
import Derived.Test.YtnbadlhkcpjjmaaFit03
namespace Go.Proofs.Ytnbadlhkcpjjmaa
open Go.Joins Go.ChangeShapes Go.WideShapes Go.ChangeAt Go.RowKit Go.Deep Go

/-- a call -/
structure Cl where
  kind : Int
  r : Int
  s : Int
  data : List UInt8
  mask : Nat
/-- its numbers are numbers -/
structure Cl.Ok (c : Cl) : Prop where
  k : -9223372036854775808 ≤ c.kind ∧ c.kind ≤ 9223372036854775807
  r : -9223372036854775808 ≤ c.r ∧ c.r ≤ 9223372036854775807
  s : -9223372036854775808 ≤ c.s ∧ c.s ≤ 9223372036854775807
  m : c.mask < 18446744073709551616
def Cl.cells (c : Cl) (dv : Value) : List Value := [.int .i64 c.kind, .int .i64 c.r, .int .i64 c.s, dv, .int .u64 (c.mask : Int)]
def SlCl (w : World) (v : Value) (cs : List Cl) : Prop :=
  ∃ css, SlC w v 5 css ∧ css.length = cs.length ∧ ∀ i (h : i < css.length) (h' : i < cs.length), ∃ dv, css[i] = cs[i].cells dv ∧ SlB w dv cs[i].data
theorem SlCl.keep {w w' : World} (hk : Keep w w') {v : Value} {cs : List Cl} (h : SlCl w v cs) : SlCl w' v cs := by
  obtain ⟨css, h1, h2, h3⟩ := h
  exact ⟨css, h1.keep hk, h2, fun i h h' => by
    obtain ⟨dv, e, hd⟩ := h3 i h h'
    exact ⟨dv, e, hd.keep hk⟩⟩
theorem SlCl.form {w : World} {v : Value} {cs : List Cl} (h : SlCl w v cs) : ∃ ao cap, v = .slice ao cs.length cap ∧ cs.length ≤ maxLen ∧ cs.length ≤ cap := by
  obtain ⟨css, h1, h2, _⟩ := h
  rw [← h2]
  exact h1.form
theorem SlCl.elem {w : World} {ao : Option Addr} {n cap : Nat} {cs : List Cl} (h : SlCl w (.slice ao n cap) cs) (i : Nat) (hi : i < cs.length) : ∃ b off, ao = some ⟨b, off, none⟩ ∧ ∃ dv, SlB w dv cs[i].data ∧ w.cell? ⟨b, off + i * 5, none⟩ = some (.int .i64 cs[i].kind) ∧ w.cell? ⟨b, off + i * 5 + 1, none⟩ = some (.int .i64 cs[i].r) ∧ w.cell? ⟨b, off + i * 5 + 2, none⟩ = some (.int .i64 cs[i].s) ∧ w.cell? ⟨b, off + i * 5 + 3, none⟩ = some dv ∧ w.cell? ⟨b, off + i * 5 + 4, none⟩ = some (.int .u64 (cs[i].mask : Int)) := by
  obtain ⟨css, h1, h2, h3⟩ := h
  obtain ⟨b, off, ha, hc⟩ := h1.cells (by omega)
  obtain ⟨dv, e, hd⟩ := h3 i (by omega) hi
  have hall : ∀ j c, (cs[i].cells dv)[j]? = some c → w.cell? ⟨b, off + i * 5 + j, none⟩ = some c := fun j c hj => hc i (by omega) j c (by rw [e]; exact hj)
  exact ⟨b, off, ha, dv, hd, hall 0 _ rfl, hall 1 _ rfl, hall 2 _ rfl, hall 3 _ rfl, hall 4 _ rfl⟩
def badCl : Cl := ⟨0, 0, 0, [], 0⟩
section
variable {H : Type} {enc : TypeId × Value → H} {w : World} {base : Nat}
theorem open_bytes_cs {fuel : Nat} {cs : List Value} {x : DataW H × List MemPlace} (hf : DataW.trod enc Try.prog w 0 (fun _ => true) true fuel 27 cs = some x) : ∃ (v : Value) (l : List UInt8), cs = [v] ∧ SlB w v l := by
  rcases open_ints Try.underlying27 Try.underlying5 (by kernel_rfl) hf with ⟨hcs, _⟩ | ⟨x, n, c, zs, hcs, _, hl, hm, hz, _, hcell, hwz⟩
  · exact ⟨_, [], hcs, SlB.nil w⟩
  · have w0 : IsRow .u8 w (some x) n c zs := .inr ⟨_, rfl, hl, hm, by simpa using hz, hcell, hwz⟩
    obtain ⟨l, h, _⟩ := w0.bytes
    exact ⟨_, l, hcs, h⟩
theorem open_cl_cs {fuel : Nat} {cs : List Value} {x : DataW H × List MemPlace} (hsz : cs.length = 5) (hf : DataW.trod enc Try.prog w 0 (fun _ => true) true fuel 37 cs = some x) :
    ∃ (q : Cl) (dv : Value), cs = q.cells dv ∧ SlB w dv q.data ∧ q.Ok := by
  have hi : Try.prog.cellsOf 3 = 1 := by kernel_rfl
  have hu : Try.prog.cellsOf 23 = 1 := by kernel_rfl
  have hb : Try.prog.cellsOf 27 = 1 := by kernel_rfl
  match cs, hsz with
  | [c0, c1, c2, c3, c4], _ =>
    obtain ⟨xs, n, _, _, _, hlen, hg⟩ := DataW.trod_struct Try.underlying37 hf
    have hl8 : xs.length = 5 := hlen
    have g0 : DataW.trod enc Try.prog w 0 (fun _ => true) true n 3 [c0] = xs[0]? := by
      have h0 : DataW.trod enc Try.prog w 0 (fun _ => true) true n 3 (([c0, c1, c2, c3, c4].drop 0).take (Try.prog.cellsOf 3)) = xs[0]? := hg 0 _ rfl
      rw [hi] at h0
      exact h0
    have g1 : DataW.trod enc Try.prog w 0 (fun _ => true) true n 3 [c1] = xs[1]? := by
      have h0 : DataW.trod enc Try.prog w 0 (fun _ => true) true n 3 (([c0, c1, c2, c3, c4].drop 1).take (Try.prog.cellsOf 3)) = xs[1]? := hg 1 _ rfl
      rw [hi] at h0
      exact h0
    have g2 : DataW.trod enc Try.prog w 0 (fun _ => true) true n 3 [c2] = xs[2]? := by
      have h0 : DataW.trod enc Try.prog w 0 (fun _ => true) true n 3 (([c0, c1, c2, c3, c4].drop 2).take (Try.prog.cellsOf 3)) = xs[2]? := hg 2 _ rfl
      rw [hi] at h0
      exact h0
    have g3 : DataW.trod enc Try.prog w 0 (fun _ => true) true n 27 [c3] = xs[3]? := by
      have h0 : DataW.trod enc Try.prog w 0 (fun _ => true) true n 27 (([c0, c1, c2, c3, c4].drop 3).take (Try.prog.cellsOf 27)) = xs[3]? := hg 3 _ rfl
      rw [hb] at h0
      exact h0
    have g4 : DataW.trod enc Try.prog w 0 (fun _ => true) true n 23 [c4] = xs[4]? := by
      have h0 : DataW.trod enc Try.prog w 0 (fun _ => true) true n 23 (([c0, c1, c2, c3, c4].drop 4).take (Try.prog.cellsOf 23)) = xs[4]? := hg 4 _ rfl
      rw [hu] at h0
      exact h0
    rw [List.getElem?_eq_getElem (by omega)] at g0 g1 g2 g3 g4
    obtain ⟨z0, e0, _, w0⟩ := DataW.trod_int Try.underlying3 g0
    obtain ⟨z1, e1, _, w1⟩ := DataW.trod_int Try.underlying3 g1
    obtain ⟨z2, e2, _, w2⟩ := DataW.trod_int Try.underlying3 g2
    obtain ⟨dv, dl, e3, hd⟩ := open_bytes_cs g3
    obtain ⟨z4, e4, _, w4⟩ := DataW.trod_int Try.underlying23 g4
    simp only [List.cons.injEq, and_true] at e0 e1 e2 e3 e4
    subst e0 e1 e2 e3 e4
    have hm := bounds_u64 w4
    refine ⟨⟨z0, z1, z2, dl, z4.toNat⟩, c3, ?_, hd, bounds_i64 w0, bounds_i64 w1, bounds_i64 w2, by simp only; omega⟩
    simp [Cl.cells, Int.toNat_of_nonneg hm.1]
theorem open_cls {v : Value} {d : DataW H} {p : List MemPlace} (hv : Value.okWide Try.prog w .any base 35 v) (h : DataW.Trod enc Try.prog w 0 (fun _ => true) true 35 v d p) :
    ∃ qs : List Cl, SlCl w v qs ∧ ∀ q ∈ qs, q.Ok := by
  obtain ⟨a0, len0, cap0, rfl⟩ := okWide_slice Try.underlying35 hv
  obtain ⟨fuel, hf⟩ := h
  obtain ⟨v, css, hc, hs, hel⟩ := slc_of_trod (P := Try.prog) (k := 5) Try.underlying35 (by kernel_rfl) (by decide) hf
  simp [Value.cells] at hc
  rw [hc]
  have hall : ∀ i, ∃ q : Cl, (h : i < css.length) → (∃ dv, css[i] = q.cells dv ∧ SlB w dv q.data) ∧ q.Ok := by
    intro i
    by_cases hi : i < css.length
    · obtain ⟨hl, fuel', x', hx⟩ := hel css[i] (List.getElem_mem _)
      obtain ⟨q, dv, e, h1, h2⟩ := open_cl_cs hl hx
      exact ⟨q, fun _ => ⟨⟨dv, e, h1⟩, h2⟩⟩
    · exact ⟨badCl, fun h => absurd h hi⟩
  let f := fun i => Classical.choose (hall i)
  have hsp : ∀ i (h : i < css.length), (∃ dv, css[i] = (f i).cells dv ∧ SlB w dv (f i).data) ∧ (f i).Ok := fun i => Classical.choose_spec (hall i)
  refine ⟨(List.range css.length).map f, ⟨css, hs, by simp, fun i hi hi' => ?_⟩, fun q hq => ?_⟩
  · rw [List.getElem_map, List.getElem_range]
    exact (hsp i hi).1
  · obtain ⟨i, hi, rfl⟩ := List.mem_map.1 hq
    exact (hsp i (List.mem_range.1 hi)).2
end
end Go.Proofs.Ytnbadlhkcpjjmaa
