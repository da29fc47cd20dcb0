/- A seed of a record among the arguments. -/
import Derived.Test.YtlihieefjlpadaaOpenRec
import Derived.Test.YtlihieefjlpadaaSeed
import Derived.OpenShut
namespace Go.Proofs.Ytlihieefjlpadaa
open Go.Joins Go.ChangeShapes Go.WideShapes Go.ChangeAt Go.RowKit Go.Deep

def Sd.val (s : Sd) (dv : Value) : Value := .agg #[.int .i64 s.k, .int .i64 s.t, .int .i64 s.p, .int .i64 s.s, .int .u8 (s.b.toNat : Int), .int .u8 (s.a.toNat : Int), .int .u8 (s.i.toNat : Int), dv]
theorem u8_of {z : Int} (h : (Lit.int .u8 z).wf = true) : ∃ b : UInt8, (b.toNat : Int) = z := by
  have := bounds_u8 h
  refine ⟨UInt8.ofNat z.toNat, ?_⟩
  rw [UInt8.toNat_ofNat']
  omega
section
variable {H : Type} {enc : TypeId × Value → H} {w : World} {base : Nat}
theorem open_sd_cs {fuel : Nat} {cs : List Value} {x : DataW H × List MemPlace} (hsz : cs.length = 8) (hf : DataW.trod enc Try.prog w 0 (fun _ => true) true fuel 28 cs = some x) :
    ∃ (s : Sd) (dv : Value), cs = [.int .i64 s.k, .int .i64 s.t, .int .i64 s.p, .int .i64 s.s, .int .u8 (s.b.toNat : Int), .int .u8 (s.a.toNat : Int), .int .u8 (s.i.toNat : Int), dv] ∧ SlU w dv s.d ∧ ∀ x ∈ s.d, x < 256 ^ 8 := by
  have hi : Try.prog.cellsOf 3 = 1 := by kernel_rfl
  have hs : Try.prog.cellsOf 5 = 1 := by kernel_rfl
  have hu : Try.prog.cellsOf 22 = 1 := by kernel_rfl
  match cs, hsz with
  | [c0, c1, c2, c3, c4, c5, c6, c7], _ =>
    obtain ⟨xs, n, _, _, _, hlen, hg⟩ := DataW.trod_struct Try.underlying28 hf
    have hl8 : xs.length = 8 := hlen
    have g0 : DataW.trod enc Try.prog w 0 (fun _ => true) true n 3 [c0] = xs[0]? := by
      have h0 : DataW.trod enc Try.prog w 0 (fun _ => true) true n 3 (([c0, c1, c2, c3, c4, c5, c6, c7].drop 0).take (Try.prog.cellsOf 3)) = xs[0]? := hg 0 _ rfl
      rw [hi] at h0
      exact h0
    have g1 : DataW.trod enc Try.prog w 0 (fun _ => true) true n 3 [c1] = xs[1]? := by
      have h0 : DataW.trod enc Try.prog w 0 (fun _ => true) true n 3 (([c0, c1, c2, c3, c4, c5, c6, c7].drop 1).take (Try.prog.cellsOf 3)) = xs[1]? := hg 1 _ rfl
      rw [hi] at h0
      exact h0
    have g2 : DataW.trod enc Try.prog w 0 (fun _ => true) true n 3 [c2] = xs[2]? := by
      have h0 : DataW.trod enc Try.prog w 0 (fun _ => true) true n 3 (([c0, c1, c2, c3, c4, c5, c6, c7].drop 2).take (Try.prog.cellsOf 3)) = xs[2]? := hg 2 _ rfl
      rw [hi] at h0
      exact h0
    have g3 : DataW.trod enc Try.prog w 0 (fun _ => true) true n 3 [c3] = xs[3]? := by
      have h0 : DataW.trod enc Try.prog w 0 (fun _ => true) true n 3 (([c0, c1, c2, c3, c4, c5, c6, c7].drop 3).take (Try.prog.cellsOf 3)) = xs[3]? := hg 3 _ rfl
      rw [hi] at h0
      exact h0
    have g4 : DataW.trod enc Try.prog w 0 (fun _ => true) true n 5 [c4] = xs[4]? := by
      have h0 : DataW.trod enc Try.prog w 0 (fun _ => true) true n 5 (([c0, c1, c2, c3, c4, c5, c6, c7].drop 4).take (Try.prog.cellsOf 5)) = xs[4]? := hg 4 _ rfl
      rw [hs] at h0
      exact h0
    have g5 : DataW.trod enc Try.prog w 0 (fun _ => true) true n 5 [c5] = xs[5]? := by
      have h0 : DataW.trod enc Try.prog w 0 (fun _ => true) true n 5 (([c0, c1, c2, c3, c4, c5, c6, c7].drop 5).take (Try.prog.cellsOf 5)) = xs[5]? := hg 5 _ rfl
      rw [hs] at h0
      exact h0
    have g6 : DataW.trod enc Try.prog w 0 (fun _ => true) true n 5 [c6] = xs[6]? := by
      have h0 : DataW.trod enc Try.prog w 0 (fun _ => true) true n 5 (([c0, c1, c2, c3, c4, c5, c6, c7].drop 6).take (Try.prog.cellsOf 5)) = xs[6]? := hg 6 _ rfl
      rw [hs] at h0
      exact h0
    have g7 : DataW.trod enc Try.prog w 0 (fun _ => true) true n 22 [c7] = xs[7]? := by
      have h0 : DataW.trod enc Try.prog w 0 (fun _ => true) true n 22 (([c0, c1, c2, c3, c4, c5, c6, c7].drop 7).take (Try.prog.cellsOf 22)) = xs[7]? := hg 7 _ rfl
      rw [hu] at h0
      exact h0
    rw [List.getElem?_eq_getElem (by omega)] at g0 g1 g2 g3 g4 g5 g6 g7
    obtain ⟨z0, e0, _, b0⟩ := DataW.trod_int Try.underlying3 g0
    obtain ⟨z1, e1, _, b1⟩ := DataW.trod_int Try.underlying3 g1
    obtain ⟨z2, e2, _, b2⟩ := DataW.trod_int Try.underlying3 g2
    obtain ⟨z3, e3, _, b3⟩ := DataW.trod_int Try.underlying3 g3
    obtain ⟨z4, e4, _, b4⟩ := DataW.trod_int Try.underlying5 g4
    obtain ⟨z5, e5, _, b5⟩ := DataW.trod_int Try.underlying5 g5
    obtain ⟨z6, e6, _, b6⟩ := DataW.trod_int Try.underlying5 g6
    obtain ⟨y4, rfl⟩ := u8_of b4
    obtain ⟨y5, rfl⟩ := u8_of b5
    obtain ⟨y6, rfl⟩ := u8_of b6
    obtain ⟨dv, dl, e7, hd, hb⟩ := open_nums_cs g7
    simp only [List.cons.injEq, and_true] at e0 e1 e2 e3 e4 e5 e6 e7
    subst e0 e1 e2 e3 e4 e5 e6 e7
    exact ⟨⟨z0, z1, z2, z3, y4, y5, y6, dl⟩, c7, rfl, hd, hb⟩
theorem open_sd {v : Value} {d : DataW H} {p : List MemPlace} (hv : Value.okWide Try.prog w .any base 28 v) (h : DataW.Trod enc Try.prog w 0 (fun _ => true) true 28 v d p) :
    ∃ (s : Sd) (dv : Value), v = s.val dv ∧ SlU w dv s.d ∧ ∀ x ∈ s.d, x < 256 ^ 8 := by
  obtain ⟨cs, rfl, hsz⟩ := okWide_struct Try.underlying28 hv
  have hC : Try.prog.cellsOf 28 = 8 := by kernel_rfl
  obtain ⟨fuel, hf⟩ := h
  obtain ⟨s, dv, e, h1, h2⟩ := open_sd_cs (cs := cs.toList) (by simpa using hsz.trans hC) hf
  refine ⟨s, dv, ?_, h1, h2⟩
  obtain ⟨l⟩ := cs
  simp only at e
  rw [e]
  rfl
end
end Go.Proofs.Ytlihieefjlpadaa
