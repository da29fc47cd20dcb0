/- A row among the arguments. -/
import Derived.Test.YtdnmddfnlkaahaaRwV
import Derived.Test.YtdnmddfnlkaahaaOpen
import Derived.Lib.SmallJoins
namespace Go.Proofs.Ytdnmddfnlkaahaa
open Go.Joins Go.ChangeShapes Go.WideShapes Go.ChangeAt Go.RowKit Go.Deep

section
variable {H : Type} {enc : TypeId × Value → H} {w : World} {base : Nat}
theorem open_rw {v : Value} {d : DataW H} {p : List MemPlace} (hv : Value.okWide Try.prog w .any base 24 v) (h : DataW.Trod enc Try.prog w 0 (fun _ => true) true 24 v d p) :
    ∃ r : Rw, v = r.val ∧ r.k.length ≤ 9223372036854775807 ∧ r.v.length ≤ 9223372036854775807 ∧ -9223372036854775808 ≤ r.t ∧ r.t ≤ 9223372036854775807 := by
  obtain ⟨v0, v1, v2, y0, y1, y2, n, rfl, _, _, h0, h1, h2⟩ := open_agg3 Try.underlying24 (by kernel_rfl) (by kernel_rfl) hv h
  obtain ⟨t, e0, _, w0⟩ := DataW.trod_int Try.underlying3 h0
  obtain ⟨s1, e1, _, l1⟩ := DataW.trod_string Try.underlying9 h1
  obtain ⟨s2, e2, _, l2⟩ := DataW.trod_string Try.underlying9 h2
  simp only [List.cons.injEq, and_true] at e0 e1 e2
  subst e0 e1 e2
  have hb := bounds_i64 w0
  refine ⟨⟨t, s1.data.toList, s2.data.toList⟩, by simp [Rw.val, strV], ?_, ?_, hb.1, hb.2⟩
  · show s1.data.toList.length ≤ _
    rw [Array.length_toList]; exact l1
  · show s2.data.toList.length ≤ _
    rw [Array.length_toList]; exact l2
end
end Go.Proofs.Ytdnmddfnlkaahaa
