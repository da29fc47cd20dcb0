/- Slices of seeds. -/
import Derived.Test.YtlihieefjlpadaaOpenSd
import Derived.Test.YtlihieefjlpadaaSlC
namespace Go.Proofs.Ytlihieefjlpadaa
open Go.Joins Go.ChangeShapes Go.WideShapes Go.ChangeAt Go.RowKit Go.Deep

def Sd.cells (s : Sd) (dv : Value) : List Value := [.int .i64 s.k, .int .i64 s.t, .int .i64 s.p, .int .i64 s.s, .int .u8 (s.b.toNat : Int), .int .u8 (s.a.toNat : Int), .int .u8 (s.i.toNat : Int), dv]
/-- v is a slice of seeds -/
def SlSd (w : World) (v : Value) (ss : List Sd) : Prop := ∃ css, SlC w v 8 css ∧ css.length = ss.length ∧ ∀ i (h : i < css.length) (h' : i < ss.length), ∃ dv, css[i] = ss[i].cells dv ∧ SlU w dv ss[i].d
theorem SlSd.keep {w w' : World} (hk : Keep w w') {v : Value} {ss : List Sd} (h : SlSd w v ss) : SlSd w' v ss := by
  obtain ⟨css, h1, h2, h3⟩ := h
  exact ⟨css, h1.keep hk, h2, fun i h h' => by
    obtain ⟨dv, e, hd⟩ := h3 i h h'
    exact ⟨dv, e, hd.keep hk⟩⟩
theorem SlSd.form {w : World} {v : Value} {ss : List Sd} (h : SlSd w v ss) : ∃ ao cap, v = .slice ao ss.length cap ∧ ss.length ≤ maxLen ∧ ss.length ≤ cap := by
  obtain ⟨css, h1, h2, _⟩ := h
  rw [← h2]
  exact h1.form
theorem SlSd.elem {w : World} {ao : Option Addr} {n cap : Nat} {ss : List Sd} (h : SlSd w (.slice ao n cap) ss) (i : Nat) (hi : i < ss.length) : ∃ b off, ao = some ⟨b, off, none⟩ ∧ ∃ dv, SlU w dv ss[i].d ∧ ∀ j c, (ss[i].cells dv)[j]? = some c → w.cell? ⟨b, off + i * 8 + j, none⟩ = some c := by
  obtain ⟨css, h1, h2, h3⟩ := h
  obtain ⟨b, off, ha, hc⟩ := h1.cells (by omega)
  obtain ⟨dv, e, hd⟩ := h3 i (by omega) hi
  exact ⟨b, off, ha, dv, hd, fun j c hj => hc i (by omega) j c (by rw [e]; exact hj)⟩
section
variable {H : Type} {enc : TypeId × Value → H} {w : World} {base : Nat}
theorem open_sds {v : Value} {d : DataW H} {p : List MemPlace} (hv : Value.okWide Try.prog w .any base 40 v) (h : DataW.Trod enc Try.prog w 0 (fun _ => true) true 40 v d p) :
    ∃ ss : List Sd, SlSd w v ss ∧ ∀ s ∈ ss, ∀ x ∈ s.d, x < 256 ^ 8 := by
  obtain ⟨a0, len0, cap0, rfl⟩ := okWide_slice Try.underlying40 hv
  obtain ⟨fuel, hf⟩ := h
  obtain ⟨v, css, hc, hs, hel⟩ := slc_of_trod (P := Try.prog) (k := 8) Try.underlying40 (by kernel_rfl) (by decide) hf
  simp [Value.cells] at hc
  rw [hc]
  have hall : ∀ i, ∃ s : Sd, (h : i < css.length) → (∃ dv, css[i] = s.cells dv ∧ SlU w dv s.d) ∧ ∀ x ∈ s.d, x < 256 ^ 8 := by
    intro i
    by_cases hi : i < css.length
    · obtain ⟨hl, fuel', x', hx⟩ := hel css[i] (List.getElem_mem _)
      obtain ⟨s, dv, e, h1, h2⟩ := open_sd_cs hl hx
      exact ⟨s, fun _ => ⟨⟨dv, e, h1⟩, h2⟩⟩
    · exact ⟨⟨0, 0, 0, 0, 0, 0, 0, []⟩, fun h => absurd h hi⟩
  let f := fun i => Classical.choose (hall i)
  have hsp : ∀ i (h : i < css.length), (∃ dv, css[i] = (f i).cells dv ∧ SlU w dv (f i).d) ∧ ∀ x ∈ (f i).d, x < 256 ^ 8 := fun i => Classical.choose_spec (hall i)
  refine ⟨(List.range css.length).map f, ⟨css, hs, by simp, fun i hi hi' => ?_⟩, fun s hs => ?_⟩
  · rw [List.getElem_map, List.getElem_range]
    exact (hsp i hi).1
  · obtain ⟨i, hi, rfl⟩ := List.mem_map.1 hs
    exact (hsp i (List.mem_range.1 hi)).2
end
end Go.Proofs.Ytlihieefjlpadaa
