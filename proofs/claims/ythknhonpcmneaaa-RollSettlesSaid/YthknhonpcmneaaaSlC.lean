/- Slices whose elements have several cells. -/
import Derived.Test.YthknhonpcmneaaaOpen
import Derived.Lib.SmallJoins
namespace Go.Proofs.Ythknhonpcmneaaa
open Go.Joins Go.ChangeShapes Go.WideShapes Go.ChangeAt Go.RowKit Go.Deep

/-- v is a slice whose elements, of k cells each, are css -/
def SlC (w : World) (v : Value) (k : Nat) (css : List (List Value)) : Prop :=
  ∃ ao cap, v = .slice ao css.length cap ∧ css.length ≤ maxLen ∧ (css.length ≤ cap ∧ (ao = none → cap = 0)) ∧
    ∀ i (h : i < css.length), ∃ b off, ao = some ⟨b, off, none⟩ ∧ ∀ j c, css[i][j]? = some c → w.cell? ⟨b, off + i * k + j, none⟩ = some c

theorem SlC.keep {w w' : World} (hk : Keep w w') {v : Value} {k : Nat} {css : List (List Value)} (h : SlC w v k css) : SlC w' v k css := by
  obtain ⟨ao, cap, hv, hm, hcap, hc⟩ := h
  refine ⟨ao, cap, hv, hm, hcap, fun i hi => ?_⟩
  obtain ⟨b, off, ha, hcell⟩ := hc i hi
  exact ⟨b, off, ha, fun j c hj => by
    have := hcell j c hj
    exact (hk.cell (World.block_lt_of_cell? w _ this)).trans this⟩
theorem SlC.nil (w : World) (k : Nat) : SlC w (.slice none 0 0) k [] := ⟨none, 0, rfl, Nat.zero_le _, ⟨Nat.le_refl _, fun _ => rfl⟩, fun i h => absurd h (by simp)⟩
theorem SlC.form {w : World} {v : Value} {k : Nat} {css : List (List Value)} (h : SlC w v k css) : ∃ ao cap, v = .slice ao css.length cap ∧ css.length ≤ maxLen ∧ css.length ≤ cap := by
  obtain ⟨ao, cap, hv, hm, hcap, _⟩ := h
  exact ⟨ao, cap, hv, hm, hcap.1⟩
/-- where its elements lie, if there are some -/
theorem SlC.cells {w : World} {ao : Option Addr} {n cap k : Nat} {css : List (List Value)} (h : SlC w (.slice ao n cap) k css) (h0 : 0 < css.length) :
    ∃ b off, ao = some ⟨b, off, none⟩ ∧ ∀ i (h : i < css.length), ∀ j c, css[i][j]? = some c → w.cell? ⟨b, off + i * k + j, none⟩ = some c := by
  obtain ⟨ao', cap', hv, hm, hcap, hc⟩ := h
  simp only [Value.slice.injEq] at hv
  obtain ⟨rfl, _, _⟩ := hv
  obtain ⟨b, off, rfl, _⟩ := hc 0 h0
  refine ⟨b, off, rfl, fun i hi => ?_⟩
  obtain ⟨b', off', ha, hcell⟩ := hc i hi
  cases ha
  exact hcell
/-- a piece of it -/
theorem SlC.cut {w : World} {ao : Option Addr} {n cap k : Nat} {css : List (List Value)} (h : SlC w (.slice ao n cap) k css) (hk : 0 < k) (lo hi : Nat) (h1 : lo ≤ hi) (h2 : hi ≤ n) : SlC w (sliced ao lo hi cap k) k ((css.drop lo).take (hi - lo)) := by
  obtain ⟨ao', cap', hv, hm, hcap, hc⟩ := h
  simp only [Value.slice.injEq] at hv
  obtain ⟨rfl, rfl, rfl⟩ := hv
  have hlen : ((css.drop lo).take (hi - lo)).length = hi - lo := by simp; omega
  unfold sliced
  refine ⟨_, _, by rw [hlen], by rw [hlen]; omega, ⟨by rw [hlen]; omega, fun h => by
    have := hcap.2
    split at h
    · have := this h; omega
    · have := this (by simpa using h); omega⟩, fun i hi2 => ?_⟩
  rw [hlen] at hi2
  obtain ⟨b, off, rfl, hcell⟩ := hc (lo + i) (by omega)
  refine ⟨b, off + lo * k, ?_, fun j c hj => ?_⟩
  · rw [if_neg (by omega)]
    by_cases h0 : lo = 0
    · subst h0; simp [Addr.add]
    · have : lo * k ≠ 0 := Nat.mul_ne_zero h0 (by omega)
      simp [Addr.add, this]
  · rw [List.getElem_take, List.getElem_drop] at hj
    rw [show off + lo * k + i * k + j = off + (lo + i) * k + j by rw [Nat.add_mul]; omega]
    exact hcell j c hj
theorem SlC.first {w : World} {ao : Option Addr} {n cap k : Nat} {css : List (List Value)} (h : SlC w (.slice ao n cap) k css) (hi : Nat) (h2 : hi ≤ n) : SlC w (.slice ao hi cap) k (css.take hi) := by
  obtain ⟨ao', cap', hv, hm, hcap, hc⟩ := h
  simp only [Value.slice.injEq] at hv
  obtain ⟨rfl, rfl, rfl⟩ := hv
  have hlen : (css.take hi).length = hi := by simp; omega
  refine ⟨_, _, by rw [hlen], by rw [hlen]; omega, ⟨by rw [hlen]; omega, hcap.2⟩, fun i hi2 => ?_⟩
  rw [hlen] at hi2
  obtain ⟨b, off, rfl, hcell⟩ := hc i (by omega)
  refine ⟨b, off, rfl, fun j c hj => hcell j c ?_⟩
  rw [List.getElem_take] at hj
  exact hj

section
variable {H : Type} {P : Program} {enc : TypeId × Value → H} {w : World} {base : Nat}
theorem slc_of_trod {t e : TypeId} {k : Nat} (ht : P.underlying t = some (.slice e)) (hk : P.cellsOf e = k) (h0 : 0 < k) {fuel : Nat} {cs : List Value} {x : DataW H × List MemPlace} (h : DataW.trod enc P w 0 (fun _ => true) true fuel t cs = some x) :
    ∃ v css, cs = [v] ∧ SlC w v k css ∧ ∀ c ∈ css, c.length = k ∧ ∃ fuel' x', DataW.trod enc P w 0 (fun _ => true) true fuel' e c = some x' := by
  rcases open_slice ht h with ⟨rfl, _⟩ | ⟨a, len, cap, m, n, D, Pl, rfl, hb, hl, hm, hmm, _, hel⟩
  · exact ⟨_, [], rfl, SlC.nil w k, by simp⟩
  · rw [hk] at hel
    have hspot : 0 < len → a.spot = none := fun hlen => by
      cases hs : a.spot with
      | none => rfl
      | some s =>
        exfalso
        obtain ⟨cs2, hl3, _⟩ := hel 0 (by rw [hmm]; simp; omega)
        obtain ⟨_, hl4, hat2⟩ := World.cells?_some hl3
        have d0 := hat2 0 (by omega)
        rw [List.getElem?_eq_getElem (by omega)] at d0
        rw [show (a.add (0 * k)).add 0 = a by rw [Nat.zero_mul]; rfl] at d0
        unfold World.cell? at d0
        split at d0
        · rw [hs] at d0; simp at d0
        · cases d0
    have hall : ∀ i, ∃ cs : List Value, i < len → cs.length = k ∧ (∃ fuel' x', DataW.trod enc P w 0 (fun _ => true) true fuel' e cs = some x') ∧ ∀ j c, cs[j]? = some c → w.cell? ⟨a.block, a.off + i * k + j, none⟩ = some c := by
      intro i
      by_cases hi : i < len
      · obtain ⟨cs, hl2, hd⟩ := hel i (by rw [hmm]; simp; omega)
        obtain ⟨_, hcl, hat⟩ := World.cells?_some hl2
        refine ⟨cs, fun _ => ⟨hcl, ⟨_, _, hd⟩, fun j c hj => ?_⟩⟩
        have hjk : j < k := by
          have := (List.getElem?_eq_some_iff.1 hj).1
          omega
        have c0 := hat j hjk
        have hsp := hspot (by omega)
        have hadd : ∀ k, (a.add k) = ⟨a.block, a.off + k, none⟩ := fun k => by unfold Addr.add; split <;> (cases a; simp_all)
        rw [hadd] at c0
        have hadd2 : (⟨a.block, a.off + i * k, none⟩ : Addr).add j = ⟨a.block, a.off + i * k + j, none⟩ := by unfold Addr.add; split <;> simp_all
        rw [hadd2, hj] at c0
        exact c0
      · exact ⟨[], fun h => absurd h hi⟩
    let f := fun i => Classical.choose (hall i)
    have hf : ∀ i, i < len → (f i).length = k ∧ (∃ fuel' x', DataW.trod enc P w 0 (fun _ => true) true fuel' e (f i) = some x') ∧ ∀ j c, (f i)[j]? = some c → w.cell? ⟨a.block, a.off + i * k + j, none⟩ = some c := fun i => Classical.choose_spec (hall i)
    have hlen : ((List.range len).map f).length = len := by simp
    refine ⟨_, (List.range len).map f, rfl, ⟨some a, cap, by rw [hlen], by rw [hlen]; omega, ⟨by rw [hlen]; omega, fun h => by cases h⟩, fun i hi => ?_⟩, fun c hc => ?_⟩
    · have hi2 : i < len := by rw [hlen] at hi; exact hi
      refine ⟨a.block, a.off, by have := hspot (by omega); cases a; simp_all, fun j c hj => ?_⟩
      rw [List.getElem_map, List.getElem_range] at hj
      exact (hf i hi2).2.2 j c hj
    · obtain ⟨i, hi, rfl⟩ := List.mem_map.1 hc
      have := hf i (List.mem_range.1 hi)
      exact ⟨this.1, this.2.1⟩
end
end Go.Proofs.Ythknhonpcmneaaa
