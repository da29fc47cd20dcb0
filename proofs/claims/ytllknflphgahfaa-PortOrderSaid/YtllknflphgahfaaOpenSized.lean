/- Rows among the arguments, and how long their texts may be (the form's own reach). -/
import Derived.Test.YtllknflphgahfaaOpenRows
import Derived.SizedLaws
namespace Go.Proofs.Ytllknflphgahfaa
open Go.Joins Go.ChangeShapes Go.WideShapes Go.ChangeAt Go.RowKit Go.Deep

section
variable {H : Type} {enc : TypeId × Value → H} {w : World} {base : Nat}
theorem weightsAll_mem {P : Program} {e : TypeId} {n : Nat} : ∀ {l : List (DataW H)} {d : DataW H}, d ∈ l → n ∈ d.weights P e → n ∈ DataW.weightsAll P e l
  | d0 :: l, d, hd, hn => by
    simp only [DataW.weightsAll, List.mem_append]
    rcases List.mem_cons.1 hd with rfl | h
    · exact .inl hn
    · exact .inr (weightsAll_mem h hn)
theorem slc_of_trod_sized {P : Program} {t e : TypeId} {k : Nat} (ht : P.underlying t = some (.slice e)) (hk : P.cellsOf e = k) (h0 : 0 < k) {fuel : Nat} {cs : List Value} {x : DataW H × List MemPlace} (h : DataW.trod enc P w 0 (fun _ => true) true fuel t cs = some x) :
    ∃ v css, cs = [v] ∧ SlC w v k css ∧ ∀ c ∈ css, c.length = k ∧ ∃ fuel' x', DataW.trod enc P w 0 (fun _ => true) true fuel' e c = some x' ∧ ∀ n ∈ x'.1.weights P e, n ∈ x.1.weights P t := by
  rcases open_slice ht h with ⟨rfl, _⟩ | ⟨a, len, cap, m, n, D, Pl, rfl, hb, hl, hm, hmm, rfl, hel⟩
  · exact ⟨_, [], rfl, SlC.nil w k, by simp⟩
  · rw [hk] at hel
    have hw : ∀ i, i < len → ∀ y ∈ (D i).weights P e, y ∈ (DataW.slice ((List.range len).map D) ((List.range (m - len)).map fun j => D (len + j)) : DataW H).weights P t := by
      intro i hi y hy
      simp only [DataW.weights, ht, List.mem_cons, List.mem_append]
      exact .inr (.inl (weightsAll_mem (List.mem_map.2 ⟨i, List.mem_range.2 hi, rfl⟩) hy))
    have hspot : 0 < len → a.spot = none := fun hlen => by
      cases hs : a.spot with
      | none => rfl
      | some s =>
        exfalso
        obtain ⟨cs2, hl3, _⟩ := hel 0 (by rw [hmm]; simp; omega)
        obtain ⟨_, hl4, hat2⟩ := World.cells?_some hl3
        have d0 := hat2 0 (by omega)
        rw [List.getElem?_eq_getElem (by omega)] at d0
        rw [show (a.add (0 * k)).add 0 = a by rw [Nat.zero_mul]; rfl] at d0
        unfold World.cell? at d0
        split at d0
        · rw [hs] at d0; simp at d0
        · cases d0
    have hall : ∀ i, ∃ cs : List Value, i < len → cs.length = k ∧ (∃ fuel' x', DataW.trod enc P w 0 (fun _ => true) true fuel' e cs = some x' ∧ ∀ y ∈ x'.1.weights P e, y ∈ (DataW.slice ((List.range len).map D) ((List.range (m - len)).map fun j => D (len + j)) : DataW H).weights P t) ∧ ∀ j c, cs[j]? = some c → w.cell? ⟨a.block, a.off + i * k + j, none⟩ = some c := by
      intro i
      by_cases hi : i < len
      · obtain ⟨cs, hl2, hd⟩ := hel i (by rw [hmm]; simp; omega)
        obtain ⟨_, hcl, hat⟩ := World.cells?_some hl2
        refine ⟨cs, fun _ => ⟨hcl, ⟨_, _, hd, hw i hi⟩, fun j c hj => ?_⟩⟩
        have hjk : j < k := by
          have := (List.getElem?_eq_some_iff.1 hj).1
          omega
        have c0 := hat j hjk
        have hsp := hspot (by omega)
        have hadd : ∀ k, (a.add k) = ⟨a.block, a.off + k, none⟩ := fun k => by unfold Addr.add; split <;> (cases a; simp_all)
        rw [hadd] at c0
        have hadd2 : (⟨a.block, a.off + i * k, none⟩ : Addr).add j = ⟨a.block, a.off + i * k + j, none⟩ := by unfold Addr.add; split <;> simp_all
        rw [hadd2, hj] at c0
        exact c0
      · exact ⟨[], fun h => absurd h hi⟩
    let f := fun i => Classical.choose (hall i)
    have hf := fun i => Classical.choose_spec (hall i)
    have hlen : ((List.range len).map f).length = len := by simp
    refine ⟨_, (List.range len).map f, rfl, ⟨some a, cap, by rw [hlen], by rw [hlen]; omega, ⟨by rw [hlen]; omega, fun h => by cases h⟩, fun i hi => ?_⟩, fun c hc => ?_⟩
    · have hi2 : i < len := by rw [hlen] at hi; exact hi
      refine ⟨a.block, a.off, by have := hspot (by omega); cases a; simp_all, fun j c hj => ?_⟩
      rw [List.getElem_map, List.getElem_range] at hj
      exact (hf i hi2).2.2 j c hj
    · obtain ⟨i, hi, rfl⟩ := List.mem_map.1 hc
      have := hf i (List.mem_range.1 hi)
      exact ⟨this.1, this.2.1⟩
theorem open_rw_sized {fuel : Nat} {cs : List Value} {x : DataW H × List MemPlace} (hsz : cs.length = 3) (hf : DataW.trod enc Try.prog w 0 (fun _ => true) true fuel 32 cs = some x) :
    ∃ r : Rw, cs = r.cells ∧ r.k.length ∈ x.1.weights Try.prog 32 ∧ r.v.length ∈ x.1.weights Try.prog 32 := by
  have hi : Try.prog.cellsOf 3 = 1 := by kernel_rfl
  have hs : Try.prog.cellsOf 9 = 1 := by kernel_rfl
  match cs, hsz with
  | [c0, c1, c2], _ =>
    obtain ⟨xs, n, _, hx, _, hlen, hg⟩ := DataW.trod_struct Try.underlying32 hf
    have hl8 : xs.length = 3 := hlen
    have g0 : DataW.trod enc Try.prog w 0 (fun _ => true) true n 3 [c0] = xs[0]? := by
      have h0 : DataW.trod enc Try.prog w 0 (fun _ => true) true n 3 (([c0, c1, c2].drop 0).take (Try.prog.cellsOf 3)) = xs[0]? := hg 0 _ rfl
      rw [hi] at h0
      exact h0
    have g1 : DataW.trod enc Try.prog w 0 (fun _ => true) true n 9 [c1] = xs[1]? := by
      have h0 : DataW.trod enc Try.prog w 0 (fun _ => true) true n 9 (([c0, c1, c2].drop 1).take (Try.prog.cellsOf 9)) = xs[1]? := hg 1 _ rfl
      rw [hs] at h0
      exact h0
    have g2 : DataW.trod enc Try.prog w 0 (fun _ => true) true n 9 [c2] = xs[2]? := by
      have h0 : DataW.trod enc Try.prog w 0 (fun _ => true) true n 9 (([c0, c1, c2].drop 2).take (Try.prog.cellsOf 9)) = xs[2]? := hg 2 _ rfl
      rw [hs] at h0
      exact h0
    rw [List.getElem?_eq_getElem (by omega)] at g0 g1 g2
    obtain ⟨z0, e0, _, _⟩ := DataW.trod_int Try.underlying3 g0
    obtain ⟨s1, e1, y1, _⟩ := DataW.trod_string Try.underlying9 g1
    obtain ⟨s2, e2, y2, _⟩ := DataW.trod_string Try.underlying9 g2
    simp only [List.cons.injEq, and_true] at e0 e1 e2
    subst e0 e1 e2
    have hp1 : (xs.map (·.1))[1]? = some (.lit (.string s1.data.toList)) := by rw [List.getElem?_map, List.getElem?_eq_getElem (by omega), y1]; rfl
    have hp2 : (xs.map (·.1))[2]? = some (.lit (.string s2.data.toList)) := by rw [List.getElem?_map, List.getElem?_eq_getElem (by omega), y2]; rfl
    refine ⟨⟨z0, s1.data.toList, s2.data.toList⟩, by simp [Rw.cells], ?_, ?_⟩
    · rw [hx]
      simp only [DataW.weights, Try.underlying32]
      exact DataW.weights_mem_each (j := 1) rfl hp1 _ (by simp [DataW.weights])
    · rw [hx]
      simp only [DataW.weights, Try.underlying32]
      exact DataW.weights_mem_each (j := 2) rfl hp2 _ (by simp [DataW.weights])
theorem open_rows_sized {v : Value} {d : DataW H} {p : List MemPlace} (hv : Value.okWide Try.prog w .any base 22 v) (h : DataW.Trod enc Try.prog w 0 (fun _ => true) true 22 v d p) (hsz : ∀ n ∈ d.weights Try.prog 22, n ≤ reachBytes) :
    ∃ l : List Rw, SlR w v l ∧ ∀ r ∈ l, r.k.length ≤ 140737488355328 ∧ r.v.length ≤ 140737488355328 := by
  obtain ⟨a0, len0, cap0, rfl⟩ := okWide_slice Try.underlying22 hv
  obtain ⟨fuel, hf⟩ := h
  obtain ⟨v, css, hc, hs, hel⟩ := slc_of_trod_sized (P := Try.prog) (k := 3) Try.underlying22 (by kernel_rfl) (by decide) hf
  simp [Value.cells] at hc
  rw [hc]
  have hrb : reachBytes ≤ 140737488355328 := by decide
  have hall : ∀ i, ∃ r : Rw, (h : i < css.length) → css[i] = r.cells ∧ r.k.length ≤ 140737488355328 ∧ r.v.length ≤ 140737488355328 := by
    intro i
    by_cases hi : i < css.length
    · obtain ⟨hl, fuel', x', hx, hw⟩ := hel css[i] (List.getElem_mem _)
      obtain ⟨r, e, h1, h2⟩ := open_rw_sized hl hx
      have b1 := hsz _ (hw _ h1)
      have b2 := hsz _ (hw _ h2)
      exact ⟨r, fun _ => ⟨e, by omega, by omega⟩⟩
    · exact ⟨⟨0, [], []⟩, fun h => absurd h hi⟩
  let f := fun i => Classical.choose (hall i)
  have hsp : ∀ i (h : i < css.length), css[i] = (f i).cells ∧ (f i).k.length ≤ 140737488355328 ∧ (f i).v.length ≤ 140737488355328 := fun i => Classical.choose_spec (hall i)
  refine ⟨(List.range css.length).map f, ?_, fun r hr => ?_⟩
  · have e : ((List.range css.length).map f).map Rw.cells = css := by
      apply List.ext_getElem
      · simp
      · intro i h1 h2
        rw [List.getElem_map, List.getElem_map, List.getElem_range, (hsp i h2).1]
    unfold SlR
    rw [e]
    exact hs
  · obtain ⟨i, hi, rfl⟩ := List.mem_map.1 hr
    exact (hsp i (List.mem_range.1 hi)).2
end
end Go.Proofs.Ytllknflphgahfaa
