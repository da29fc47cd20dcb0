/- What bytes that are cut tell: no Go, no memory. And: what lies beside a script's own cell. -/
import Derived.Test.YtndndklaaegifaaScriptBack
namespace Go.Proofs.Ytndndklaaegifaa
open Go Go.RowKit

theorem decL_cut (q : Rq) (hf : q.Fits) (m : Nat) (h0 : 0 < m) (h1 : m < q.enc.length) : decL (q.enc.take m) = [badQ] := by
  have hlen : (q.enc.take m).length = m := by rw [List.length_take]; omega
  refine decL_bad (by omega) ?_
  cases hb : (readQ ⟨q.enc.take m, false⟩).2.bad with
  | true => rfl
  | false =>
    exfalso
    obtain ⟨_, h2, h3⟩ := readQ_back _ hb
    simp only at h3
    have h4 : q.enc = (readQ ⟨q.enc.take m, false⟩).1.enc ++ ((readQ ⟨q.enc.take m, false⟩).2.l ++ q.enc.drop m) := by
      rw [← List.append_assoc, ← h3, List.take_append_drop]
    have h5 := readQ_fwd _ h2 ((readQ ⟨q.enc.take m, false⟩).2.l ++ q.enc.drop m)
    rw [← h4] at h5
    have h6 := readQ_fwd q hf []
    rw [List.append_nil, h5] at h6
    have h7 : (readQ ⟨q.enc.take m, false⟩).1 = q := (Prod.mk.inj h6).1
    rw [h7] at h3
    have h8 := congrArg List.length h3
    rw [hlen, List.length_append] at h8
    omega
theorem cuts_whole (qs : List Rq) (hf : ∀ q ∈ qs, q.Fits) (j k : Nat) (h : (encL (qs.take j)).length = k) : decL ((encL qs).take k) = qs.take j := by
  have e : encL qs = encL (qs.take j) ++ encL (qs.drop j) := by rw [← encL_append, List.take_append_drop]
  rw [e, List.take_left' h]
  exact decL_of_encL _ fun q hq => hf q (List.mem_of_mem_take hq)
theorem cuts_part (qs : List Rq) (hf : ∀ q ∈ qs, q.Fits) (j k : Nat) (hj : j < qs.length) (h1 : (encL (qs.take j)).length < k) (h2 : k < (encL (qs.take (j + 1))).length) : decL ((encL qs).take k) = qs.take j ++ [badQ] := by
  have e : encL qs = encL (qs.take j) ++ (qs[j].enc ++ encL (qs.drop (j + 1))) := by
    have e1 : encL qs = encL (qs.take (j + 1)) ++ encL (qs.drop (j + 1)) := by rw [← encL_append, List.take_append_drop]
    have e2 : encL [qs[j]] = qs[j].enc := by simp [encL]
    rw [e1, encL_take qs j hj, e2, List.append_assoc]
  have h3 := encL_take qs j hj
  have e2 : encL [qs[j]] = qs[j].enc := by simp [encL]
  rw [h3, e2, List.length_append] at h2
  rw [e, List.take_append, List.take_of_length_le (by omega), List.take_append_of_le_length (by omega), decL_encL _ _ fun q hq => hf q (List.mem_of_mem_take hq), decL_cut _ (hf _ (List.getElem_mem _)) _ (by omega) (by omega)]

/-- requests lie beside a script's own cell -/
theorem SlQ.off {w : World} {v : Value} {qs : List Rq} {g : Nat} {a : Option Addr} {n c : Nat} {e : TypeId} (h : SlQ w v qs) (hg : w.heap[g]? = some (.cells #[.slice a n c] e)) : SlQin w (fun b => b ≠ g ∧ b < w.heap.size) v qs := by
  obtain ⟨css, h1, h2, h3⟩ := h
  have hno : ∀ (b off : Nat) (u : Value), w.cell? ⟨b, off, none⟩ = some u → (∀ x y z, u ≠ .slice x y z) → b ≠ g ∧ b < w.heap.size := fun b off u hu hne => by
    refine ⟨fun hb => ?_, World.block_lt_of_cell? w _ hu⟩
    subst hb
    unfold World.cell? at hu
    simp only [hg] at hu
    match off, hu with
    | 0, hu => exact hne a n c (by simpa using hu.symm)
    | o + 1, hu => simp at hu
  refine ⟨css, h1, fun hne => ?_, h2, fun i h h' => ?_⟩
  · intro a' n' c' e'
    subst e'
    obtain ⟨b, off, ha, hc⟩ := h1.cells (List.length_pos_iff.2 hne)
    cases ha
    have hpos : 0 < css.length := List.length_pos_iff.2 hne
    obtain ⟨dv, ed, _⟩ := h3 0 hpos (by omega)
    exact hno b _ _ (hc 0 hpos 0 (.int .i64 (qs[0]'(by omega)).kind) (by rw [ed]; rfl)) (by simp)
  · obtain ⟨dv, ed, hd⟩ := h3 i h h'
    refine ⟨dv, ed, hd, fun hne => ?_⟩
    intro a' n' c' e'
    subst e'
    obtain ⟨b, off, ha, hc⟩ := hd.cells (List.length_pos_iff.2 hne)
    cases ha
    exact hno b _ _ (hc 0 (List.length_pos_iff.2 hne)) (by simp)
theorem SlQin.first {w : World} {S : Nat → Prop} {ao : Option Addr} {n cap : Nat} {qs : List Rq} (h : SlQin w S (.slice ao n cap) qs) (hi : Nat) (h2 : hi ≤ n) : SlQin w S (.slice ao hi cap) (qs.take hi) := by
  obtain ⟨css, h1, hin, e, h3⟩ := h
  refine ⟨css.take hi, h1.first hi h2, fun hne => ?_, by simp [e], fun i hx hx' => ?_⟩
  · intro a' n' c' e'
    simp only [Value.slice.injEq] at e'
    obtain ⟨rfl, _, _⟩ := e'
    exact hin (fun h => hne (by rw [h]; simp)) a' n cap rfl
  · rw [List.getElem_take, List.getElem_take]
    exact h3 i (by simp at hx; omega) (by simp at hx'; omega)
theorem tmod_lt (k : Int) (m : Int) (hm : 0 < m) : -m < k.tmod m ∧ k.tmod m < m := by
  rcases Int.le_total 0 k with h | h
  · rw [Int.tmod_eq_emod_of_nonneg h]
    have := Int.emod_lt_of_pos k hm
    have := Int.emod_nonneg k (by omega : m ≠ 0)
    omega
  · have e : k.tmod m = -((-k).tmod m) := by rw [Int.neg_tmod]; omega
    rw [e, Int.tmod_eq_emod_of_nonneg (by omega)]
    have := Int.emod_lt_of_pos (-k) hm
    have := Int.emod_nonneg (-k) (by omega : m ≠ 0)
    omega
theorem cut_at (c : Int) (n : Nat) (hn : n ≤ 100000000) : ∃ k : Nat, k ≤ n ∧ (wrap64 (wrap64 (c.tmod ((n : Int) + 1) + (n : Int)) + 1)).tmod ((n : Int) + 1) = (k : Int) := by
  have h1 := tmod_lt c ((n : Int) + 1) (by omega)
  generalize c.tmod ((n : Int) + 1) = x at *
  have h2 : wrap64 (x + (n : Int)) = x + n := by unfold wrap64; omega
  have h3 : wrap64 (x + (n : Int) + 1) = x + n + 1 := by unfold wrap64; omega
  rw [h2, h3, Int.tmod_eq_emod_of_nonneg (by omega)]
  have h4 := Int.emod_lt_of_pos (x + (n : Int) + 1) (by omega : (0 : Int) < (n : Int) + 1)
  have h5 := Int.emod_nonneg (x + (n : Int) + 1) (by omega : (n : Int) + 1 ≠ 0)
  exact ⟨((x + (n : Int) + 1) % ((n : Int) + 1)).toNat, by omega, by omega⟩
end Go.Proofs.Ytndndklaaegifaa
