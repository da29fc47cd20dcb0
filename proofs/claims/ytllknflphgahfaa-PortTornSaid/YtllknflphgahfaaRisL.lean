/- Rows put into a list that rises, and the slices they lie in. -/
import Derived.Test.YtllknflphgahfaaRw
import Derived.Test.YtllknflphgahfaaRdOrd
import Derived.Test.YtllknflphgahfaaChain
namespace Go.Proofs.Ytllknflphgahfaa
open Go Go.RowKit

/-- r at place k -/
def insAt (b : List Rw) (r : Rw) (k : Nat) : List Rw := b.take k ++ r :: b.drop k
theorem insAt_length (b : List Rw) (r : Rw) (k : Nat) (h : k ≤ b.length) : (insAt b r k).length = b.length + 1 := by unfold insAt; simp; omega
theorem insAt_end (b : List Rw) (r : Rw) : insAt b r b.length = b ++ [r] := by simp [insAt]
theorem insAt_get (b : List Rw) (r : Rw) (k : Nat) (h : k ≤ b.length) (j : Nat) (hj : j < (insAt b r k).length) : (insAt b r k)[j] = if h1 : j < k then b[j]'(by omega) else if h2 : j = k then r else b[j - 1]'(by rw [insAt_length b r k h] at hj; omega) := by
  have hl := insAt_length b r k h
  unfold insAt at *
  split
  · rename_i h'
    rw [List.getElem_append_left (by simp; omega), List.getElem_take]
  · rename_i h'
    rw [List.getElem_append_right (by simp; omega)]
    split
    · rename_i h''
      subst h''
      have e : j - (b.take j).length = 0 := by simp; omega
      simp only [e, List.getElem_cons_zero]
    · rename_i h''
      have e : j - (b.take k).length = (j - k - 1) + 1 := by simp; omega
      simp only [e, List.getElem_cons_succ, List.getElem_drop]
      congr 1
      omega
theorem insAt_swap (b : List Rw) (r : Rw) (k : Nat) (h : k < b.length) : ((insAt b r (k + 1)).set (k + 1) b[k]).set k r = insAt b r k := by
  have l1 := insAt_length b r (k + 1) (by omega)
  have l2 := insAt_length b r k (by omega)
  apply List.ext_getElem
  · simp [l1, l2]
  · intro j h1 h2
    have h3 : j < (insAt b r (k + 1)).length := by simpa using h1
    rw [List.getElem_set, List.getElem_set, insAt_get b r k (by omega) j h2, insAt_get b r (k + 1) (by omega) j h3]
    by_cases c1 : j = k
    · subst c1
      simp
      try (intro h; omega)
    · by_cases c2 : j = k + 1
      · subst c2
        simp
        try (intro h; omega)
      · rw [if_neg (by omega), if_neg (by omega)]
        by_cases c3 : j < k
        · rw [dif_pos (by omega), dif_pos c3]
        · rw [dif_neg (by omega), dif_neg (by omega), dif_neg (by omega), dif_neg (by omega)]
theorem insAt_drop (b : List Rw) (r : Rw) (k : Nat) (h : k ≤ b.length) : (insAt b r k).take k ++ (insAt b r k).drop (k + 1) = b := by
  unfold insAt
  have e : (b.take k).length = k := by simp; omega
  rw [List.take_append_of_le_length (by omega), List.take_of_length_le (by omega), List.drop_append, e]
  have e2 : k + 1 - k = 1 := by omega
  rw [e2, List.drop_eq_nil_of_le (by omega)]
  simp

/-! ### Stores into a slice of rows -/
theorem flat_set : ∀ (l : List Rw) (j : Nat) (r : Rw), ((l.set j r).map Rw.cells).flatten = ((((l.map Rw.cells).flatten.set (j * 3) (.int .i64 r.t)).set (j * 3 + 1) (.string ⟨r.k.toArray⟩)).set (j * 3 + 2) (.string ⟨r.v.toArray⟩))
  | [], j, r => by simp
  | x :: l, 0, r => by simp [Rw.cells]
  | x :: l, j + 1, r => by
    have ih := flat_set l j r
    have h3 : x.cells.length = 3 := rfl
    simp only [List.set_cons_succ, List.map_cons, List.flatten_cons]
    rw [ih, List.set_append_right _ _ (by rw [h3]; omega), List.set_append_right _ _ (by rw [h3]; omega), List.set_append_right _ _ (by rw [h3]; omega), h3]
    congr 1
    have e : (j + 1) * 3 - 3 = j * 3 := by omega
    have e1 : (j + 1) * 3 + 1 - 3 = j * 3 + 1 := by omega
    have e2 : (j + 1) * 3 + 2 - 3 = j * 3 + 2 := by omega
    rw [e, e1, e2]
/-- a row laid over another -/
abbrev laidRw (w : World) (g p : Nat) (r : Rw) : World := ((w.setCell ⟨g, p, none⟩ (.int .i64 r.t)).setCell ⟨g, p + 1, none⟩ (.string ⟨r.k.toArray⟩)).setCell ⟨g, p + 2, none⟩ (.string ⟨r.v.toArray⟩)
theorem OwnR.stored {w : World} {base g n cap : Nat} {l : List Rw} (h : OwnR w base (.slice (some ⟨g, 0, none⟩) n cap) l) (j : Nat) (r : Rw) : OwnR (laidRw w g (j * 3) r) base (.slice (some ⟨g, 0, none⟩) n cap) (l.set j r) := by
  have hn : n = l.length := by
    obtain ⟨ao, c, hv, _⟩ := h.slr.form
    simp only [Value.slice.injEq] at hv
    exact hv.2.1
  subst hn
  refine ⟨?_, Rw.cells_map_length _⟩
  rw [flat_set, List.length_map, List.length_set]
  have h1 := h.1
  rw [List.length_map] at h1
  exact (World.ownsRow.stored (World.ownsRow.stored (World.ownsRow.stored h1 _ _).1 _ _).1 _ _).1
theorem OwnR.head {w : World} {base : Nat} {v : Value} {l : List Rw} (h : OwnR w base v l) (h0 : 0 < l.length) : ∃ g cap, v = .slice (some ⟨g, 0, none⟩) l.length cap ∧ base ≤ g ∧ g < w.heap.size := by
  rcases h.1.2 with ⟨_, h1⟩ | ⟨g, cap, cur, rfl, hb, hg, _⟩
  · rw [List.length_map] at h1; omega
  · exact ⟨g, cap, by rw [List.length_map], hb, (Array.getElem?_eq_some_iff.1 hg).1⟩
theorem OwnR.free {w : World} {base g n cap : Nat} {l : List Rw} (h : OwnR w base (.slice (some ⟨g, 0, none⟩) n cap) l) (i : Nat) : w.frozen? ⟨g, i, none⟩ = false := by
  rcases h.1.2 with ⟨h1, _⟩ | ⟨g', cap', cur, hv, hb, hg, _⟩
  · cases h1
  · simp only [Value.slice.injEq, Option.some.injEq, Addr.mk.injEq, and_true] at hv
    obtain ⟨rfl, _, _⟩ := hv
    unfold World.frozen?
    simp [hg]
theorem OwnR.cell3 {w : World} {base g n cap : Nat} {l : List Rw} (h : OwnR w base (.slice (some ⟨g, 0, none⟩) n cap) l) (j : Nat) (hj : j < l.length) : w.cell? ⟨g, j * 3, none⟩ = some (.int .i64 l[j].t) ∧ w.cell? ⟨g, j * 3 + 1, none⟩ = some (.string ⟨l[j].k.toArray⟩) ∧ w.cell? ⟨g, j * 3 + 2, none⟩ = some (.string ⟨l[j].v.toArray⟩) := by
  obtain ⟨b, off, e, h1, h2, h3⟩ := h.slr.elem j hj
  simp only [Option.some.injEq, Addr.mk.injEq, and_true] at e
  obtain ⟨rfl, rfl⟩ := e
  rw [Nat.zero_add] at h1 h2 h3
  exact ⟨h1, h2, h3⟩
theorem OwnR.takeK {w : World} {base g n cap : Nat} {l : List Rw} (h : OwnR w base (.slice (some ⟨g, 0, none⟩) n cap) l) (k : Nat) (hk : k ≤ n) : OwnR w base (.slice (some ⟨g, 0, none⟩) k cap) (l.take k) := by
  have hn : n = l.length := by
    obtain ⟨ao, c, hv, _⟩ := h.slr.form
    simp only [Value.slice.injEq] at hv
    exact hv.2.1
  subst hn
  refine ⟨?_, Rw.cells_map_length _⟩
  have hlen : ((l.take k).map Rw.cells).length = k := by simp; omega
  have hfl : ((l.take k).map Rw.cells).flatten = ((l.map Rw.cells).flatten).take (k * 3) := by
    have e : l.map Rw.cells = (l.take k).map Rw.cells ++ (l.drop k).map Rw.cells := by rw [← List.map_append, List.take_append_drop]
    rw [e, List.flatten_append, List.take_left']
    rw [flatten_length (k := 3) (Rw.cells_map_length _), hlen]
  rw [hlen]
  refine ⟨by rw [flatten_length (k := 3) (Rw.cells_map_length _), hlen], .inr ?_⟩
  rcases h.1.2 with ⟨h1, _⟩ | ⟨g', cap', cur, hv, hb, hg, hnc, hcm, hcs, htk⟩
  · cases h1
  · simp only [Value.slice.injEq, Option.some.injEq, Addr.mk.injEq, and_true] at hv
    obtain ⟨rfl, _, rfl⟩ := hv
    rw [List.length_map] at hnc htk
    refine ⟨g, cap, cur, rfl, hb, hg, by omega, hcm, hcs, ?_⟩
    rw [hfl, ← htk, List.take_take, Nat.min_eq_left (by omega)]
theorem SlR.from {w : World} {ao : Option Addr} {n cap : Nat} {l : List Rw} (h : SlR w (.slice ao n cap) l) (lo : Nat) (h2 : lo ≤ n) : SlR w (sliced ao lo n cap 3) (l.drop lo) := by
  have h1 := SlC.cut h (by decide) lo n h2 (Nat.le_refl _)
  obtain ⟨a, c, e, -, -⟩ := h.form
  simp only [Value.slice.injEq] at e
  unfold SlR
  rw [← List.map_drop, List.take_of_length_le (by simp; omega)] at h1
  exact h1
/-- a slice of rows of the call's own, u, whatever the operation gives -/
def oHasR (u : Value) (n : Nat) (l : List Rw) : Tell := ⟨fun _ w S => OwnR w n u l ∧ In S u, fun _ w w' S S' hs hb ⟨h1, h2⟩ => by
  have hin : ∀ g, u.ownBlock = some g → S g := fun g e => by
    unfold Value.ownBlock at e
    split at e
    · cases e
      exact h2 _ _ _ rfl
    · cases e
  refine ⟨h1.at fun g e hg => (hb g hg (hin g e)).2, fun a m c e => ?_⟩
  have e1 : u.ownBlock = some a.block := by rw [e]; rfl
  exact (hb _ (h1.lt _ e1).2 (hin _ e1)).1⟩
theorem told_storeR {P : Program} {acc con : Array Nat} {n : Nat} {C : World → Prop} {i : Nat} {o : Oper} {F : Nat → Fact} {a : Act} (g len cap : Nat) (l : List Rw) (j : Nat) (r : Rw) (hj : j < l.length)
    (hC : ∀ w (p : Addr) x, C w → n ≤ p.block → C (w.setCell p x))
    (hr : ∀ w x0 x1 x2, w.cell? ⟨g, j * 3, none⟩ = some x0 → w.cell? ⟨g, j * 3 + 1, none⟩ = some x1 → w.cell? ⟨g, j * 3 + 2, none⟩ = some x2 → w.frozen? ⟨g, j * 3, none⟩ = false → w.frozen? ⟨g, j * 3 + 1, none⟩ = false → w.frozen? ⟨g, j * 3 + 2, none⟩ = false → (execOp a.eval o).run P w = .ok .skip (laidRw w g (j * 3) r))
    (hF : ∀ w own, C w → (∀ k, (acc.getD i 0).testBit k = true → F k w (blocksOf n own k)) → OwnR w n (.slice (some ⟨g, 0, none⟩) len cap) l ∧ (con.getD i 0).testBit (own g) = true) :
    toldAt P acc con n C i o (oHasR (.slice (some ⟨g, 0, none⟩) len cap) n (l.set j r)) F a := by
  intro w own hCw hf
  obtain ⟨ho, hc⟩ := hF w own hCw hf
  have hg := ho.lt g rfl
  obtain ⟨c0, c1, c2⟩ := ho.cell3 j hj
  refine Gives.skip (hr w _ _ _ c0 c1 c2 (ho.free _) (ho.free _) (ho.free _)) ⟨hC _ _ _ (hC _ _ _ (hC w _ _ hCw hg.1) hg.1) hg.1, ⟨by simp [laidRw, World.setCell], fun b hb hor => ?_⟩, ho.stored j r, fun ad m c ev => ?_⟩
  · have hne : b ≠ g := fun e => by
      subst e
      rcases hor with h | h
      · omega
      · rw [hc] at h; cases h
    unfold laidRw
    rw [Below.heap_setCell _ _ _ _ hne, Below.heap_setCell _ _ _ _ hne, Below.heap_setCell _ _ _ _ hne]
  · simp only [Value.slice.injEq, Option.some.injEq] at ev
    rw [← ev.1]
    exact .inr (by unfold ownNext; rw [if_pos (.inr hc)])
end Go.Proofs.Ytllknflphgahfaa
