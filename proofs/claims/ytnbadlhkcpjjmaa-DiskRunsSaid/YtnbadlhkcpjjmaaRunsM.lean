/- DiskRuns' model in memory. -/
import Derived.Test.YtnbadlhkcpjjmaaRunsL
namespace Go.Proofs.Ytnbadlhkcpjjmaa
open Go Go.RowKit
attribute [local irreducible] Go.wpQuiet

/-- the model's cells: 24 strings, three slices, three counts -/
def Md.cells (m : Md) (vs : List Value) : List Value := m.data.map strV ++ (vs ++ m.left.map fun n => .int .i64 n)
/-- a row of calls of the model's own; the bytes they name lie in W -/
def OwnCl (W w : World) (v : Value) (cs : List Cl) : Prop := ∃ css, OwnK w 0 37 5 v css ∧ css.length = cs.length ∧ ∀ k (h : k < css.length) (h' : k < cs.length), ∃ dv, css[k] = cs[k].cells dv ∧ SlB W dv cs[k].data
theorem OwnCl.nil (W w : World) : OwnCl W w (.slice none 0 0) [] := ⟨[], OwnK.nil _ _ _ _, rfl, fun k h => by simp at h⟩
theorem OwnCl.at {W w w' : World} {v : Value} {cs : List Cl} (h : OwnCl W w v cs) (hk : ∀ g, v.ownBlock = some g → g < w.heap.size → w'.heap[g]? = w.heap[g]?) : OwnCl W w' v cs := by
  obtain ⟨css, h1, h2, h3⟩ := h
  exact ⟨css, h1.at hk, h2, h3⟩
theorem OwnCl.slcl {W w : World} {v : Value} {cs : List Cl} (h : OwnCl W w v cs) (hk : Keep W w) : SlCl w v cs := by
  obtain ⟨css, h1, h2, h3⟩ := h
  exact ⟨css, h1.slc (by decide), h2, fun i hi hi' => by
    obtain ⟨dv, e, hd⟩ := h3 i hi hi'
    exact ⟨dv, e, hd.keep hk⟩⟩
structure MdAt (W w : World) (S : Nat → Prop) (p : Nat) (m : Md) (vs : List Value) : Prop where
  head : w.heap[p]? = some (.cells (m.cells vs).toArray 55)
  dl : m.data.length = 24
  vl : vs.length = 3
  wl : m.wait.length = 3
  nl : m.left.length = 3
  sp : S p
  waits : ∀ i (h : i < vs.length) (h' : i < m.wait.length), OwnCl W w vs[i] m.wait[i]
  apart : ∀ i (h : i < vs.length) b, vs[i].ownBlock = some b → S b ∧ b ≠ p ∧ ∀ j (h : j < vs.length), j ≠ i → vs[j].ownBlock ≠ some b
  low : ∀ b, S b → b < w.heap.size
theorem MdAt.at {W w w' : World} {S : Nat → Prop} {p : Nat} {m : Md} {vs : List Value} (h : MdAt W w S p m vs) (hb : ∀ b, S b → w'.heap[b]? = w.heap[b]?) (hs : w.heap.size ≤ w'.heap.size) : MdAt W w' S p m vs :=
  { h with
    head := (hb p h.sp).trans h.head
    waits := fun i hi hi' => (h.waits i hi hi').at fun g e _ => hb g (h.apart i hi g e).1
    low := fun b hh => Nat.lt_of_lt_of_le (h.low b hh) hs }
theorem MdAt.keep {W w w' : World} {S : Nat → Prop} {p : Nat} {m : Md} {vs : List Value} (h : MdAt W w S p m vs) (k : Keep w w') : MdAt W w' S p m vs := h.at (fun b hb => k.block b (h.low b hb)) k.size
theorem MdAt.data {W w : World} {S : Nat → Prop} {p : Nat} {m : Md} {vs : List Value} (h : MdAt W w S p m vs) (i : Nat) (hi : i < m.data.length) : w.cell? ⟨p, i, none⟩ = some (.string ⟨m.data[i].toArray⟩) := by
  refine cell_of h.head i _ ?_
  unfold Md.cells
  rw [List.getElem?_append_left (by rw [List.length_map]; exact hi), List.getElem?_map, List.getElem?_eq_getElem hi]
  rfl
theorem MdAt.slice {W w : World} {S : Nat → Prop} {p : Nat} {m : Md} {vs : List Value} (h : MdAt W w S p m vs) (i : Nat) (hi : i < vs.length) : w.cell? ⟨p, 24 + i, none⟩ = some vs[i] := by
  refine cell_of h.head (24 + i) _ ?_
  unfold Md.cells
  rw [List.getElem?_append_right (by rw [List.length_map, h.dl]; omega), List.length_map, h.dl, List.getElem?_append_left (by omega), Nat.add_sub_cancel_left, List.getElem?_eq_getElem hi]
theorem MdAt.count {W w : World} {S : Nat → Prop} {p : Nat} {m : Md} {vs : List Value} (h : MdAt W w S p m vs) (i : Nat) (hi : i < m.left.length) : w.cell? ⟨p, 27 + i, none⟩ = some (.int .i64 m.left[i]) := by
  refine cell_of h.head (27 + i) _ ?_
  unfold Md.cells
  rw [List.getElem?_append_right (by rw [List.length_map, h.dl]; omega), List.length_map, h.dl, List.getElem?_append_right (by rw [h.vl]; omega), h.vl, show 27 + i - 24 - 3 = i by omega, List.getElem?_map, List.getElem?_eq_getElem hi]
  rfl
theorem set_data (m : Md) (vs : List Value) (i : Nat) (hi : i < m.data.length) (x : List UInt8) : (m.cells vs).set i (strV x) = ({ m with data := m.data.set i x } : Md).cells vs := by
  unfold Md.cells
  rw [List.set_append_left _ _ (by rw [List.length_map]; exact hi), ← List.map_set]
theorem set_slice (m : Md) (vs : List Value) (i : Nat) (hd : m.data.length = 24) (hi : i < vs.length) (v : Value) : (m.cells vs).set (24 + i) v = m.cells (vs.set i v) := by
  unfold Md.cells
  rw [List.set_append_right _ _ (by rw [List.length_map, hd]; omega), List.length_map, hd, Nat.add_sub_cancel_left, List.set_append_left _ _ hi]
theorem set_count (m : Md) (vs : List Value) (i : Nat) (hd : m.data.length = 24) (hv : vs.length = 3) (n : Int) : (m.cells vs).set (27 + i) (.int .i64 n) = ({ m with left := m.left.set i n } : Md).cells vs := by
  unfold Md.cells
  rw [List.set_append_right _ _ (by rw [List.length_map, hd]; omega), List.length_map, hd, List.set_append_right _ _ (by omega), hv, show 27 + i - 24 - 3 = i by omega, ← List.map_set]
theorem MdAt.setData {W w : World} {S : Nat → Prop} {p : Nat} {m : Md} {vs : List Value} (h : MdAt W w S p m vs) (i : Nat) (hi : i < m.data.length) (x : List UInt8) : MdAt W (w.setCell ⟨p, i, none⟩ (.string ⟨x.toArray⟩)) S p { m with data := m.data.set i x } vs :=
  { h with
    head := by rw [heap_set_same h.head, ← set_data m vs i hi x]; rfl
    dl := by simpa using h.dl
    waits := fun i hi hi' => (h.waits i hi hi').at fun g e _ => Below.heap_setCell w _ _ g (h.apart i hi g e).2.1
    low := fun b hh => by simpa [World.setCell] using h.low b hh }
theorem MdAt.setCount {W w : World} {S : Nat → Prop} {p : Nat} {m : Md} {vs : List Value} (h : MdAt W w S p m vs) (i : Nat) (n : Int) : MdAt W (w.setCell ⟨p, 27 + i, none⟩ (.int .i64 n)) S p { m with left := m.left.set i n } vs :=
  { h with
    head := by rw [heap_set_same h.head, ← set_count m vs i h.dl h.vl n]
    nl := by simpa using h.nl
    waits := fun i hi hi' => (h.waits i hi hi').at fun g e _ => Below.heap_setCell w _ _ g (h.apart i hi g e).2.1
    low := fun b hh => by simpa [World.setCell] using h.low b hh }
/-- a row of calls is another, what it was made of may have changed -/
theorem MdAt.setSlice {W w y : World} {S T : Nat → Prop} {p : Nat} {m : Md} {vs : List Value} (h : MdAt W w S p m vs) (r : Nat) (hr : r < vs.length) (v : Value) (cs : List Cl)
    (hy : ∀ b, S b → vs[r].ownBlock ≠ some b → y.heap[b]? = w.heap[b]?) (hST : ∀ b, S b → T b) (hT : ∀ b, T b → b < y.heap.size)
    (hO : OwnCl W y v cs) (hb : ∀ b, v.ownBlock = some b → T b ∧ b ≠ p ∧ ∀ j (h : j < vs.length), j ≠ r → vs[j].ownBlock ≠ some b) :
    MdAt W (y.setCell ⟨p, 24 + r, none⟩ v) T p { m with wait := m.wait.set r cs } (vs.set r v) := by
  have hnp : vs[r].ownBlock ≠ some p := fun e => (h.apart r hr p e).2.1 rfl
  have hot : ∀ b, S b → b ≠ p → vs[r].ownBlock ≠ some b → (y.setCell ⟨p, 24 + r, none⟩ v).heap[b]? = w.heap[b]? := fun b hS hne hv => (Below.heap_setCell y _ v b hne).trans (hy b hS hv)
  refine { head := ?_, dl := h.dl, vl := by simpa using h.vl, wl := by simpa using h.wl, nl := h.nl, sp := hST _ h.sp, waits := fun i hi hi' => ?_, apart := fun i hi b e => ?_, low := fun b hh => by simpa [World.setCell] using hT b hh }
  · rw [heap_set_same ((hy p h.sp hnp).trans h.head), set_slice m vs r h.dl hr v]
    rfl
  · have h1 : i < vs.length := by simpa using hi
    have h2 : i < m.wait.length := by simpa using hi'
    by_cases hir : i = r
    · subst hir
      have e1 : (vs.set i v)[i]'hi = v := List.getElem_set_self _
      have e2 : (m.wait.set i cs)[i]'hi' = cs := List.getElem_set_self _
      show OwnCl W _ ((vs.set i v)[i]'hi) ((m.wait.set i cs)[i]'hi')
      rw [e1, e2]
      exact hO.at fun g e _ => Below.heap_setCell y _ v g (hb g e).2.1
    · have e1 : (vs.set r v)[i]'hi = vs[i] := List.getElem_set_ne (fun e => hir e.symm) _
      have e2 : (m.wait.set r cs)[i]'hi' = m.wait[i] := List.getElem_set_ne (fun e => hir e.symm) _
      show OwnCl W _ ((vs.set r v)[i]'hi) ((m.wait.set r cs)[i]'hi')
      rw [e1, e2]
      exact (h.waits i h1 h2).at fun g e _ => hot g (h.apart i h1 g e).1 (h.apart i h1 g e).2.1 ((h.apart i h1 g e).2.2 r hr (fun e => hir e.symm))
  · have h1 : i < vs.length := by simpa using hi
    by_cases hir : i = r
    · subst hir
      have e1 : (vs.set i v)[i]'hi = v := List.getElem_set_self _
      rw [e1] at e
      obtain ⟨a1, a2, a3⟩ := hb b e
      refine ⟨a1, a2, fun j hj hne => ?_⟩
      rw [List.getElem_set_ne (fun e => hne e.symm)]
      exact a3 j (by simpa using hj) hne
    · have e1 : (vs.set r v)[i]'hi = vs[i] := List.getElem_set_ne (fun e => hir e.symm) _
      rw [e1] at e
      obtain ⟨a1, a2, a3⟩ := h.apart i h1 b e
      refine ⟨hST _ a1, a2, fun j hj hne => ?_⟩
      by_cases hjr : j = r
      · subst hjr
        rw [List.getElem_set_self]
        intro ev
        exact (hb b ev).2.2 i h1 hir e
      · rw [List.getElem_set_ne (fun e => hjr e.symm)]
        exact a3 j (by simpa using hj) hne
end Go.Proofs.Ytnbadlhkcpjjmaa
