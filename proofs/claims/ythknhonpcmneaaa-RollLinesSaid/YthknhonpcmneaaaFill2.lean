/- A value of two cells laid into a new block of a region that draws its order. -/
import Derived.Test.YthknhonpcmneaaaOrdK
import Derived.Test.YthknhonpcmneaaaTell
import Derived.Test.YthknhonpcmneaaaCellOf
namespace Go.Proofs.Ythknhonpcmneaaa
open Go Go.RowKit
attribute [local irreducible] Go.wpQuiet

theorem moved_but {n c : Nat} {w w' : World} {own : Nat → Nat} {g : Nat} (hb : w.grownBy w' (some g)) (hn : n ≤ g) (hc : c.testBit (own g) = true) : Moved n c w own w' :=
  ⟨hb.size, fun b hb2 hor => hb.block b hb2 fun e => by
    simp only [Option.some.injEq] at e
    subst e
    rcases hor with h | h
    · omega
    · rw [hc] at h; cases h⟩
theorem at_con {w : World} {n g k c : Nat} {ob : Obj} {own : Nat → Nat} (h1 : n ≤ g) (h2 : blocksOf n own k g) (h3 : w.heap[g]? = some ob) (hc : c.testBit k = true) : n ≤ g ∧ w.heap[g]? = some ob ∧ c.testBit (own g) = true := by
  refine ⟨h1, h3, ?_⟩
  rcases h2 with h | h
  · omega
  · rw [h]; exact hc
/-- what a store of a whole value leaves, by what the store is given -/
def oFill (n : Nat) (e : TypeId) (vs : List Value) : Tell := ⟨fun _ w S => ∀ g cs, vs = [.pointer (some ⟨g, 0, none⟩), .agg cs] → n ≤ g ∧ S g ∧ w.heap[g]? = some (.cells cs e), fun _ w w' S S' hs hb h g cs e => by
  obtain ⟨h1, h2, h3⟩ := h g cs e
  have := hb g (Array.getElem?_eq_some_iff.1 h3).1 h2
  exact ⟨h1, this.1, this.2.trans h3⟩⟩
theorem K.ordT_fill {P : Program} {ops : Array Oper} {acc con : Array Nat} {n : Nat} {C : World → Prop} {Q : Act → World → (Nat → Nat) → Prop} {L : List (Option (List Value → Tell))} {i : Nat} {o : Oper} {l : List Oper} {F : Nat → Fact} {a : Act}
    {t : List Value → Tell} (vs : List Value) (hk : K.key a o = vs) (hw : Region.wanted o (yielded ops a.tmps) = true) (h1 : toldAt P acc con n C i o (t vs) F a)
    (h2 : ∀ v, K.ordT P ops acc con n C Q L (i + 1) l (factsNext con i (t vs) v F) (a.put o.dst v)) : K.ordT P ops acc con n C Q (some t :: L) i (o :: l) F a := by
  subst hk
  exact K.ordT_toldK hw h1 fun v _ _ _ _ => h2 v
def laid2 (w : World) (g : Nat) (x y : Value) : World := (w.setCell ⟨g, 0, none⟩ x).setCell ⟨g, 1, none⟩ y
theorem laid2_but (w : World) (g : Nat) (x y : Value) : w.grownBy (laid2 w g x y) (some g) :=
  ⟨rfl, rfl, rfl, by simp [laid2, World.setCell], fun i hi hn => (Below.heap_setCell _ ⟨g, 1, none⟩ y i (fun e => hn (by rw [e]))).trans (Below.heap_setCell w ⟨g, 0, none⟩ x i (fun e => hn (by rw [e])))⟩
theorem laid2_at {w : World} {g : Nat} {a b : Value} {t : TypeId} (h : w.heap[g]? = some (.cells #[a, b] t)) (x y : Value) : (laid2 w g x y).heap[g]? = some (.cells #[x, y] t) := by
  have h1 := heap_set_same (cs := [a, b]) (i := 0) h x
  have h2 := heap_set_same (i := 1) h1 y
  exact h2
theorem told_fill2 {P : Program} {acc con : Array Nat} {n : Nat} {C : World → Prop} {i : Nat} {o : Oper} {F : Nat → Fact} {a : Act} (g : Nat) (e : TypeId) {x0 x1 : Value} (y0 y1 : Value)
    (hr : ∀ w, w.heap[g]? = some (.cells #[x0, x1] e) → (execOp a.eval o).run P w = .ok .skip (laid2 w g y0 y1))
    (hC : ∀ w w' row, C w → w.grownBy w' row → (∀ k, row = some k → n ≤ k) → n ≤ w.heap.size ∧ C w')
    (hF : ∀ w own, C w → (∀ k, (acc.getD i 0).testBit k = true → F k w (blocksOf n own k)) → n ≤ g ∧ w.heap[g]? = some (.cells #[x0, x1] e) ∧ (con.getD i 0).testBit (own g) = true) :
    toldAt P acc con n C i o (oFill n e [.pointer (some ⟨g, 0, none⟩), .agg #[y0, y1]]) F a := by
  intro w own hCw hf
  obtain ⟨hng, hg, hc⟩ := hF w own hCw hf
  have hb := laid2_but w g y0 y1
  refine Gives.skip (hr w hg) ⟨(hC _ _ _ hCw hb fun k e => by cases e; exact hng).2, moved_but hb hng hc, fun g' cs e' => ?_⟩
  simp only [List.cons.injEq, Value.pointer.injEq, Option.some.injEq, Addr.mk.injEq, and_true, Value.agg.injEq] at e'
  obtain ⟨rfl, rfl⟩ := e'
  refine ⟨hng, .inr ?_, laid2_at hg _ _⟩
  unfold ownNext
  rw [if_pos (.inr hc)]
end Go.Proofs.Ythknhonpcmneaaa
