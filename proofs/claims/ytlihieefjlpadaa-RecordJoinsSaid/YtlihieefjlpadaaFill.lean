/- Records in regions that draw their order: what a call hands back, and a new block that is filled with it. -/
import Derived.Test.YtlihieefjlpadaaSay
import Derived.Test.YtlihieefjlpadaaSeed
import Derived.Test.YtlihieefjlpadaaAhead
import Derived.Test.YtlihieefjlpadaaOrdK
namespace Go.Proofs.Ytlihieefjlpadaa
open Go Go.RowKit
attribute [local irreducible] Go.wpQuiet

/-- a record as a value -/
def oRc (r : Rc) : Tell := ⟨fun v w S => ∃ a n c, v = r.val (.slice a n c) ∧ SlU w (.slice a n c) r.dirty ∧ (r.dirty.map U ≠ [] → In S (.slice a n c)), fun _ _ _ _ _ _ hb ⟨a, n, c, h1, h2, h3⟩ =>
  have h := Sl.lasts h2 h3 hb
  ⟨a, n, c, h1, h.1, h.2⟩⟩
theorem In.mono {S S' : Nat → Prop} {v : Value} (h : In S v) (hs : ∀ b, S b → S' b) : In S' v := fun a n c e => hs _ (h a n c e)
/-- a block whose number is known -/
def oCell (g n : Nat) (ob : Obj) : Tell := ⟨fun _ w S => n ≤ g ∧ S g ∧ w.heap[g]? = some ob, fun _ w w' S S' hs hb ⟨h1, h2, h3⟩ =>
  have := hb g (Array.getElem?_eq_some_iff.1 h3).1 h2
  ⟨h1, this.1, this.2.trans h3⟩⟩
/-- a record is laid into a new block -/
theorem told_fill {P : Program} {acc con : Array Nat} {n : Nat} {C : World → Prop} {i : Nat} {o : Oper} {F : Nat → Fact} {a : Act} (g : Nat) (e : TypeId) {x0 x1 x2 x3 x4 x5 x6 x7 : Value} (y0 y1 y2 y3 y4 y5 y6 y7 : Value)
    (hr : ∀ w, w.heap[g]? = some (.cells #[x0, x1, x2, x3, x4, x5, x6, x7] e) → (execOp a.eval o).run P w = .ok .skip (laidOver w g y0 y1 y2 y3 y4 y5 y6 y7))
    (hC : ∀ w w' row, C w → w.grownBy w' row → (∀ k, row = some k → n ≤ k) → n ≤ w.heap.size ∧ C w')
    (hF : ∀ w own, C w → (∀ k, (acc.getD i 0).testBit k = true → F k w (blocksOf n own k)) → n ≤ g ∧ w.heap[g]? = some (.cells #[x0, x1, x2, x3, x4, x5, x6, x7] e) ∧ (con.getD i 0).testBit (own g) = true) :
    toldAt P acc con n C i o (oCell g n (.cells #[y0, y1, y2, y3, y4, y5, y6, y7] e)) F a := by
  intro w own hCw hf
  obtain ⟨hng, hg, hc⟩ := hF w own hCw hf
  have hb := laidOver_but w g y0 y1 y2 y3 y4 y5 y6 y7
  refine Gives.skip (hr w hg) ⟨(hC _ _ _ hCw hb fun k e => by cases e; exact hng).2, moved_but hb hng hc, hng, .inr ?_, laidOver_at hg _ _ _ _ _ _ _ _⟩
  unfold ownNext
  rw [if_pos (.inr hc)]
/-- a new block's bit -/
theorem at_con {w : World} {n g k c : Nat} {ob : Obj} {own : Nat → Nat} (h1 : n ≤ g) (h2 : blocksOf n own k g) (h3 : w.heap[g]? = some ob) (hc : c.testBit k = true) : n ≤ g ∧ w.heap[g]? = some ob ∧ c.testBit (own g) = true := by
  refine ⟨h1, h3, ?_⟩
  rcases h2 with h | h
  · omega
  · rw [h]; exact hc
/-- what a store of a whole value leaves, by what the store is given -/
def oFill (n : Nat) (e : TypeId) (vs : List Value) : Tell := ⟨fun _ w S => ∀ g cs, vs = [.pointer (some ⟨g, 0, none⟩), .agg cs] → n ≤ g ∧ S g ∧ w.heap[g]? = some (.cells cs e), fun _ w w' S S' hs hb h g cs e => by
  obtain ⟨h1, h2, h3⟩ := h g cs e
  have := hb g (Array.getElem?_eq_some_iff.1 h3).1 h2
  exact ⟨h1, this.1, this.2.trans h3⟩⟩
theorem K.ordT_fill {P : Program} {ops : Array Oper} {acc con : Array Nat} {n : Nat} {C : World → Prop} {Q : Act → World → (Nat → Nat) → Prop} {L : List (Option (List Value → Tell))} {i : Nat} {o : Oper} {l : List Oper} {F : Nat → Fact} {a : Act}
    {t : List Value → Tell} (vs : List Value) (hk : K.key a o = vs) (hw : Region.wanted o (yielded ops a.tmps) = true) (h1 : toldAt P acc con n C i o (t vs) F a)
    (h2 : ∀ v, K.ordT P ops acc con n C Q L (i + 1) l (factsNext con i (t vs) v F) (a.put o.dst v)) : K.ordT P ops acc con n C Q (some t :: L) i (o :: l) F a := by
  subst hk
  exact K.ordT_toldK hw h1 fun v _ _ _ _ => h2 v
theorem told_fillK {P : Program} {acc con : Array Nat} {n : Nat} {C : World → Prop} {i : Nat} {o : Oper} {F : Nat → Fact} {a : Act} (g : Nat) (e : TypeId) {x0 x1 x2 x3 x4 x5 x6 x7 : Value} (y0 y1 y2 y3 y4 y5 y6 y7 : Value)
    (hr : ∀ w, w.heap[g]? = some (.cells #[x0, x1, x2, x3, x4, x5, x6, x7] e) → (execOp a.eval o).run P w = .ok .skip (laidOver w g y0 y1 y2 y3 y4 y5 y6 y7))
    (hC : ∀ w w' row, C w → w.grownBy w' row → (∀ k, row = some k → n ≤ k) → n ≤ w.heap.size ∧ C w')
    (hF : ∀ w own, C w → (∀ k, (acc.getD i 0).testBit k = true → F k w (blocksOf n own k)) → n ≤ g ∧ w.heap[g]? = some (.cells #[x0, x1, x2, x3, x4, x5, x6, x7] e) ∧ (con.getD i 0).testBit (own g) = true) :
    toldAt P acc con n C i o (oFill n e [.pointer (some ⟨g, 0, none⟩), .agg #[y0, y1, y2, y3, y4, y5, y6, y7]]) F a := by
  intro w own hCw hf
  refine GivesR.mono (fun v w' ⟨h1, h2, h3⟩ => ⟨h1, h2, fun g' cs e' => ?_⟩) (told_fill g e y0 y1 y2 y3 y4 y5 y6 y7 hr hC hF w own hCw hf)
  simp only [List.cons.injEq, Value.pointer.injEq, Option.some.injEq, Addr.mk.injEq, and_true, Value.agg.injEq] at e'
  obtain ⟨rfl, rfl⟩ := e'
  exact h3
end Go.Proofs.Ytlihieefjlpadaa
