/- A page (any big value) is laid into a new block of a region's own. -/
import Derived.Test.YtdnmddfnlkaahaaPageL
import Derived.Test.YtdnmddfnlkaahaaOrdK
namespace Go.Proofs.Ytdnmddfnlkaahaa
open Go Go.RowKit
attribute [local irreducible] Go.wpQuiet

theorem moved_but {n c : Nat} {w w' : World} {own : Nat → Nat} {g : Nat} (hb : w.grownBy w' (some g)) (hn : n ≤ g) (hc : c.testBit (own g) = true) : Moved n c w own w' :=
  ⟨hb.size, fun b hb2 hor => hb.block b hb2 fun e => by
    simp only [Option.some.injEq] at e
    subst e
    rcases hor with h | h
    · omega
    · rw [hc] at h; cases h⟩
/-- a new block's bit -/
theorem at_con {w : World} {n g k c : Nat} {ob : Obj} {own : Nat → Nat} (h1 : n ≤ g) (h2 : blocksOf n own k g) (h3 : w.heap[g]? = some ob) (hc : c.testBit k = true) : n ≤ g ∧ w.heap[g]? = some ob ∧ c.testBit (own g) = true := by
  refine ⟨h1, h3, ?_⟩
  rcases h2 with h | h
  · omega
  · rw [h]; exact hc
/-- what a store of a whole value leaves, by what the store is given -/
def oFill (n : Nat) (e : TypeId) (vs : List Value) : Tell := ⟨fun _ w S => ∀ g cs, vs = [.pointer (some ⟨g, 0, none⟩), .agg cs] → n ≤ g ∧ S g ∧ w.heap[g]? = some (.cells cs e), fun _ w w' S S' hs hb h g cs e => by
  obtain ⟨h1, h2, h3⟩ := h g cs e
  have := hb g (Array.getElem?_eq_some_iff.1 h3).1 h2
  exact ⟨h1, this.1, this.2.trans h3⟩⟩
theorem K.ordT_fill {P : Program} {ops : Array Oper} {acc con : Array Nat} {n : Nat} {C : World → Prop} {Q : Act → World → (Nat → Nat) → Prop} {L : List (Option (List Value → Tell))} {i : Nat} {o : Oper} {l : List Oper} {F : Nat → Fact} {a : Act}
    {t : List Value → Tell} (vs : List Value) (hk : K.key a o = vs) (hw : Region.wanted o (yielded ops a.tmps) = true) (h1 : toldAt P acc con n C i o (t vs) F a)
    (h2 : ∀ v, K.ordT P ops acc con n C Q L (i + 1) l (factsNext con i (t vs) v F) (a.put o.dst v)) : K.ordT P ops acc con n C Q (some t :: L) i (o :: l) F a := by
  subst hk
  exact K.ordT_toldK hw h1 fun v _ _ _ _ => h2 v
theorem exec_allocBig {P : Program} {t : TypeId} {k : Nat} {zs : List Value} (B : BigOk P t k zs) {o : Oper} {a : Act} (w : World) (ho : o.op = .alloc t) : (execOp a.eval o).run P w = .ok (.value (.pointer (some ⟨w.heap.size, 0, none⟩))) (w.alloc (.cells zs.toArray t)) := by
  unfold execOp
  simp only [ho, Sem.run_bind, run_allocBig B w, Result.andThen_ok, Sem.run_pure]
theorem told_fillBig {P : Program} {acc con : Array Nat} {n : Nat} {C : World → Prop} {i : Nat} {o : Oper} {F : Nat → Fact} {a : Act} {t : TypeId} {k : Nat} {zs : List Value} (B : BigOk P t k zs) (x y : Operand) (ho : o.op = .store t x y) (g : Nat) (e : TypeId) (cs : List Value) {cur : Array Value}
    (hx : a.eval x = .pointer (some ⟨g, 0, none⟩)) (hy : a.eval y = .agg cs.toArray) (hk : cs.length = k) (hcur : cur.size = k) (h1 : ∀ v ∈ cs, v.oneCell' = true)
    (hC : ∀ w w' row, C w → w.grownBy w' row → (∀ k, row = some k → n ≤ k) → n ≤ w.heap.size ∧ C w')
    (hF : ∀ w own, C w → (∀ k, (acc.getD i 0).testBit k = true → F k w (blocksOf n own k)) → n ≤ g ∧ w.heap[g]? = some (.cells cur e) ∧ (con.getD i 0).testBit (own g) = true) :
    toldAt P acc con n C i o (oFill n e [.pointer (some ⟨g, 0, none⟩), .agg cs.toArray]) F a := by
  intro w own hCw hf
  obtain ⟨hng, hg, hc⟩ := hF w own hCw hf
  have hb := row_but w g (cur.toList.take 0 ++ cs ++ cur.toList.drop (0 + k)).toArray
  refine Gives.storeBig B x y ho hx cs hy hg hk (by omega) h1 ⟨(hC _ _ _ hCw hb fun k e => by cases e; exact hng).2, moved_but hb hng hc, fun g' cs' e' => ?_⟩
  simp only [List.cons.injEq, Value.pointer.injEq, Option.some.injEq, Addr.mk.injEq, and_true, Value.agg.injEq] at e'
  obtain ⟨rfl, rfl⟩ := e'
  refine ⟨hng, .inr ?_, ?_⟩
  · unfold ownNext
    rw [if_pos (.inr hc)]
  · rw [setRow_heap w g _ _ _ _ hg, List.take_zero, List.nil_append, Nat.zero_add, @List.drop_eq_nil_of_le _ cur.toList k (by simp; omega), List.append_nil]
end Go.Proofs.Ytdnmddfnlkaahaa
