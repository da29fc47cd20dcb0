/- What the script's laws share. -/
import Derived.Test.YtndndklaaegifaaFit18
import Derived.Test.YtndndklaaegifaaSameQ
import Derived.Test.YtndndklaaegifaaTame
namespace Go.Proofs.Ytndndklaaegifaa
open Go Go.RowKit
attribute [local irreducible] Go.wpQuiet

theorem OwnQ.slqin {w : World} {base : Nat} {X S : Nat → Prop} {v : Value} {qs : List Rq} (h : OwnQ w base X v qs) (h1 : ∀ g, g < w.heap.size → base ≤ g → S g) (h2 : ∀ b, X b → S b) : SlQin w S v qs := by
  have hlt := h.lt
  obtain ⟨css, ho, hl, hd⟩ := h
  refine ⟨css, ho.slc (by decide), fun _ => in_is' fun g hg => h1 g (hlt g hg).2 (hlt g hg).1, hl, fun i hi hi' => ?_⟩
  obtain ⟨dv, e, hs, hin⟩ := hd i hi hi'
  exact ⟨dv, e, hs, fun hne a n c ev => h2 _ (hin hne a n c ev).1⟩
/-- a new script -/
theorem scr_new (w : World) : (w.alloc (.cells #[.slice none 0 0] 28)).heap[w.heap.size]? = some (.cells #[.slice none 0 0] 28) := heap_alloc_new w _
theorem encL_append (a b : List Rq) : encL (a ++ b) = encL a ++ encL b := by
  unfold encL
  rw [List.flatMap_append]
/-- the cells of a slice of requests are laid in one place -/
theorem SlQ.cells_one {w : World} {v : Value} {qs : List Rq} (h : SlQ w v qs) : ∃ css, SlC w v 10 css ∧ css.length = qs.length ∧ (∀ i (h : i < css.length) (h' : i < qs.length), ∃ dv, css[i] = qs[i].cells dv ∧ SlB w dv qs[i].data) ∧ (∀ y ∈ css, y.length = 10) ∧ ∀ y ∈ css, ∀ c ∈ y, c.oneCell' = true := by
  obtain ⟨css, h1, h2, h3⟩ := h
  refine ⟨css, h1, h2, h3, fun y hy => ?_, fun y hy c hc => ?_⟩
  · obtain ⟨i, hi, rfl⟩ := List.mem_iff_getElem.1 hy
    obtain ⟨dv, e, _⟩ := h3 i hi (by omega)
    rw [e]
    rfl
  · obtain ⟨i, hi, rfl⟩ := List.mem_iff_getElem.1 hy
    obtain ⟨dv, e, hd⟩ := h3 i hi (by omega)
    obtain ⟨a, n, c', rfl⟩ := hd.shape
    rw [e] at hc
    exact Rq.cells_one c hc
/-- **append(v, u...)** of requests, v the call's own; the data lie where they lay at the world w0 -/
theorem Gives.appendQs {o : Oper} {a : Act} {w0 w : World} {S : Value → World → Prop} (s x : Operand)
    (ho : o.op = .call { callee := .builtin .append, args := #[s, x], argTypes := #[22, 22] }) {v u : Value} {ps qs : List Rq} {css : List (List Value)} (hs : a.eval s = v) (hx : a.eval x = u) (hk0 : Keep w0 w)
    (hown : OwnK w w0.heap.size 34 10 v css) (hl : css.length = ps.length) (hel : ∀ i (h : i < css.length) (h' : i < ps.length), ∃ dv, css[i] = ps[i].cells dv ∧ SlB w0 dv ps[i].data) (hu : SlQ w0 u qs) (hn : ps.length + qs.length ≤ 1000000000)
    (h : ∀ v' w' css', OwnK w' w0.heap.size 34 10 v' css' → css'.length = (ps ++ qs).length → (∀ i (h : i < css'.length) (h' : i < (ps ++ qs).length), ∃ dv, css'[i] = (ps ++ qs)[i].cells dv ∧ SlB w0 dv (ps ++ qs)[i].data) → Keep w0 w' → S v' w') : Gives Try.prog o a w S := by
  obtain ⟨dss, h1, h2, h3, h4, h5⟩ := hu.cells_one
  refine Gives.appendK elemQ s x ho hs hx hown (h1.keep hk0) h4 h5 (by unfold maxLen; omega) (by omega) hk0.size fun v' w' hk hg => h v' w' _ hk (by simp [hl, h2]) (fun i hi hi' => ?_) (hk0.grown hg hk0.size (fun j e => (hown.lt j e).1))
  by_cases hlt : i < css.length
  · obtain ⟨dv, e, hd⟩ := hel i hlt (by omega)
    rw [List.getElem_append_left hlt, List.getElem_append_left (by omega)]
    exact ⟨dv, e, hd⟩
  · obtain ⟨dv, e, hd⟩ := h3 (i - css.length) (by simp at hi; omega) (by simp at hi'; omega)
    rw [List.getElem_append_right (by omega), List.getElem_append_right (by omega)]
    simp only [← hl]
    exact ⟨dv, e, hd⟩
theorem SlQin.weak {w : World} {S S' : Nat → Prop} {v : Value} {qs : List Rq} (h : SlQin w S v qs) (hs : ∀ b, S b → S' b) : SlQin w S' v qs := by
  obtain ⟨css, h1, h2, h3, h4⟩ := h
  refine ⟨css, h1, fun hne => (h2 hne).mono hs, h3, fun i hi hi' => ?_⟩
  obtain ⟨dv, e, hd, hin⟩ := h4 i hi hi'
  exact ⟨dv, e, hd, fun hne => (hin hne).mono hs⟩
theorem Own.at {w w' : World} {base : Nat} {e : TypeId} {v : Value} {xs : List Value} (h : Own w base e v xs) (hk : ∀ g, v.ownBlock = some g → g < w.heap.size → w'.heap[g]? = w.heap[g]?) : Own w' base e v xs := by
  refine ⟨h.1, ?_⟩
  rcases h.2 with h | ⟨g, cap, cur, hv, hg, hh, r⟩
  · exact .inl h
  · refine .inr ⟨g, cap, cur, hv, hg, ?_, r⟩
    rw [hk g (by rw [hv]; rfl) (Array.getElem?_eq_some_iff.1 hh).1]
    exact hh
/-- a pair of scripts -/
structure Two (w : World) (ga gb : Nat) (va vb : Value) : Prop where
  a : w.heap[ga]? = some (.cells #[va] 28)
  b : w.heap[gb]? = some (.cells #[vb] 28)
end Go.Proofs.Ytndndklaaegifaa
