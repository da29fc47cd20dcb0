/- Requests in memory. -/
import Derived.Test.YtndndklaaegifaaReqL
import Derived.Test.YtndndklaaegifaaSlK
import Derived.Test.YtndndklaaegifaaReader2
import Derived.Test.YtndndklaaegifaaTell
import Derived.Test.YtndndklaaegifaaAhead
namespace Go.Proofs.Ytndndklaaegifaa
open Go Go.RowKit
attribute [local irreducible] Go.wpQuiet

def Rq.cells (q : Rq) (dv : Value) : List Value := [.int .i64 q.kind, .int .i64 q.tenant, .int .i64 q.handle, .int .i64 q.table, .string ⟨q.key.toArray⟩, .string ⟨q.value.toArray⟩, .string ⟨q.to_.toArray⟩, .int .i64 q.n, .int .u64 (q.mask : Int), dv]
theorem Rq.cells_length (q : Rq) (dv : Value) : (q.cells dv).length = 10 := rfl
theorem Rq.cells_one {q : Rq} {a : Option Addr} {n c : Nat} : ∀ u ∈ q.cells (.slice a n c), u.oneCell' = true := by
  intro u hu
  simp only [Rq.cells, List.mem_cons, List.not_mem_nil, or_false] at hu
  rcases hu with rfl | rfl | rfl | rfl | rfl | rfl | rfl | rfl | rfl | rfl <;> rfl
/-- at block g there stands a request's cells -/
def RqAt (w : World) (g : Nat) (q : Rq) (dv : Value) : Prop := w.heap[g]? = some (.cells #[.int .i64 q.kind, .int .i64 q.tenant, .int .i64 q.handle, .int .i64 q.table, .string ⟨q.key.toArray⟩, .string ⟨q.value.toArray⟩, .string ⟨q.to_.toArray⟩, .int .i64 q.n, .int .u64 (q.mask : Int), dv] 34)
theorem RqAt.keep {w w' : World} {g : Nat} {q : Rq} {dv : Value} (hk : Keep w w') (h : RqAt w g q dv) : RqAt w' g q dv := (hk.block g (Array.getElem?_eq_some_iff.1 h).1).trans h
theorem cells10 {w : World} {g : Nat} {a b c d e f h i j k : Value} {t : TypeId} (hg : w.heap[g]? = some (.cells #[a, b, c, d, e, f, h, i, j, k] t)) : w.cell? ⟨g, 0, none⟩ = some a ∧ w.cell? ⟨g, 1, none⟩ = some b ∧ w.cell? ⟨g, 2, none⟩ = some c ∧ w.cell? ⟨g, 3, none⟩ = some d ∧ w.cell? ⟨g, 4, none⟩ = some e ∧ w.cell? ⟨g, 5, none⟩ = some f ∧ w.cell? ⟨g, 6, none⟩ = some h ∧ w.cell? ⟨g, 7, none⟩ = some i ∧ w.cell? ⟨g, 8, none⟩ = some j ∧ w.cell? ⟨g, 9, none⟩ = some k := by
  unfold World.cell?
  simp [hg]
theorem free10 {w : World} {g : Nat} {cs : Array Value} {t : TypeId} (hg : w.heap[g]? = some (.cells cs t)) : w.frozen? ⟨g, 0, none⟩ = false ∧ w.frozen? ⟨g, 1, none⟩ = false ∧ w.frozen? ⟨g, 2, none⟩ = false ∧ w.frozen? ⟨g, 3, none⟩ = false ∧ w.frozen? ⟨g, 4, none⟩ = false ∧ w.frozen? ⟨g, 5, none⟩ = false ∧ w.frozen? ⟨g, 6, none⟩ = false ∧ w.frozen? ⟨g, 7, none⟩ = false ∧ w.frozen? ⟨g, 8, none⟩ = false ∧ w.frozen? ⟨g, 9, none⟩ = false := by
  have h : ∀ i, w.frozen? ⟨g, i, none⟩ = false := fun i => by
    unfold World.frozen?
    simp [hg]
  exact ⟨h 0, h 1, h 2, h 3, h 4, h 5, h 6, h 7, h 8, h 9⟩
theorem RqAt.cells {w : World} {g : Nat} {q : Rq} {dv : Value} (h : RqAt w g q dv) : w.cell? ⟨g, 0, none⟩ = some (.int .i64 q.kind) ∧ w.cell? ⟨g, 1, none⟩ = some (.int .i64 q.tenant) ∧ w.cell? ⟨g, 2, none⟩ = some (.int .i64 q.handle) ∧ w.cell? ⟨g, 3, none⟩ = some (.int .i64 q.table) ∧ w.cell? ⟨g, 4, none⟩ = some (.string ⟨q.key.toArray⟩) ∧ w.cell? ⟨g, 5, none⟩ = some (.string ⟨q.value.toArray⟩) ∧ w.cell? ⟨g, 6, none⟩ = some (.string ⟨q.to_.toArray⟩) ∧ w.cell? ⟨g, 7, none⟩ = some (.int .i64 q.n) ∧ w.cell? ⟨g, 8, none⟩ = some (.int .u64 (q.mask : Int)) ∧ w.cell? ⟨g, 9, none⟩ = some dv := cells10 h
theorem RqAt.free {w : World} {g : Nat} {q : Rq} {dv : Value} (h : RqAt w g q dv) (i : Nat) : w.frozen? ⟨g, i, none⟩ = false := by
  unfold RqAt at h
  unfold World.frozen?
  simp [h]
/-- a store into one of a request's cells -/
theorem RqAt.set {w : World} {g : Nat} {q q' : Rq} {dv dv' : Value} (h : RqAt w g q dv) (i : Nat) (u : Value) (hs : (q.cells dv).set i u = q'.cells dv') : RqAt (w.setCell ⟨g, i, none⟩ u) g q' dv' := by
  unfold RqAt at *
  have e : (#[.int .i64 q.kind, .int .i64 q.tenant, .int .i64 q.handle, .int .i64 q.table, .string ⟨q.key.toArray⟩, .string ⟨q.value.toArray⟩, .string ⟨q.to_.toArray⟩, .int .i64 q.n, .int .u64 (q.mask : Int), dv] : Array Value).setIfInBounds i u = (q'.cells dv').toArray := by
    rw [← hs]
    unfold Rq.cells
    rw [List.setIfInBounds_toArray]
  have e2 : (w.setCell ⟨g, i, none⟩ u).heap[g]? = some (.cells ((#[.int .i64 q.kind, .int .i64 q.tenant, .int .i64 q.handle, .int .i64 q.table, .string ⟨q.key.toArray⟩, .string ⟨q.value.toArray⟩, .string ⟨q.to_.toArray⟩, .int .i64 q.n, .int .u64 (q.mask : Int), dv] : Array Value).setIfInBounds i u) 34) := by
    simp [World.setCell, Array.getElem?_modify, h]
  rw [e2, e]
  rfl

/-- a slice of bytes, its block among S -/
theorem SlB.at {w w' : World} {S : Nat → Prop} {v : Value} {l : List UInt8} (h : SlB w v l) (hi : l ≠ [] → In S v) (hb : ∀ b, b < w.heap.size → S b → w'.heap[b]? = w.heap[b]?) : SlB w' v l :=
  (Sl.lasts (S := S) (S' := S) h (fun hne => hi fun e => hne (by rw [e]; rfl)) fun b hlt hS => ⟨hS, hb b hlt hS⟩).1
/-- v is a slice of requests -/
def SlQ (w : World) (v : Value) (qs : List Rq) : Prop :=
  ∃ css, SlC w v 10 css ∧ css.length = qs.length ∧ ∀ i (h : i < css.length) (h' : i < qs.length), ∃ dv, css[i] = qs[i].cells dv ∧ SlB w dv qs[i].data
theorem SlQ.keep {w w' : World} (hk : Keep w w') {v : Value} {qs : List Rq} (h : SlQ w v qs) : SlQ w' v qs := by
  obtain ⟨css, h1, h2, h3⟩ := h
  exact ⟨css, h1.keep hk, h2, fun i h h' => by
    obtain ⟨dv, e, hd⟩ := h3 i h h'
    exact ⟨dv, e, hd.keep hk⟩⟩
theorem SlQ.nil (w : World) : SlQ w (.slice none 0 0) [] := ⟨[], SlC.nil w 10, rfl, fun i h => absurd h (by simp)⟩
theorem SlQ.form {w : World} {v : Value} {qs : List Rq} (h : SlQ w v qs) : ∃ ao cap, v = .slice ao qs.length cap ∧ qs.length ≤ maxLen ∧ qs.length ≤ cap := by
  obtain ⟨css, h1, h2, _⟩ := h
  rw [← h2]
  exact h1.form
/-- an element's cells -/
theorem SlQ.elem {w : World} {ao : Option Addr} {n cap : Nat} {qs : List Rq} (h : SlQ w (.slice ao n cap) qs) (i : Nat) (hi : i < qs.length) : ∃ b off, ao = some ⟨b, off, none⟩ ∧ ∃ dv, SlB w dv qs[i].data ∧ ∀ j c, (qs[i].cells dv)[j]? = some c → w.cell? ⟨b, off + i * 10 + j, none⟩ = some c := by
  obtain ⟨css, h1, h2, h3⟩ := h
  obtain ⟨b, off, ha, hc⟩ := h1.cells (by omega)
  obtain ⟨dv, e, hd⟩ := h3 i (by omega) hi
  refine ⟨b, off, ha, dv, hd, fun j c hj => hc i (by omega) j c (by rw [e]; exact hj)⟩
theorem SlQ.first {w : World} {ao : Option Addr} {n cap : Nat} {qs : List Rq} (h : SlQ w (.slice ao n cap) qs) (hi : Nat) (h2 : hi ≤ n) : SlQ w (.slice ao hi cap) (qs.take hi) := by
  obtain ⟨css, h1, e, h3⟩ := h
  refine ⟨css.take hi, h1.first hi h2, by simp [e], fun i hx hx' => ?_⟩
  rw [List.getElem_take, List.getElem_take]
  exact h3 i (by simp at hx; omega) (by simp at hx'; omega)

/-- v is the call's own slice of requests; their data lie elsewhere, in blocks of X -/
def OwnQ (w : World) (base : Nat) (X : Nat → Prop) (v : Value) (qs : List Rq) : Prop :=
  ∃ css, OwnK w base 34 10 v css ∧ css.length = qs.length ∧ ∀ i (h : i < css.length) (h' : i < qs.length), ∃ dv, css[i] = qs[i].cells dv ∧ SlB w dv qs[i].data ∧ (qs[i].data ≠ [] → In (fun b => X b ∧ v.ownBlock ≠ some b) dv)
theorem OwnQ.nil (w : World) (base : Nat) (X : Nat → Prop) : OwnQ w base X (.slice none 0 0) [] := ⟨[], OwnK.nil w base _ 10, rfl, fun i h => absurd h (by simp)⟩
theorem OwnQ.slq {w : World} {base : Nat} {X : Nat → Prop} {v : Value} {qs : List Rq} (h : OwnQ w base X v qs) : SlQ w v qs := by
  obtain ⟨css, h1, h2, h3⟩ := h
  exact ⟨css, h1.slc (by decide), h2, fun i h h' => by
    obtain ⟨dv, e, hd, _⟩ := h3 i h h'
    exact ⟨dv, e, hd⟩⟩
theorem OwnQ.at {w w' : World} {base : Nat} {X : Nat → Prop} {v : Value} {qs : List Rq} (h : OwnQ w base X v qs) (h1 : ∀ g, v.ownBlock = some g → g < w.heap.size → w'.heap[g]? = w.heap[g]?) (h2 : ∀ b, b < w.heap.size → X b → v.ownBlock ≠ some b → w'.heap[b]? = w.heap[b]?) : OwnQ w' base X v qs := by
  obtain ⟨css, ho, hl, hd⟩ := h
  refine ⟨css, ho.at h1, hl, fun i hi hi' => ?_⟩
  obtain ⟨dv, e, hs, hin⟩ := hd i hi hi'
  exact ⟨dv, e, hs.at hin fun b hb hS => h2 b hb hS.1 hS.2, hin⟩
theorem OwnQ.keep {w w' : World} {base : Nat} {X : Nat → Prop} {v : Value} {qs : List Rq} (h : OwnQ w base X v qs) (hk : Keep w w') : OwnQ w' base X v qs := h.at (fun g _ hg => hk.block g hg) fun b hb _ _ => hk.block b hb
theorem OwnQ.lt {w : World} {base : Nat} {X : Nat → Prop} {v : Value} {qs : List Rq} (h : OwnQ w base X v qs) : ∀ g, v.ownBlock = some g → base ≤ g ∧ g < w.heap.size := by
  obtain ⟨css, ho, _⟩ := h
  exact ho.lt
/-- a change in a block that is neither its own nor one of X -/
theorem OwnQ.but {w w' : World} {base g : Nat} {X : Nat → Prop} {v : Value} {qs : List Rq} (h : OwnQ w base X v qs) (hb : w.grownBy w' (some g)) (hg : v.ownBlock ≠ some g) (hX : ¬ X g) : OwnQ w' base X v qs :=
  h.at (fun g' e hlt => hb.block g' hlt (fun e' => hg (by rw [e, e']))) fun b hlt hx _ => hb.block b hlt fun e => by cases e; exact hX hx

theorem elemQ : ElemK Try.prog 22 34 (.agg #[.int .i64 0, .int .i64 0, .int .i64 0, .int .i64 0, .string ⟨#[]⟩, .string ⟨#[]⟩, .string ⟨#[]⟩, .int .i64 0, .int .u64 0, .slice none 0 0]) 10 120 :=
  ElemK.of Try.underlying22 (by kernel_rfl) rfl (by decide)
end Go.Proofs.Ytndndklaaegifaa
