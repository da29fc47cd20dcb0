/- A range over a function whose value is a method bound to its receiver (first arguments), the body told which element comes: this claim's own law; the library's laws (RangeFuncOwn and on) are for values without first arguments. -/
import Derived.Test.YtdnmddfnlkaahaaPageL
import Derived.RangeFuncNested
import Derived.RangeFuncBound
import Derived.RangeFuncCalls
import Derived.RangeFuncLeaves
import Derived.Shelf.Abstract
import Derived.OwnWalkIn
import Derived.TacticsInMore
import Derived.LoopNIn
import Derived.LoopIn
namespace Go.Proofs.Ytdnmddfnlkaahaa
open Go Go.RowKit

/-- the iterator gives these elements, whatever the caller holds of blocks that were there -/
def SeqF {α : Type} (F : Fence) (n : Nat) (P : Program) (g : Nat) (mk : Value → Array Value) (encs : α → Array Value) (n₀ : Nat) (xs : List α) (w : World) : Prop :=
  ∀ (l : Nat) (J Jx : List α → World → Prop) (W : World), Below n₀ w W → n₀ ≤ W.heap.size →
    (∀ s A B, J s A → Below W.heap.size A B → J s B) → (∀ s A B, Jx s A → Below W.heap.size A B → Jx s B) →
    (∀ s A, J s A → W.heap.size ≤ A.heap.size) →
    (∀ pre x post W1, xs = pre ++ x :: post → J pre W1 → YieldAt F (n - 1) P l (encs x) W1 fun e W' =>
      (e = .returned (.bool true) ∧ J (pre ++ [x]) W' ∧ Below n₀ W1 W') ∨ (e = .returned (.bool false) ∧ Jx (pre ++ [x]) W')) →
    J [] W →
    CallsIn F n P g (mk (.func (.yield l) #[] #[])) W fun e W' => (∃ v, e = .returned v) ∧ (J xs W' ∨ ∃ pre, pre <+: xs ∧ Jx pre W')

/-- the ways out of a round -/
def postB {α : Type} (n₀ : Nat) (I : List α → World → Prop) (Ix : Code → List α → World → Prop) (s : List α) (W : World) : Exit → Act → World → Prop
  | .normal, _, W' => KeepsOthers W W' ∧ Below n₀ W W' ∧ I s W'
  | .ret, _, W' => KeepsOthers W W' ∧ Ix .ret s W'
  | .exit k, _, W' => KeepsOthers W W' ∧ Ix (.exit k) s W'
  | _, _, _ => False

section
variable {F : Fence} {n : Nat} {P : Program}
theorem wpIn_rangeFuncB {α : Type} {g : Operand} {ps : Array Tmp} {assign body : Code} {Q : Exit → Act → World → Prop} {a : Act} {w : World}
    (hro : F.round = none) (h1 : 1 ≤ n) {gf : Nat} {fst : Array Value} (hg : a.eval g = .func (.func gf) fst #[]) (hFg : F.fn gf) (eg : ∀ args w, (callFunc gf args).run P w = .ok (.enter gf args) w)
    {encs : α → Array Value} {n₀ : Nat} (hn₀ : n₀ ≤ w.heap.size) {xs : List α} (hseq : SeqF F (n - 1) P gf (fun y => fst ++ #[y]) encs n₀ xs w) (hps : ∀ x, (encs x).size = ps.size)
    (I : List α → World → Prop) (Ix : Code → List α → World → Prop) (hI : ∀ s A B, I s A → Below w.heap.size A B → I s B) (hIx : ∀ c s A B, Ix c s A → Below w.heap.size A B → Ix c s B) (h0 : I [] w) (a₁ : α → Act)
    (hassign : ∀ (l : Nat) (x : α) (W : World) (K : Act → World → Prop), K (a₁ x) W →
      assign.wpIn (F.inRound l) (n - 1 - 1) P (Exit.then K (fun _ _ _ => False)) { tmps := (ps.zip (encs x)).foldl (fun t (p, v) => t.setIfInBounds p v) a.tmps, defers := [] } W)
    (hbody : ∀ (l : Nat) (pre : List α) (x : α) (post : List α) (W : World), xs = pre ++ x :: post → w.heap.size ≤ W.heap.size → I pre W → body.wpIn (F.inRound l) (n - 1 - 1) P (postB n₀ I Ix (pre ++ [x]) W) (a₁ x) W)
    (hdone : ∀ (D : Nat) (W : World), w.heap.size ≤ D → I xs W → W.heap[D]? = some (.deferred (some [])) → Q .normal { a with defers := { target := .collected D, args := #[] } :: a.defers } W)
    (hstop : ∀ (D : Nat) (c : Code) (pre : List α) (W : World), w.heap.size ≤ D → pre <+: xs → Ix c pre W → W.heap[D]? = some (.deferred (some [])) → c.wpIn F n P Q { a with defers := { target := .collected D, args := #[] } :: a.defers } W) :
    (Code.rangeFunc g ps assign body).wpIn F n P Q a w := by
  refine wpIn_rangeFunc fun fn hfn => ?_
  rw [hro]
  let R : LoopState → Option Code → Loop := fun st pe => { state := st, pending := pe, fn, tmps := a.tmps, params := ps, assign, body, defers := w.heap.size }
  have hent := run_enterLoop_outer (P := P) (w := w) fn a.tmps ps assign body
  have b1 : Below w.heap.size w ((w.alloc (.deferred (some []))).alloc (.loop (R .ready none))) := ((Below.refl _ w).alloc (Nat.le_refl _) _).alloc (by simp) _
  have hL1 : ((w.alloc (.deferred (some []))).alloc (.loop (R .ready none))).heap[w.heap.size + 1]? = some (.loop (R .ready none)) := by
    have := World.alloc_heap_new (w.alloc (.deferred (some []))) (.loop (R .ready none))
    rwa [World.size_alloc] at this
  have hK1 : ((w.alloc (.deferred (some []))).alloc (.loop (R .ready none))).heap[w.heap.size]? = some (.deferred (some [])) :=
    (Below.heap_alloc _ _ _ (by simp)).trans (World.alloc_heap_new w _)
  have hz1 : ((w.alloc (.deferred (some []))).alloc (.loop (R .ready none))).heap.size = w.heap.size + 2 := by simp
  have hent : (Instr.enterLoop fn a.tmps ps assign body none).run P w = .ok (w.heap.size + 1, [{ target := .collected w.heap.size, args := #[] }]) ((w.alloc (.deferred (some []))).alloc (.loop (R .ready none))) := hent
  generalize (w.alloc (.deferred (some []))).alloc (.loop (R .ready none)) = W1 at *
  have put : ∀ (W : World) (o o' : Obj), W.heap[w.heap.size + 1]? = some o → Below w.heap.size W (W.putObj (w.heap.size + 1) o') := fun W o o' h =>
    (Below.refl _ W).grown (grownBy_putObj' W _ o') (by have := (Array.getElem?_eq_some_iff.1 h).1; omega) (fun k e => by cases e; omega)
  refine ⟨w.heap.size + 1, [{ target := .collected w.heap.size, args := #[] }], W1, { target := .fn (.func gf) #[], args := fst ++ #[.func (.yield (w.heap.size + 1)) #[] #[]] }, W1, gf,
    fst ++ #[.func (.yield (w.heap.size + 1)) #[] #[]], W1, hent, ?_, ?_, ?_, fun _ => h1, ?_⟩
  · simp only [resolve, hg]
    simp [go_sem]
  · intro f' hf'
    simp [Target.leads] at hf'
    subst hf'
    exact hFg
  · simp [invoke, go_sem, eg]
  refine (hseq (w.heap.size + 1)
    (fun s W => I s W ∧ W1.heap.size ≤ W.heap.size ∧ W.heap[w.heap.size + 1]? = some (.loop (R .ready none)) ∧ W.heap[w.heap.size]? = some (.deferred (some [])))
    (fun s W => ∃ c, Ix c s W ∧ W1.heap.size ≤ W.heap.size ∧ W.heap[w.heap.size + 1]? = some (.loop (R .done (some c))) ∧ W.heap[w.heap.size]? = some (.deferred (some [])))
    W1 (b1.mono hn₀) (Nat.le_trans hn₀ b1.size)
    (fun s A B h hb => ⟨hI s A B h.1 (hb.mono b1.size), Nat.le_trans h.2.1 hb.size, (hb.block _ (by omega)).trans h.2.2.1, (hb.block _ (by omega)).trans h.2.2.2⟩)
    (fun s A B h hb => by
      obtain ⟨c, h1, h2, h3, h4⟩ := h
      exact ⟨c, hIx c s A B h1 (hb.mono b1.size), Nat.le_trans h2 hb.size, (hb.block _ (by omega)).trans h3, (hb.block _ (by omega)).trans h4⟩)
    (fun s A h => h.2.1)
    ?_ ⟨hI _ _ _ h0 b1, Nat.le_refl _, hL1, hK1⟩).mono ?_
  · rintro pre x post W hx ⟨hi, hs, hl, hk⟩
    have hy := run_yield (P := P) (args := encs x) hl (hps x)
    refine ⟨fn, _, assign, body, hy, roundIn_of_wpIn hfn (hassign _ x W _ ⟨_, run_beginRound hl rfl, ?_⟩)⟩
    have hlt : w.heap.size + 1 < W.heap.size := by omega
    have hl2 : (W.putObj (w.heap.size + 1) (.loop (R .busy none))).heap[w.heap.size + 1]? = some (.loop (R .busy none)) := World.putObj_heap_same hlt
    have hk2 : (W.putObj (w.heap.size + 1) (.loop (R .busy none))).heap[w.heap.size]? = some (.deferred (some [])) := (World.putObj_heap_other (by omega)).trans hk
    have hb2 := put W _ (.loop (R .busy none)) hl
    refine wpIn_mono (hbody _ pre x post _ hx (show w.heap.size ≤ (W.putObj (w.heap.size + 1) (.loop (R .busy none))).heap.size from by have := hb2.size; omega) (hI _ _ _ hi hb2)) ?_
    have fin : ∀ (jump : Option Code) (W3 : World), KeepsOthers (W.putObj (w.heap.size + 1) (.loop (R .busy none))) W3 →
        (Instr.endRound (w.heap.size + 1) jump).run P W3 = .ok (.bool jump.isNone) (W3.putObj (w.heap.size + 1) (.loop (R (if jump.isNone then .ready else .done) jump))) ∧
        Below w.heap.size W3 (W3.putObj (w.heap.size + 1) (.loop (R (if jump.isNone then .ready else .done) jump))) ∧
        W1.heap.size ≤ (W3.putObj (w.heap.size + 1) (.loop (R (if jump.isNone then .ready else .done) jump))).heap.size ∧
        (W3.putObj (w.heap.size + 1) (.loop (R (if jump.isNone then .ready else .done) jump))).heap[w.heap.size + 1]? = some (.loop (R (if jump.isNone then .ready else .done) jump)) ∧
        (W3.putObj (w.heap.size + 1) (.loop (R (if jump.isNone then .ready else .done) jump))).heap[w.heap.size]? = some (.deferred (some [])) := fun jump W3 hk3 => by
      have hl3 := hk3.same _ _ hl2 rfl
      have hb3 := put W3 _ (.loop (R (if jump.isNone then .ready else .done) jump)) hl3
      exact ⟨run_endRound (P := P) jump hl3, hb3, by have := hb2.size; have := hk3.size; have := hb3.size; omega, World.putObj_heap_same (Array.getElem?_eq_some_iff.1 hl3).1, (World.putObj_heap_other (by omega)).trans (hk3.same _ _ hk2 rfl)⟩
    rintro e a3 W3 hp
    match e, hp with
    | .normal, ⟨hk3, hb3, hi3⟩ =>
      obtain ⟨hr, q1, q2, q3, q4⟩ := fin none W3 hk3
      exact ⟨_, _, hr, .inl ⟨rfl, ⟨hI _ _ _ hi3 q1, q2, q3, q4⟩, ((hb2.mono hn₀).trans hb3).trans (q1.mono hn₀)⟩⟩
    | .ret, ⟨hk3, hi3⟩ =>
      obtain ⟨hr, q1, q2, q3, q4⟩ := fin (some .ret) W3 hk3
      exact ⟨_, _, hr, .inr ⟨rfl, .ret, hIx _ _ _ _ hi3 q1, q2, q3, q4⟩⟩
    | .exit k, ⟨hk3, hi3⟩ =>
      obtain ⟨hr, q1, q2, q3, q4⟩ := fin (some (.exit k)) W3 hk3
      exact ⟨_, _, hr, .inr ⟨rfl, .exit k, hIx _ _ _ _ hi3 q1, q2, q3, q4⟩⟩
  · rintro e W2 ⟨⟨v, rfl⟩, (⟨hi, hs, hl, hk⟩ | ⟨pre, hpre, c, hi, hs, hl, hk⟩)⟩
    · have hb := put W2 _ (.loop { R .ready none with state := .exhausted }) hl
      exact ⟨none, _, run_endLoop (P := P) hl (by intro h; cases h), hdone _ _ (Nat.le_refl _) (hI _ _ _ hi hb) ((World.putObj_heap_other (by omega)).trans hk)⟩
    · have hb := put W2 _ (.loop { R .done (some c) with state := .exhausted }) hl
      exact ⟨some c, _, run_endLoop (P := P) hl (by intro h; cases h), hstop _ c pre _ (Nat.le_refl _) hpre (hIx _ _ _ _ hi hb) ((World.putObj_heap_other (by omega)).trans hk)⟩
/-- .. where nothing is done but the two variables told -/
theorem wpIn_rangeFuncB2 {α : Type} {g : Operand} {u v : Tmp} {body : Code} {Q : Exit → Act → World → Prop} {a : Act} {w : World}
    (hro : F.round = none) (h1 : 1 ≤ n) {gf : Nat} {fst : Array Value} (hg : a.eval g = .func (.func gf) fst #[]) (hFg : F.fn gf) (eg : ∀ args w, (callFunc gf args).run P w = .ok (.enter gf args) w)
    (e1 e2 : α → Value) {n₀ : Nat} (hn₀ : n₀ ≤ w.heap.size) {xs : List α} (hseq : SeqF F (n - 1) P gf (fun y => fst ++ #[y]) (fun x => #[e1 x, e2 x]) n₀ xs w)
    (I : List α → World → Prop) (Ix : Code → List α → World → Prop) (hI : ∀ s A B, I s A → Below w.heap.size A B → I s B) (hIx : ∀ c s A B, Ix c s A → Below w.heap.size A B → Ix c s B) (h0 : I [] w)
    (hbody : ∀ (l : Nat) (pre : List α) (x : α) (post : List α) (W : World), xs = pre ++ x :: post → w.heap.size ≤ W.heap.size → I pre W → body.wpIn (F.inRound l) (n - 1 - 1) P (postB n₀ I Ix (pre ++ [x]) W) { tmps := (a.tmps.setIfInBounds u (e1 x)).setIfInBounds v (e2 x), defers := [] } W)
    (hdone : ∀ (D : Nat) (W : World), w.heap.size ≤ D → I xs W → W.heap[D]? = some (.deferred (some [])) → Q .normal { a with defers := { target := .collected D, args := #[] } :: a.defers } W)
    (hstop : ∀ (D : Nat) (c : Code) (pre : List α) (W : World), w.heap.size ≤ D → pre <+: xs → Ix c pre W → W.heap[D]? = some (.deferred (some [])) → c.wpIn F n P Q { a with defers := { target := .collected D, args := #[] } :: a.defers } W) :
    (Code.rangeFunc g #[u, v] .skip body).wpIn F n P Q a w :=
  wpIn_rangeFuncB hro h1 hg hFg eg hn₀ hseq (fun _ => rfl) I Ix hI hIx h0 (fun x => { tmps := (a.tmps.setIfInBounds u (e1 x)).setIfInBounds v (e2 x), defers := [] })
    (fun l x W K hK => wpIn_skip (by simpa [Exit.then] using hK)) hbody hdone hstop
end
end Go.Proofs.Ytdnmddfnlkaahaa
