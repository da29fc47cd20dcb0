/- As RangeB, where the loop's assignment lays something (a variable of the round that is boxed). -/
import Derived.Test.YtdnmddfnlkaahaaRangeB
namespace Go.Proofs.Ytdnmddfnlkaahaa
open Go Go.RowKit

section
variable {F : Fence} {n : Nat} {P : Program}
theorem wpIn_rangeFuncX {α : Type} {g : Operand} {ps : Array Tmp} {assign body : Code} {Q : Exit → Act → World → Prop} {a : Act} {w : World}
    (hro : F.round = none) (h1 : 1 ≤ n) {gf : Nat} {fst : Array Value} (hg : a.eval g = .func (.func gf) fst #[]) (hFg : F.fn gf) (eg : ∀ args w, (callFunc gf args).run P w = .ok (.enter gf args) w)
    {encs : α → Array Value} {n₀ : Nat} (hn₀ : n₀ ≤ w.heap.size) {xs : List α} (hseq : SeqF F (n - 1) P gf (fun y => fst ++ #[y]) encs n₀ xs w) (hps : ∀ x, (encs x).size = ps.size)
    (I : List α → World → Prop) (Ix : Code → List α → World → Prop) (hI : ∀ s A B, I s A → Below w.heap.size A B → I s B) (hIx : ∀ c s A B, Ix c s A → Below w.heap.size A B → Ix c s B) (h0 : I [] w) (Ax : α → Act → World → Prop)
    (hAx : ∀ (x : α) (a : Act) (W : World) (l : Nat) (o o' : Loop), W.heap[l]? = some (.loop o) → Ax x a W → Ax x a (W.putObj l (.loop o')))
    (hassign : ∀ (l : Nat) (x : α) (W : World) (K : Act → World → Prop), n₀ ≤ W.heap.size → (∀ a₁ W', Below W.heap.size W W' → Ax x a₁ W' → K a₁ W') →
      assign.wpIn (F.inRound l) (n - 1 - 1) P (Exit.then K (fun _ _ _ => False)) { tmps := (ps.zip (encs x)).foldl (fun t (p, v) => t.setIfInBounds p v) a.tmps, defers := [] } W)
    (hbody : ∀ (l : Nat) (pre : List α) (x : α) (post : List α) (a₁ : Act) (W : World), xs = pre ++ x :: post → w.heap.size ≤ W.heap.size → I pre W → Ax x a₁ W → body.wpIn (F.inRound l) (n - 1 - 1) P (postB n₀ I Ix (pre ++ [x]) W) a₁ W)
    (hdone : ∀ (D : Nat) (W : World), w.heap.size ≤ D → I xs W → W.heap[D]? = some (.deferred (some [])) → Q .normal { a with defers := { target := .collected D, args := #[] } :: a.defers } W)
    (hstop : ∀ (D : Nat) (c : Code) (pre : List α) (W : World), w.heap.size ≤ D → pre <+: xs → Ix c pre W → W.heap[D]? = some (.deferred (some [])) → c.wpIn F n P Q { a with defers := { target := .collected D, args := #[] } :: a.defers } W) :
    (Code.rangeFunc g ps assign body).wpIn F n P Q a w := by
  refine wpIn_rangeFunc fun fn hfn => ?_
  rw [hro]
  let R : LoopState → Option Code → Loop := fun st pe => { state := st, pending := pe, fn, tmps := a.tmps, params := ps, assign, body, defers := w.heap.size }
  have hent := run_enterLoop_outer (P := P) (w := w) fn a.tmps ps assign body
  have b1 : Below w.heap.size w ((w.alloc (.deferred (some []))).alloc (.loop (R .ready none))) := ((Below.refl _ w).alloc (Nat.le_refl _) _).alloc (by simp) _
  have hL1 : ((w.alloc (.deferred (some []))).alloc (.loop (R .ready none))).heap[w.heap.size + 1]? = some (.loop (R .ready none)) := by
    have := World.alloc_heap_new (w.alloc (.deferred (some []))) (.loop (R .ready none))
    rwa [World.size_alloc] at this
  have hK1 : ((w.alloc (.deferred (some []))).alloc (.loop (R .ready none))).heap[w.heap.size]? = some (.deferred (some [])) :=
    (Below.heap_alloc _ _ _ (by simp)).trans (World.alloc_heap_new w _)
  have hz1 : ((w.alloc (.deferred (some []))).alloc (.loop (R .ready none))).heap.size = w.heap.size + 2 := by simp
  have hent : (Instr.enterLoop fn a.tmps ps assign body none).run P w = .ok (w.heap.size + 1, [{ target := .collected w.heap.size, args := #[] }]) ((w.alloc (.deferred (some []))).alloc (.loop (R .ready none))) := hent
  generalize (w.alloc (.deferred (some []))).alloc (.loop (R .ready none)) = W1 at *
  have put : ∀ (W : World) (o o' : Obj), W.heap[w.heap.size + 1]? = some o → Below w.heap.size W (W.putObj (w.heap.size + 1) o') := fun W o o' h =>
    (Below.refl _ W).grown (grownBy_putObj' W _ o') (by have := (Array.getElem?_eq_some_iff.1 h).1; omega) (fun k e => by cases e; omega)
  refine ⟨w.heap.size + 1, [{ target := .collected w.heap.size, args := #[] }], W1, { target := .fn (.func gf) #[], args := fst ++ #[.func (.yield (w.heap.size + 1)) #[] #[]] }, W1, gf,
    fst ++ #[.func (.yield (w.heap.size + 1)) #[] #[]], W1, hent, ?_, ?_, ?_, fun _ => h1, ?_⟩
  · simp only [resolve, hg]
    simp [go_sem]
  · intro f' hf'
    simp [Target.leads] at hf'
    subst hf'
    exact hFg
  · simp [invoke, go_sem, eg]
  refine (hseq (w.heap.size + 1)
    (fun s W => I s W ∧ W1.heap.size ≤ W.heap.size ∧ W.heap[w.heap.size + 1]? = some (.loop (R .ready none)) ∧ W.heap[w.heap.size]? = some (.deferred (some [])))
    (fun s W => ∃ c, Ix c s W ∧ W1.heap.size ≤ W.heap.size ∧ W.heap[w.heap.size + 1]? = some (.loop (R .done (some c))) ∧ W.heap[w.heap.size]? = some (.deferred (some [])))
    W1 (b1.mono hn₀) (Nat.le_trans hn₀ b1.size)
    (fun s A B h hb => ⟨hI s A B h.1 (hb.mono b1.size), Nat.le_trans h.2.1 hb.size, (hb.block _ (by omega)).trans h.2.2.1, (hb.block _ (by omega)).trans h.2.2.2⟩)
    (fun s A B h hb => by
      obtain ⟨c, h1, h2, h3, h4⟩ := h
      exact ⟨c, hIx c s A B h1 (hb.mono b1.size), Nat.le_trans h2 hb.size, (hb.block _ (by omega)).trans h3, (hb.block _ (by omega)).trans h4⟩)
    (fun s A h => h.2.1)
    ?_ ⟨hI _ _ _ h0 b1, Nat.le_refl _, hL1, hK1⟩).mono ?_
  · rintro pre x post V hx ⟨hi, hs, hl, hk⟩
    have hy := run_yield (P := P) (args := encs x) hl (hps x)
    refine ⟨fn, _, assign, body, hy, roundIn_of_wpIn hfn (hassign _ x V _ (by have := b1.size; omega) fun a₁ W hbV hax => ?_)⟩
    have hzV := hbV.size
    have hbV0 : Below n₀ V W := hbV.mono (by have := b1.size; omega)
    replace hi := hI _ _ _ hi (hbV.mono (Nat.le_trans b1.size hs))
    replace hl := (hbV.block _ (by omega)).trans hl
    replace hk := (hbV.block _ (by omega)).trans hk
    replace hs := Nat.le_trans hs hzV
    refine ⟨_, run_beginRound hl rfl, ?_⟩
    have hlt : w.heap.size + 1 < W.heap.size := by omega
    have hl2 : (W.putObj (w.heap.size + 1) (.loop (R .busy none))).heap[w.heap.size + 1]? = some (.loop (R .busy none)) := World.putObj_heap_same hlt
    have hk2 : (W.putObj (w.heap.size + 1) (.loop (R .busy none))).heap[w.heap.size]? = some (.deferred (some [])) := (World.putObj_heap_other (by omega)).trans hk
    have hb2 := put W _ (.loop (R .busy none)) hl
    refine wpIn_mono (hbody _ pre x post a₁ _ hx (show w.heap.size ≤ (W.putObj (w.heap.size + 1) (.loop (R .busy none))).heap.size from by have := hb2.size; omega) (hI _ _ _ hi hb2) (hAx _ _ _ _ _ _ hl hax)) ?_
    have fin : ∀ (jump : Option Code) (W3 : World), KeepsOthers (W.putObj (w.heap.size + 1) (.loop (R .busy none))) W3 →
        (Instr.endRound (w.heap.size + 1) jump).run P W3 = .ok (.bool jump.isNone) (W3.putObj (w.heap.size + 1) (.loop (R (if jump.isNone then .ready else .done) jump))) ∧
        Below w.heap.size W3 (W3.putObj (w.heap.size + 1) (.loop (R (if jump.isNone then .ready else .done) jump))) ∧
        W1.heap.size ≤ (W3.putObj (w.heap.size + 1) (.loop (R (if jump.isNone then .ready else .done) jump))).heap.size ∧
        (W3.putObj (w.heap.size + 1) (.loop (R (if jump.isNone then .ready else .done) jump))).heap[w.heap.size + 1]? = some (.loop (R (if jump.isNone then .ready else .done) jump)) ∧
        (W3.putObj (w.heap.size + 1) (.loop (R (if jump.isNone then .ready else .done) jump))).heap[w.heap.size]? = some (.deferred (some [])) := fun jump W3 hk3 => by
      have hl3 := hk3.same _ _ hl2 rfl
      have hb3 := put W3 _ (.loop (R (if jump.isNone then .ready else .done) jump)) hl3
      exact ⟨run_endRound (P := P) jump hl3, hb3, by have := hb2.size; have := hk3.size; have := hb3.size; omega, World.putObj_heap_same (Array.getElem?_eq_some_iff.1 hl3).1, (World.putObj_heap_other (by omega)).trans (hk3.same _ _ hk2 rfl)⟩
    rintro e a3 W3 hp
    match e, hp with
    | .normal, ⟨hk3, hb3, hi3⟩ =>
      obtain ⟨hr, q1, q2, q3, q4⟩ := fin none W3 hk3
      exact ⟨_, _, hr, .inl ⟨rfl, ⟨hI _ _ _ hi3 q1, q2, q3, q4⟩, ((hbV0.trans (hb2.mono hn₀)).trans hb3).trans (q1.mono hn₀)⟩⟩
    | .ret, ⟨hk3, hi3⟩ =>
      obtain ⟨hr, q1, q2, q3, q4⟩ := fin (some .ret) W3 hk3
      exact ⟨_, _, hr, .inr ⟨rfl, .ret, hIx _ _ _ _ hi3 q1, q2, q3, q4⟩⟩
    | .exit k, ⟨hk3, hi3⟩ =>
      obtain ⟨hr, q1, q2, q3, q4⟩ := fin (some (.exit k)) W3 hk3
      exact ⟨_, _, hr, .inr ⟨rfl, .exit k, hIx _ _ _ _ hi3 q1, q2, q3, q4⟩⟩
  · rintro e W2 ⟨⟨v, rfl⟩, (⟨hi, hs, hl, hk⟩ | ⟨pre, hpre, c, hi, hs, hl, hk⟩)⟩
    · have hb := put W2 _ (.loop { R .ready none with state := .exhausted }) hl
      exact ⟨none, _, run_endLoop (P := P) hl (by intro h; cases h), hdone _ _ (Nat.le_refl _) (hI _ _ _ hi hb) ((World.putObj_heap_other (by omega)).trans hk)⟩
    · have hb := put W2 _ (.loop { R .done (some c) with state := .exhausted }) hl
      exact ⟨some c, _, run_endLoop (P := P) hl (by intro h; cases h), hstop _ c pre _ (Nat.le_refl _) hpre (hIx _ _ _ _ hi hb) ((World.putObj_heap_other (by omega)).trans hk)⟩
/-- .. where the second variable is boxed in each round -/
def AxBox {α : Type} (a : Act) (u v s1 s2 : Tmp) (e1 e2 : α → Value) (cs : α → Array Value) (t : TypeId) (x : α) (a' : Act) (W : World) : Prop :=
  ∃ B, W.heap[B]? = some (.cells (cs x) t) ∧ a' = { tmps := (((a.tmps.setIfInBounds u (e1 x)).setIfInBounds v (e2 x)).setIfInBounds s1 (e1 x)).setIfInBounds s2 (.pointer (some ⟨B, 0, none⟩)), defers := [] }
theorem wpIn_rangeFuncBox {α : Type} {g : Operand} {u v : Tmp} {assign body : Code} {Q : Exit → Act → World → Prop} {a : Act} {w : World}
    (hro : F.round = none) (h1 : 1 ≤ n) {gf : Nat} {fst : Array Value} (hg : a.eval g = .func (.func gf) fst #[]) (hFg : F.fn gf) (eg : ∀ args w, (callFunc gf args).run P w = .ok (.enter gf args) w)
    (e1 e2 : α → Value) (cs : α → Array Value) (t : TypeId) (s1 s2 : Tmp) {n₀ : Nat} (hn₀ : n₀ ≤ w.heap.size) {xs : List α} (hseq : SeqF F (n - 1) P gf (fun y => fst ++ #[y]) (fun x => #[e1 x, e2 x]) n₀ xs w)
    (I : List α → World → Prop) (Ix : Code → List α → World → Prop) (hI : ∀ s A B, I s A → Below w.heap.size A B → I s B) (hIx : ∀ c s A B, Ix c s A → Below w.heap.size A B → Ix c s B) (h0 : I [] w)
    (hassign : ∀ (l : Nat) (x : α) (W : World) (K : Act → World → Prop), n₀ ≤ W.heap.size → (∀ a₁ W', Below W.heap.size W W' → AxBox a u v s1 s2 e1 e2 cs t x a₁ W' → K a₁ W') →
      assign.wpIn (F.inRound l) (n - 1 - 1) P (Exit.then K (fun _ _ _ => False)) { tmps := (a.tmps.setIfInBounds u (e1 x)).setIfInBounds v (e2 x), defers := [] } W)
    (hbody : ∀ (l : Nat) (pre : List α) (x : α) (post : List α) (a₁ : Act) (W : World), xs = pre ++ x :: post → w.heap.size ≤ W.heap.size → I pre W → AxBox a u v s1 s2 e1 e2 cs t x a₁ W → body.wpIn (F.inRound l) (n - 1 - 1) P (postB n₀ I Ix (pre ++ [x]) W) a₁ W)
    (hdone : ∀ (D : Nat) (W : World), w.heap.size ≤ D → I xs W → W.heap[D]? = some (.deferred (some [])) → Q .normal { a with defers := { target := .collected D, args := #[] } :: a.defers } W)
    (hstop : ∀ (D : Nat) (c : Code) (pre : List α) (W : World), w.heap.size ≤ D → pre <+: xs → Ix c pre W → W.heap[D]? = some (.deferred (some [])) → c.wpIn F n P Q { a with defers := { target := .collected D, args := #[] } :: a.defers } W) :
    (Code.rangeFunc g #[u, v] assign body).wpIn F n P Q a w :=
  wpIn_rangeFuncX hro h1 hg hFg eg hn₀ hseq (fun _ => rfl) I Ix hI hIx h0 (AxBox a u v s1 s2 e1 e2 cs t)
    (fun x a' W l o o' hl ⟨B, hB, ha⟩ => ⟨B, (World.putObj_heap_other (fun e => by subst e; rw [hl] at hB; cases hB)).trans hB, ha⟩)
    (fun l x W K hn hK => by simpa using hassign l x W K hn hK) hbody hdone hstop
end
end Go.Proofs.Ytdnmddfnlkaahaa
