/- A region that draws its order, walked once in the order of the text, where operations may also change memory that was made in the region: each fact has the blocks it speaks of, and an operation may use up facts of what it waits for. -/
import Derived.Test.YthknhonpcmneaaaDag
namespace Go.Proofs.Ythknhonpcmneaaa
open Go

/-- a fact on a value, the world and the blocks it may look at -/
abbrev Fact := World → (Nat → Prop) → Prop
/-- the fact lasts while its blocks stay -/
def Lasts (f : Fact) : Prop := ∀ w w' S S', w.heap.size ≤ w'.heap.size → (∀ b, b < w.heap.size → S b → S' b ∧ w'.heap[b]? = w.heap[b]?) → f w S → f w' S'
structure Tell where
  φ : Value → Fact
  st : ∀ v, Lasts (φ v)

/-- the blocks of operation k: those below n, and its own -/
def blocksOf (n : Nat) (own : Nat → Nat) (k : Nat) : Nat → Prop := fun b => b < n ∨ own b = k
/-- behind operation i: what it used up and what is new is its own -/
def ownNext (c i : Nat) (w : World) (own : Nat → Nat) : Nat → Nat := fun b => if w.heap.size ≤ b ∨ c.testBit (own b) = true then i else own b
/-- what it may change -/
def Moved (n c : Nat) (w : World) (own : Nat → Nat) (w' : World) : Prop := w.heap.size ≤ w'.heap.size ∧ ∀ b, b < w.heap.size → (b < n ∨ c.testBit (own b) = false) → w'.heap[b]? = w.heap[b]?

section
variable (P : Program) (ops : Array Oper) (acc con : Array Nat) (n : Nat) (C : World → Prop) (L : Nat → Option Tell) (Q : Act → World → (Nat → Nat) → Prop)

/-- the facts behind operation i, told t -/
def factsNext (i : Nat) (t : Tell) (v : Value) (F : Nat → Fact) : Nat → Fact := fun k w S => (k = i → t.φ v w S) ∧ ((con.getD i 0).testBit k = false → F k w S)

def toldAt (i : Nat) (o : Oper) (t : Tell) (F : Nat → Fact) (a : Act) : Prop :=
  ∀ w own, C w → (∀ k, (acc.getD i 0).testBit k = true → F k w (blocksOf n own k)) →
    Gives P o a w (fun v w' => C w' ∧ Moved n (con.getD i 0) w own w' ∧ t.φ v w' (blocksOf n (ownNext (con.getD i 0) i w own) i))

/-- one operation, what follows behind a predicate -/
def ordOp (i : Nat) (o : Oper) (F : Nat → Fact) (a : Act) (K : (Nat → Fact) → Act → Prop) : Prop :=
  if Region.wanted o (yielded ops a.tmps) = true then
    match L i with
    | none => ∃ v, (∀ w, (execOp a.eval o).run P w = .ok (.value v) w) ∧ K F (a.put o.dst v)
    | some t => toldAt P acc con n C i o t F a ∧ ∀ v, (∃ w own, C w ∧ t.φ v w (blocksOf n own i)) → K (factsNext con i t v F) (a.put o.dst v)
  else K F (a.put o.dst undef)

def ord : List Nat → (Nat → Fact) → Act → Prop
  | [], F, a => ∀ w own, C w → (∀ k, F k w (blocksOf n own k)) → Q a w own
  | i :: l, F, a =>
    match ops[i]? with
    | none => ord l F a
    | some o => ordOp P ops acc con n C L i o F a (ord l)
end

section
variable {P : Program} {ops : Array Oper} {pre acc con : Array Nat} {n : Nat} {C : World → Prop} {L : Nat → Option Tell} {Q : Act → World → (Nat → Nat) → Prop}

theorem ord_cons {i : Nat} {o : Oper} (hi : ops[i]? = some o) (l : List Nat) (F : Nat → Fact) (a : Act) :
    ord P ops acc con n C L Q (i :: l) F a = ordOp P ops acc con n C L i o F a (ord P ops acc con n C L Q l) := by
  simp only [ord, hi]

theorem factsNext_lasts {i : Nat} {t : Tell} {v : Value} {F : Nat → Fact} (h : ∀ k, Lasts (F k)) : ∀ k, Lasts (factsNext con i t v F k) :=
  fun k w w' S S' hs hb hf => ⟨fun e => t.st v w w' S S' hs hb (hf.1 e), fun e => h k w w' S S' hs hb (hf.2 e)⟩

theorem factsNext_at {i : Nat} {t : Tell} {v : Value} {F : Nat → Fact} (hst : ∀ k, Lasts (F k)) {w w' : World} {own : Nat → Nat} (hF : ∀ k, F k w (blocksOf n own k)) (hM : Moved n (con.getD i 0) w own w')
    (hφ : t.φ v w' (blocksOf n (ownNext (con.getD i 0) i w own) i)) : ∀ k, factsNext con i t v F k w' (blocksOf n (ownNext (con.getD i 0) i w own) k) := by
  intro k
  refine ⟨fun e => by subst e; exact hφ, fun e => hst k w w' _ _ hM.1 (fun b hb hS => ?_) (hF k)⟩
  rcases hS with hS | hS
  · exact ⟨.inl hS, hM.2 b hb (.inl hS)⟩
  · refine ⟨.inr ?_, hM.2 b hb (.inr (by rw [hS]; exact e))⟩
    unfold ownNext
    rw [if_neg, hS]
    rw [hS, e]
    simp
    omega

/-- what i needs of j, when the two stand free of one another -/
structure Free (ops : Array Oper) (acc con : Array Nat) (i : Nat) (oi : Oper) (j : Nat) : Prop where
  ne : j ≠ i
  ij : (acc.getD i 0).testBit j = false
  ji : (acc.getD j 0).testBit i = false
  cij : (con.getD i 0).testBit j = false
  cji : (con.getD j 0).testBit i = false
  cc : ∀ k, (con.getD i 0).testBit k = true → (con.getD j 0).testBit k = false
  ca : ∀ k, (acc.getD i 0).testBit k = true → (con.getD j 0).testBit k = false
  ac : ∀ k, (acc.getD j 0).testBit k = true → (con.getD i 0).testBit k = false
  apart : ∀ oj, ops[j]? = some oj → oi.apart ops oj = true

/-- what stands at i, wherever it is taken -/
def Here (P : Program) (acc con : Array Nat) (n : Nat) (C : World → Prop) (L : Nat → Option Tell) (i : Nat) (oi : Oper) (F : Nat → Fact) (a : Act) : Prop :=
  match L i with
  | none => ∃ v, ∀ w, (execOp a.eval oi).run P w = .ok (.value v) w
  | some t => toldAt P acc con n C i oi t F a

theorem Here.of_eval {i : Nat} {oi : Oper} {F F' : Nat → Fact} {a a' : Act} (he : execOp a'.eval oi = execOp a.eval oi) (hF : ∀ k w S, (acc.getD i 0).testBit k = true → F k w S → F' k w S) (h : Here P acc con n C L i oi F' a') : Here P acc con n C L i oi F a := by
  unfold Here at *
  cases hL : L i with
  | none => simp only [hL] at h ⊢; rw [he] at h; exact h
  | some t =>
    simp only [hL] at h ⊢
    intro w own hC hf
    have := h w own hC fun k hk => hF k _ _ hk (hf k hk)
    unfold Gives at this ⊢
    rw [he] at this
    exact this

theorem ord_here {i : Nat} {oi : Oper} (hi : ops[i]? = some oi) (hsel : ∀ (j : Nat) (o : Oper) cs b, ops[j]? = some o → o.op ≠ .select cs b) (l2 : List Nat) :
    ∀ (l1 : List Nat), (∀ j ∈ l1, Free ops acc con i oi j) → ∀ (F : Nat → Fact) (a : Act) (w : World) (own : Nat → Nat), C w → (∀ k, F k w (blocksOf n own k)) → (∀ k, Lasts (F k)) →
      Region.wanted oi (yielded ops a.tmps) = true → ord P ops acc con n C L Q (l1 ++ i :: l2) F a → Here P acc con n C L i oi F a
  | [], _, F, a, w, own, hC, hF, hst, hw, h => by
    rw [List.nil_append, ord_cons hi] at h
    unfold ordOp at h
    rw [if_pos hw] at h
    unfold Here
    cases hL : L i with
    | none => simp only [hL] at h ⊢; exact h.imp fun v h => h.1
    | some t => simp only [hL] at h ⊢; exact h.1
  | j :: l1, hl, F, a, w, own, hC, hF, hst, hw, h => by
    have ih := ord_here hi hsel l2 l1 (fun k hk => hl k (List.mem_cons_of_mem _ hk))
    have fr := hl j List.mem_cons_self
    cases hj : ops[j]? with
    | none =>
      have h' : ord P ops acc con n C L Q (l1 ++ i :: l2) F a := by
        have h0 : ord P ops acc con n C L Q (j :: (l1 ++ i :: l2)) F a := h
        simpa only [ord, hj] using h0
      exact ih F a w own hC hF hst hw h'
    | some oj =>
      obtain ⟨h1, h2, h3⟩ := Oper.apart_spec (fr.apart oj hj)
      have ei : ∀ u, execOp (a.put oj.dst u).eval oi = execOp a.eval oi := fun u => execOp_put oi (fun cs b => hsel i oi cs b hi) a oj.dst u h3
      have wi : ∀ u, Region.wanted oi (yielded ops (a.put oj.dst u).tmps) = Region.wanted oi (yielded ops a.tmps) := fun u => wanted_put oi a oj.dst u h3
      rw [List.cons_append, ord_cons hj] at h
      unfold ordOp at h
      split at h
      · cases hL : L j with
        | none =>
          simp only [hL] at h
          obtain ⟨u, _, hk⟩ := h
          exact (ih F _ w own hC hF hst (by rw [wi]; exact hw) hk).of_eval (ei u) fun _ _ _ _ h => h
        | some t =>
          simp only [hL] at h
          obtain ⟨hv, hall⟩ := h
          obtain ⟨u, w', hC', hM, hφ⟩ := GivesR.some (hv w own hC fun k _ => hF k)
          have hk := hall u ⟨w', _, hC', hφ⟩
          refine (ih _ _ w' _ hC' (factsNext_at hst hF hM hφ) (factsNext_lasts hst) (by rw [wi]; exact hw) hk).of_eval (ei u) fun k w S hk h => ⟨fun e => ?_, fun _ => h⟩
          rw [e, fr.ij] at hk; cases hk
      · exact (ih F _ w own hC hF hst (by rw [wi]; exact hw) h).of_eval (ei _) fun _ _ _ _ h => h

/-- i taken ahead of those that stand free of it -/
theorem ord_plug {i : Nat} {oi : Oper} (hi : ops[i]? = some oi) (hsel : ∀ (j : Nat) (o : Oper) cs b, ops[j]? = some o → o.op ≠ .select cs b) (l2 : List Nat) (v : Value) (E : Sem Next) (W : Bool) (G : (Nat → Fact) → Nat → Fact)
    (hG : ∀ F k w S, (con.getD i 0).testBit k = false → k ≠ i → (G F k w S ↔ F k w S)) (hGa : ∀ F k w S, ((con.getD i 0).testBit k = true ∨ k = i) → ∀ F', (F k = F' k) → G F k w S = G F' k w S)
    (h0 : ∀ F a, execOp a.eval oi = E → Region.wanted oi (yielded ops a.tmps) = W → ord P ops acc con n C L Q (i :: l2) F a → ord P ops acc con n C L Q l2 (G F) (a.put oi.dst v)) :
    ∀ (l1 : List Nat), (∀ j ∈ l1, Free ops acc con i oi j) → ∀ (F : Nat → Fact) (a : Act), execOp a.eval oi = E → Region.wanted oi (yielded ops a.tmps) = W → ord P ops acc con n C L Q (l1 ++ i :: l2) F a → ord P ops acc con n C L Q (l1 ++ l2) (G F) (a.put oi.dst v)
  | [], _, F, a, he, hw, h => h0 F a he hw h
  | j :: l1, hl, F, a, he, hw, h => by
    have ih := ord_plug hi hsel l2 v E W G hG hGa h0 l1 (fun k hk => hl k (List.mem_cons_of_mem _ hk))
    have fr := hl j List.mem_cons_self
    cases hj : ops[j]? with
    | none =>
      have h' : ord P ops acc con n C L Q (l1 ++ i :: l2) F a := by
        have h0 : ord P ops acc con n C L Q (j :: (l1 ++ i :: l2)) F a := h
        simpa only [ord, hj] using h0
      show ord P ops acc con n C L Q (j :: (l1 ++ l2)) (G F) _
      simpa only [ord, hj] using ih F a he hw h'
    | some oj =>
      obtain ⟨h1, h2, h3⟩ := Oper.apart_spec (fr.apart oj hj)
      have ei : ∀ u, execOp (a.put oj.dst u).eval oi = E := fun u => (execOp_put oi (fun cs b => hsel i oi cs b hi) a oj.dst u h3).trans he
      have wi : ∀ u, Region.wanted oi (yielded ops (a.put oj.dst u).tmps) = W := fun u => (wanted_put oi a oj.dst u h3).trans hw
      have ej : execOp (a.put oi.dst v).eval oj = execOp a.eval oj := execOp_put oj (fun cs b => hsel j oj cs b hj) a oi.dst v h1
      have wj : Region.wanted oj (yielded ops (a.put oi.dst v).tmps) = Region.wanted oj (yielded ops a.tmps) := wanted_put oj a oi.dst v h1
      have hcomm : ∀ u, (a.put oi.dst v).put oj.dst u = (a.put oj.dst u).put oi.dst v := fun u => Act.put_comm a v u h2
      rw [List.cons_append, ord_cons hj] at h ⊢
      unfold ordOp at h ⊢
      rw [wj]
      split
      · rename_i hwj
        rw [if_pos hwj] at h
        cases hL : L j with
        | none =>
          simp only [hL] at h ⊢
          obtain ⟨u, hu, hk⟩ := h
          refine ⟨u, fun w => by rw [ej]; exact hu w, ?_⟩
          rw [hcomm]
          exact ih F _ (ei u) (wi u) hk
        | some t =>
          simp only [hL] at h ⊢
          obtain ⟨hv, hall⟩ := h
          refine ⟨fun w own hC hf => ?_, fun u hu => ?_⟩
          · have := hv w own hC fun k hk => (hG F k _ _ (fr.ac k hk) (fun e => by rw [e, fr.ji] at hk; cases hk)).1 (hf k hk)
            unfold Gives at this ⊢
            rw [ej]
            exact this
          · rw [hcomm]
            have h4 := ih _ _ (ei u) (wi u) (hall u hu)
            have h5 : factsNext con j t u (G F) = G (factsNext con j t u F) := by
              funext k w S
              by_cases hk : (con.getD i 0).testBit k = false ∧ k ≠ i
              · have e1 := hG F k w S hk.1 hk.2
                have e2 := hG (factsNext con j t u F) k w S hk.1 hk.2
                refine propext ⟨fun x => e2.2 ⟨x.1, fun c => e1.1 (x.2 c)⟩, fun x => ⟨(e2.1 x).1, fun c => e1.2 ((e2.1 x).2 c)⟩⟩
              · have hk' : (con.getD i 0).testBit k = true ∨ k = i := by
                  by_cases c : (con.getD i 0).testBit k = false
                  · exact .inr (by by_cases d : k = i; exact d; exact absurd ⟨c, d⟩ hk)
                  · exact .inl (by simpa using c)
                have hkj : k ≠ j := by
                  rintro rfl
                  rcases hk' with c | c
                  · rw [fr.cij] at c; cases c
                  · exact fr.ne c
                have hcj : (con.getD j 0).testBit k = false := by
                  rcases hk' with c | c
                  · exact fr.cc k c
                  · rw [c]; exact fr.cji
                have hfe : factsNext con j t u F k = F k := by
                  funext w S
                  exact propext ⟨fun x => x.2 hcj, fun x => ⟨fun e => absurd e hkj, fun _ => x⟩⟩
                rw [hGa _ k w S hk' F hfe]
                exact propext ⟨fun x => x.2 hcj, fun x => ⟨fun e => absurd e hkj, fun _ => x⟩⟩
            rw [h5]
            exact h4
      · rename_i hwj
        rw [if_neg hwj] at h
        rw [hcomm]
        exact ih F _ (ei _) (wi _) h

/-- the checks on what is used and used up -/
def ordB (ops : Array Oper) (pre acc con : Array Nat) : Bool :=
  (List.range ops.size).all fun i => ((List.range ops.size).all fun k => !(acc.getD i 0).testBit k || (pre.getD i 0).testBit k) && (con.getD i 0 &&& acc.getD i 0) == con.getD i 0 &&
    ((List.range ops.size).all fun j => i == j || (pre.getD i 0).testBit j || (pre.getD j 0).testBit i || (con.getD i 0 &&& acc.getD j 0) == 0)

theorem and_zero_bit {a b k : Nat} (h : a &&& b = 0) (hb : b.testBit k = true) : a.testBit k = false := by
  have : (a &&& b).testBit k = false := by rw [h]; simp
  rw [Nat.testBit_and, hb, Bool.and_true] at this
  exact this
theorem and_self_bit {a b k : Nat} (h : a &&& b = a) (ha : a.testBit k = true) : b.testBit k = true := by
  have : (a &&& b).testBit k = true := by rw [h]; exact ha
  rw [Nat.testBit_and, ha, Bool.true_and] at this
  exact this

theorem wpAny_of_ord {Q' : Exit → Act → World → Prop} (hQ : ∀ a w own, Q a w own → Q' .normal a w) (hB : dagB ops pre = true) (hO : ordB ops pre acc con = true) :
    ∀ (fuel : Nat) (l : List Nat) (listed : Array Bool) (F : Nat → Fact) (a : Act) (w : World) (own : Nat → Nat), l.length = fuel → listed.size = ops.size → l.Pairwise (· < ·) →
      (∀ i, i ∈ l ↔ listed.getD i true = false) → (∀ i, i < ops.size → i ∉ l → ∀ k, (pre.getD i 0).testBit k = true → k < ops.size → k ∉ l) →
      C w → (∀ k, F k w (blocksOf n own k)) → (∀ k, Lasts (F k)) → ord P ops acc con n C L Q l F a → wpAny P .any ops Q' fuel listed a w := by
  unfold dagB at hB
  rw [Bool.and_eq_true] at hB
  obtain ⟨hns, hall⟩ := hB
  rw [List.all_eq_true] at hall
  have hsel := Region.noSelect_spec hns
  have hall' : ∀ i o, ops[i]? = some o → (∀ k, k < ops.size → (pre.getD i 0).testBit k = true → ∃ e ∈ direct o, e = k ∨ (pre.getD e 0).testBit k = true) ∧
      (∀ j oj, ops[j]? = some oj → i = j ∨ (pre.getD i 0).testBit j = true ∨ (pre.getD j 0).testBit i = true ∨ o.apart ops oj = true) ∧
      (∀ k ∈ direct o, (pre.getD i 0).testBit k = true ∧ k < ops.size) ∧ (∀ j, j < ops.size → (pre.getD i 0).testBit j = true → j < i) := by
    intro i o ho
    have hi : i < ops.size := (Array.getElem?_eq_some_iff.1 ho).1
    have h := hall i (List.mem_range.2 hi)
    simp only [ho, Bool.and_eq_true, List.all_eq_true, List.mem_range, Bool.or_eq_true, Bool.not_eq_true', List.any_eq_true, beq_iff_eq, decide_eq_true_eq] at h
    obtain ⟨⟨⟨h1, h2⟩, h3⟩, h4⟩ := h
    refine ⟨fun k hk hb => ?_, fun j oj hoj => ?_, h3, fun j hj hb => ?_⟩
    · rcases h1 k hk with h | ⟨e, he, h⟩
      · rw [h] at hb; cases hb
      · exact ⟨e, he, h⟩
    · have := h2 j (Array.getElem?_eq_some_iff.1 hoj).1
      simp only [hoj, Bool.or_eq_true, beq_iff_eq] at this
      rcases this with ((h | h) | h) | h
      · exact .inl h
      · exact .inr (.inl h)
      · exact .inr (.inr (.inl h))
      · exact .inr (.inr (.inr h))
    · rcases h4 j hj with h | h
      · rw [h] at hb; cases hb
      · exact h
  have hdir : ∀ (i : Nat) (o : Oper), ops[i]? = some o → ∀ k ∈ direct o, k < i ∧ k < ops.size := by
    intro i o ho k hk
    obtain ⟨_, _, h3, h4⟩ := hall' i o ho
    obtain ⟨hb, hks⟩ := h3 k hk
    exact ⟨h4 k hks hb, hks⟩
  unfold ordB at hO
  rw [List.all_eq_true] at hO
  have hO' : ∀ i, i < ops.size → (∀ k, k < ops.size → (acc.getD i 0).testBit k = true → (pre.getD i 0).testBit k = true) ∧ (con.getD i 0 &&& acc.getD i 0) = con.getD i 0 ∧
      ∀ j, j < ops.size → i ≠ j → (pre.getD i 0).testBit j = false → (pre.getD j 0).testBit i = false → (con.getD i 0 &&& acc.getD j 0) = 0 := by
    intro i hi
    have h := hO i (List.mem_range.2 hi)
    simp only [Bool.and_eq_true, List.all_eq_true, List.mem_range, Bool.or_eq_true, Bool.not_eq_true', beq_iff_eq] at h
    obtain ⟨⟨h1, h2⟩, h3⟩ := h
    refine ⟨fun k hk hb => ?_, h2, fun j hj hne h4 h5 => ?_⟩
    · rcases h1 k hk with h | h
      · rw [h] at hb; cases hb
      · exact h
    · rcases h3 j hj with ((h | h) | h) | h
      · exact absurd h hne
      · rw [h] at h4; cases h4
      · rw [h] at h5; cases h5
      · exact h
  have hfree : ∀ i j oi, ops[i]? = some oi → j < ops.size → j ≠ i → (pre.getD i 0).testBit j = false → (pre.getD j 0).testBit i = false → (∀ oj, ops[j]? = some oj → oi.apart ops oj = true) → Free ops acc con i oi j := by
    intro i j oi hoi hj hne hij hji hap
    have hi : i < ops.size := (Array.getElem?_eq_some_iff.1 hoi).1
    obtain ⟨a1, a2, a3⟩ := hO' i hi
    obtain ⟨b1, b2, b3⟩ := hO' j hj
    have aij : (acc.getD i 0).testBit j = false := by
      cases hx : (acc.getD i 0).testBit j with
      | false => rfl
      | true => rw [a1 j hj hx] at hij; cases hij
    have aji : (acc.getD j 0).testBit i = false := by
      cases hx : (acc.getD j 0).testBit i with
      | false => rfl
      | true => rw [b1 i hi hx] at hji; cases hji
    have c1 := a3 j hj hne.symm hij hji
    have c2 := b3 i hi hne hji hij
    refine ⟨hne, aij, aji, ?_, ?_, fun k hk => and_zero_bit c2 (and_self_bit a2 hk), fun k hk => and_zero_bit c2 hk, fun k hk => and_zero_bit c1 hk, hap⟩
    · cases hx : (con.getD i 0).testBit j with
      | false => rfl
      | true => rw [and_self_bit a2 hx] at aij; cases aij
    · cases hx : (con.getD j 0).testBit i with
      | false => rfl
      | true => rw [and_self_bit b2 hx] at aji; cases aji
  intro fuel
  induction fuel with
  | zero =>
    intro l listed F a w own hlen hsz hsort hmem hclosed hC hF hst h
    have hl : l = [] := List.eq_nil_of_length_eq_zero hlen
    subst hl
    refine ⟨?_, hQ _ _ own (h w own hC hF)⟩
    rw [List.eq_nil_iff_forall_not_mem]
    intro i hi
    have := (hmem i).2 (mem_ready.1 hi).1
    cases this
  | succ fuel ih =>
    intro l listed F a w own hlen hsz hsort hmem hclosed hC hF hst h
    have hin : ∀ i, i ∈ l → i < ops.size := fun i hi => by
      have h1 := (hmem i).1 hi
      rcases Nat.lt_or_ge i ops.size with h' | h'
      · exact h'
      · rw [Array.getD_eq_getD_getElem?, Array.getElem?_eq_none (by omega)] at h1; cases h1
    refine ⟨fun hnone => ?_, fun i hi => ?_⟩
    · exfalso
      cases l with
      | nil => cases hlen
      | cons i0 l =>
        have hi0 := hin i0 List.mem_cons_self
        have ho : ops[i0]? = some ops[i0] := Array.getElem?_eq_getElem hi0
        have : i0 ∈ Region.ready .any ops listed := mem_ready.2 ⟨(hmem i0).1 List.mem_cons_self, ops[i0], ho, fun e he hb => by
          have hd : e.on ∈ direct ops[i0] := List.mem_map.2 ⟨e, List.mem_filter.2 ⟨by simpa using he, hb⟩, rfl⟩
          obtain ⟨hlt, hlt2⟩ := hdir i0 _ ho _ hd
          have hnl : e.on ∉ i0 :: l := fun hm => by
            rcases List.mem_cons.1 hm with h | h
            · omega
            · have := (List.pairwise_cons.1 hsort).1 _ h
              omega
          have hx : ¬ listed.getD e.on true = false := fun hh => hnl ((hmem _).2 hh)
          have hlt3 : e.on < listed.size := by omega
          rw [Array.getD_eq_getD_getElem?, Array.getElem?_eq_getElem hlt3] at hx ⊢
          simpa using hx⟩
        rw [hnone] at this
        cases this
    · obtain ⟨hun, o, ho, hafter⟩ := mem_ready.1 hi
      have hil : i ∈ l := (hmem i).2 hun
      have hisz := hin i hil
      obtain ⟨l1, l2, rfl⟩ := List.append_of_mem hil
      obtain ⟨p1, p2, p3, p4⟩ := hall' i o ho
      have hpre : ∀ k, k < ops.size → (pre.getD i 0).testBit k = true → k ∉ l1 ++ i :: l2 := by
        intro k hk hb
        obtain ⟨e, he, hor⟩ := p1 k hk hb
        obtain ⟨ed, hed, rfl⟩ := List.mem_map.1 he
        obtain ⟨hed1, hed2⟩ := List.mem_filter.1 hed
        have h1 := hafter ed (by simpa using hed1) hed2
        have hen : ed.on ∉ l1 ++ i :: l2 := fun hm => by
          have h2 := (hmem _).1 hm
          have h3 := hin _ hm
          rw [Array.getD_eq_getD_getElem?, Array.getElem?_eq_getElem (by omega)] at h1 h2
          simp only [Option.getD_some] at h1 h2
          rw [h1] at h2; cases h2
        rcases hor with rfl | hor
        · exact hen
        · exact hclosed _ (hdir i o ho _ he).2 hen k hor hk
      have hfr : ∀ j ∈ l1, Free ops acc con i o j := fun j hj => by
        have hjm : j ∈ l1 ++ i :: l2 := List.mem_append_left _ hj
        have hjs := hin j hjm
        have hji : j < i := (List.pairwise_append.1 hsort).2.2 j hj i List.mem_cons_self
        have hij : (pre.getD i 0).testBit j = false := by
          cases hx : (pre.getD i 0).testBit j with
          | false => rfl
          | true => exact absurd hjm (hpre j hjs hx)
        have hji2 : (pre.getD j 0).testBit i = false := by
          cases hx : (pre.getD j 0).testBit i with
          | false => rfl
          | true =>
            have := (hall' j ops[j] (Array.getElem?_eq_getElem hjs)).2.2.2 i hisz hx
            omega
        refine hfree i j o ho hjs (by omega) hij hji2 fun oj hoj => ?_
        rcases p2 j oj hoj with h | h | h | h
        · omega
        · rw [hij] at h; cases h
        · rw [hji2] at h; cases h
        · exact h
      have hsub : (l1 ++ l2).Sublist (l1 ++ i :: l2) := List.Sublist.append (List.Sublist.refl _) (List.sublist_cons_self _ _)
      have hnod : i ∉ l1 ++ l2 := fun hm => by
        have h1 := List.pairwise_append.1 hsort
        rcases List.mem_append.1 hm with h | h
        · have := h1.2.2 i h i List.mem_cons_self; omega
        · have := (List.pairwise_cons.1 h1.2.1).1 i h; omega
      have next : ∀ (F : Nat → Fact) (a : Act) (w : World) (own : Nat → Nat), C w → (∀ k, F k w (blocksOf n own k)) → (∀ k, Lasts (F k)) → ord P ops acc con n C L Q (l1 ++ l2) F a →
          wpAny P .any ops Q' fuel (listed.setIfInBounds i true) a w := by
        intro F a w own hC hF hst h
        refine ih (l1 ++ l2) _ F a w own (by simp at hlen ⊢; omega) (by simpa using hsz) (hsort.sublist hsub) (fun j => ?_) (fun j hj hjn k hbt hk hkm => ?_) hC hF hst h
        · by_cases hji : j = i
          · subst hji
            rw [Array.getD_eq_getD_getElem?, Array.getElem?_setIfInBounds_self_of_lt (by omega)]
            simpa using hnod
          · rw [getD_set_ne true (Ne.symm hji), ← hmem]
            simp [hji]
        · by_cases hji : j = i
          · subst hji
            exact hpre k hk hbt (hsub.subset hkm)
          · exact hclosed j hj (fun hm => hjn (by simpa [hji] using hm)) k hbt hk (hsub.subset hkm)
      unfold wpOp
      simp only [ho]
      split
      · rename_i hw
        refine .inl ?_
        have here := ord_here ho hsel l2 l1 hfr F a w own hC hF hst hw h
        unfold Here at here
        cases hL : L i with
        | none =>
          simp only [hL] at here
          obtain ⟨v, hv⟩ := here
          unfold Oper.wp
          rw [hv w]
          refine next F _ w own hC hF hst ?_
          refine ord_plug ho hsel l2 v (execOp a.eval o) true (fun F => F) (fun _ _ _ _ _ _ => Iff.rfl) (fun F k w S _ F' e => by simp only [e]) (fun F' a' he hw' h' => ?_) l1 hfr F a rfl hw h
          rw [ord_cons ho] at h'
          unfold ordOp at h'
          rw [if_pos hw'] at h'
          simp only [hL] at h'
          obtain ⟨u, hu, hk⟩ := h'
          have : u = v := by
            have h7 := hu w
            rw [he] at h7
            have := h7.symm.trans (hv w)
            simpa using this
          rw [← this]
          exact hk
        | some t =>
          simp only [hL] at here
          refine Gives.wp (here w own hC fun k _ => hF k) fun v w' ⟨hC', hM, hφ⟩ => ?_
          refine next (factsNext con i t v F) _ w' _ hC' (factsNext_at hst hF hM hφ) (factsNext_lasts hst) ?_
          refine ord_plug ho hsel l2 v (execOp a.eval o) true (factsNext con i t v) (fun F k w S h1 h2 => ⟨fun x => x.2 h1, fun x => ⟨fun e => absurd e h2, fun _ => x⟩⟩) (fun F k w S _ F' e => by simp only [factsNext, e]) (fun F' a' he hw' h' => ?_) l1 hfr F a rfl hw h
          rw [ord_cons ho] at h'
          unfold ordOp at h'
          rw [if_pos hw'] at h'
          simp only [hL] at h'
          exact h'.2 v ⟨w', _, hC', hφ⟩
      · rename_i hw
        refine next F _ w own hC hF hst ?_
        refine ord_plug ho hsel l2 undef (execOp a.eval o) false (fun F => F) (fun _ _ _ _ _ _ => Iff.rfl) (fun F k w S _ F' e => by simp only [e]) (fun F' a' he hw' h' => ?_) l1 hfr F a rfl (by simpa using hw) h
        rw [ord_cons ho] at h'
        unfold ordOp at h'
        rw [if_neg (by rw [hw']; exact Bool.false_ne_true)] at h'
        exact h'

/-! ### For use -/
/-- The walk over the operations themselves, in the text's order, k: the number of the next one. -/
def ordT (P : Program) (ops : Array Oper) (acc con : Array Nat) (n : Nat) (C : World → Prop) (Q : Act → World → (Nat → Nat) → Prop) : List (Option Tell) → Nat → List Oper → (Nat → Fact) → Act → Prop
  | _, _, [], F, a => ∀ w own, C w → (∀ k, F k w (blocksOf n own k)) → Q a w own
  | [], _, _ :: _, _, _ => False
  | t :: L, i, o :: l, F, a =>
      if Region.wanted o (yielded ops a.tmps) = true then
        match t with
        | none => ∃ v, (∀ w, (execOp a.eval o).run P w = .ok (.value v) w) ∧ ordT P ops acc con n C Q L (i + 1) l F (a.put o.dst v)
        | some t => toldAt P acc con n C i o t F a ∧ ∀ v, (∃ w own, C w ∧ t.φ v w (blocksOf n own i)) → ordT P ops acc con n C Q L (i + 1) l (factsNext con i t v F) (a.put o.dst v)
      else ordT P ops acc con n C Q L (i + 1) l F (a.put o.dst undef)

theorem ord_of_ordT (L : List (Option Tell)) : ∀ (l : List Oper) (L' : List (Option Tell)) (i : Nat) (F : Nat → Fact) (a : Act), (∀ j, l[j]? = ops[i + j]?) → (∀ j, L'[j]? = L[i + j]?) →
    ordT P ops acc con n C Q L' i l F a → ord P ops acc con n C (fun i => (L[i]?).join) Q (List.range' i l.length) F a
  | [], _, _, _, _, _, _, h => by cases ‹List (Option Tell)› <;> simpa [ordT, ord] using h
  | o :: l, [], _, _, _, _, _, h => by simp [ordT] at h
  | o :: l, t :: L', i, F, a, hl, hL, h => by
    have h0 : ops[i]? = some o := by simpa using (hl 0).symm
    have hL0 : L[i]? = some t := by simpa using (hL 0).symm
    have ih := fun F a => ord_of_ordT L l L' (i + 1) F a (fun j => by have := hl (j + 1); simpa [Nat.add_assoc, Nat.add_comm 1 j] using this) (fun j => by have := hL (j + 1); simpa [Nat.add_assoc, Nat.add_comm 1 j] using this)
    rw [List.length_cons, List.range'_succ, ord_cons h0]
    unfold ordOp
    simp only [ordT] at h
    split
    · rename_i hw
      rw [if_pos hw] at h
      simp only [hL0, Option.join_some]
      cases t with
      | none =>
        obtain ⟨v, h1, h2⟩ := h
        exact ⟨v, h1, ih _ _ h2⟩
      | some t =>
        exact ⟨h.1, fun v hv => ih _ _ (h.2 v hv)⟩
    · rename_i hw
      rw [if_neg hw] at h
      exact ih _ _ h

/-- **The region.** con: what each operation uses up (bits); n: the blocks below it stay; init: a fact on the blocks from n on that stands ahead of the region, number ops.size. -/
theorem wp_region_ord {id : Nat} {l : List Oper} {Q' : Exit → Act → World → Prop} {a : Act} {w : World} (L : List (Option Tell)) (acc con : Array Nat) (n : Nat) (init : Fact) (C : World → Prop) (hm : P.follows .mixedOrders = true)
    (hB : dagB l.toArray (Region.before l.toArray) = true) (hO : ordB l.toArray (Region.before l.toArray) acc con = true) (hC : C w.drew) (hl : Lasts init) (hi : init w.drew fun _ => True)
    (h : ordT P l.toArray acc con n C (fun a w _ => Q' .normal a w) L 0 l (fun k w S => k = l.length → init w S) a) : (Code.region id l.toArray true).wp P Q' a w := by
  refine wp_region_any hm ?_
  have hd := ord_of_ordT (ops := l.toArray) L l L 0 _ a (by simp) (by simp) h
  refine wpAny_of_ord (Q := fun a w _ => Q' .normal a w) (fun _ _ _ h => h) hB hO _ (List.range' 0 l.length) _ (fun k w S => k = l.length → init w S) a _ (fun _ => l.length) (by simp) (by simp) (List.pairwise_lt_range') (fun i => ?_) (fun i hi hn => ?_) hC (fun k e => ?_) (fun k w w' S S' h1 h2 h3 e => hl w w' S S' h1 h2 (h3 e)) hd
  · simp [List.mem_range', Array.getElem?_replicate]
    split <;> simp <;> omega
  · exact absurd (by simp [List.mem_range']; simpa using hi) hn
  · subst e
    have : blocksOf n (fun _ => l.length) l.length = fun _ => True := by
      funext b
      simp [blocksOf]
    rw [this]
    exact hi

/-- what may be used, a fact ahead among it: by the operations of the bits of use -/
def accOf (ops : Array Oper) (use : Nat) : Array Nat := (Array.range ops.size).map fun i => (Region.before ops).getD i 0 ||| (if use.testBit i then 1 <<< ops.size else 0)
/-- a fact ahead -/
theorem wp_region_ordI {id : Nat} {l : List Oper} {Q' : Exit → Act → World → Prop} {a : Act} {w : World} (L : List (Option Tell)) (use : Nat) (con : Array Nat) (n : Nat) (init : Fact) (C : World → Prop) (hm : P.follows .mixedOrders = true)
    (hB : dagB l.toArray (Region.before l.toArray) = true) (hO : ordB l.toArray (Region.before l.toArray) (accOf l.toArray use) con = true) (hC : C w.drew) (hl : Lasts init) (hi : init w.drew fun _ => True)
    (h : ordT P l.toArray (accOf l.toArray use) con n C (fun a w _ => Q' .normal a w) L 0 l (fun k w S => k = l.length → init w S) a) : (Code.region id l.toArray true).wp P Q' a w :=
  wp_region_ord L _ con n init C hm hB hO hC hl hi h

/-- no fact ahead -/
theorem wp_region_ord' {id : Nat} {l : List Oper} {Q' : Exit → Act → World → Prop} {a : Act} {w : World} (L : List (Option Tell)) (con : Array Nat) (n : Nat) (C : World → Prop) (hm : P.follows .mixedOrders = true)
    (hB : dagB l.toArray (Region.before l.toArray) = true) (hO : ordB l.toArray (Region.before l.toArray) (Region.before l.toArray) con = true) (hC : C w.drew)
    (h : ordT P l.toArray (Region.before l.toArray) con n C (fun a w _ => Q' .normal a w) L 0 l (fun _ _ _ => True) a) : (Code.region id l.toArray true).wp P Q' a w := by
  refine wp_region_any hm ?_
  have hd := ord_of_ordT (ops := l.toArray) L l L 0 _ a (by simp) (by simp) h
  refine wpAny_of_ord (Q := fun a w _ => Q' .normal a w) (fun _ _ _ h => h) hB hO _ (List.range' 0 l.length) _ _ a _ (fun _ => l.length) (by simp) (by simp) (List.pairwise_lt_range') (fun i => ?_) (fun i hi hn => ?_) hC (fun _ => trivial) (fun k w w' S S' h1 h2 h3 => trivial) hd
  · simp [List.mem_range', Array.getElem?_replicate]
    split <;> simp <;> omega
  · exact absurd (by simp [List.mem_range']; simpa using hi) hn
end
section
variable {P : Program} {ops : Array Oper} {acc con : Array Nat} {n : Nat} {C : World → Prop} {Q : Act → World → (Nat → Nat) → Prop} {L : List (Option Tell)} {i : Nat} {o : Oper} {l : List Oper} {F : Nat → Fact} {a : Act}

theorem ordT_pure (hp : pureOp o.op = true) (h : wpQuiet P ops (fun _ => True) (fun a' => ordT P ops acc con n C Q L (i + 1) l F a') [o] a) : ordT P ops acc con n C Q (none :: L) i (o :: l) F a := by
  unfold ordT
  unfold wpQuiet at h
  split
  · rename_i hw
    rw [if_pos hw] at h
    obtain ⟨v, h1, h2⟩ := h
    exact ⟨v, fun w => quiet_value hp (h1 w trivial), h2⟩
  · rename_i hw
    rw [if_neg hw] at h
    exact h
theorem ordT_on {C' : World → Prop} (h : ordT P ops acc con n C Q L i l F a) : wpQuiet P ops C' (fun a' => ordT P ops acc con n C Q L i l F a') [] a := h
theorem ordT_skip {t : Option Tell} (hw : Region.wanted o (yielded ops a.tmps) = false) (h : ordT P ops acc con n C Q L (i + 1) l F (a.put o.dst undef)) : ordT P ops acc con n C Q (t :: L) i (o :: l) F a := by
  unfold ordT
  rw [if_neg (by rw [hw]; exact Bool.false_ne_true)]
  exact h
/-- an operation of which something is told, that changes what is there -/
theorem ordT_told {t : Tell} (hw : Region.wanted o (yielded ops a.tmps) = true) (h1 : toldAt P acc con n C i o t F a)
    (h2 : ∀ v w own, C w → t.φ v w (blocksOf n own i) → ordT P ops acc con n C Q L (i + 1) l (factsNext con i t v F) (a.put o.dst v)) : ordT P ops acc con n C Q (some t :: L) i (o :: l) F a := by
  unfold ordT
  rw [if_pos hw]
  exact ⟨h1, fun v ⟨w, own, hC, hφ⟩ => h2 v w own hC hφ⟩
/-- an operation that changes nothing that is there -/
theorem ordT_new {t : Tell} (hw : Region.wanted o (yielded ops a.tmps) = true)
    (h1 : ∀ w own, C w → (∀ k, (acc.getD i 0).testBit k = true → F k w (blocksOf n own k)) → Gives P o a w (fun v w' => C w' ∧ (w.heap.size ≤ w'.heap.size ∧ ∀ b, b < w.heap.size → w'.heap[b]? = w.heap[b]?) ∧
      ∀ S : Nat → Prop, (∀ b, b < n ∨ w.heap.size ≤ b → S b) → t.φ v w' S))
    (h2 : ∀ v w own, C w → t.φ v w (blocksOf n own i) → ordT P ops acc con n C Q L (i + 1) l (factsNext con i t v F) (a.put o.dst v)) : ordT P ops acc con n C Q (some t :: L) i (o :: l) F a := by
  refine ordT_told hw (fun w own hC hF => ?_) h2
  refine GivesR.mono (fun v w' ⟨h3, h4, h5⟩ => ⟨h3, ⟨h4.1, fun b hb _ => h4.2 b hb⟩, h5 _ fun b hb => ?_⟩) (h1 w own hC hF)
  rcases hb with hb | hb
  · exact .inl hb
  · exact .inr (by unfold ownNext; rw [if_pos (.inl hb)])
theorem ordT_done {L : List (Option Tell)} (h : ∀ w own, C w → (∀ k, F k w (blocksOf n own k)) → Q a w own) : ordT P ops acc con n C Q L i [] F a := by
  cases L <;> exact h
end
attribute [irreducible] ordT
end Go.Proofs.Ythknhonpcmneaaa
