/- A region that draws its order, walked once in the order of the text, where operations may make memory or call: each operation's facts hang on what it waits for alone. -/
import Derived.BigQuiet
import Derived.Below
namespace Go.Proofs.Ythknhonpcmneaaa
open Go

/-- what an operation that is carried out gives -/
def GivesR (P : Program) (S : Value → World → Prop) : Result Next → Prop
  | .ok (.value v) w' => S v w'
  | .ok .skip w' => S undef w'
  | .ok (.enter f args) w' => Calls P f args w' fun e w'' => ∃ v, e = .returned v ∧ S v w''
  | _ => False
def Gives (P : Program) (o : Oper) (a : Act) (w : World) (S : Value → World → Prop) : Prop := GivesR P S ((execOp a.eval o).run P w)

/-- what is told of an operation's value; it stays true while memory is added -/
structure Tells (R : World → World → Prop) where
  φ : Value → World → Prop
  st : ∀ v w w', R w w' → φ v w → φ v w'

def direct (o : Oper) : List Nat := (o.after.toList.filter (Region.binds .any)).map (·.on)

section
variable (P : Program) (ops : Array Oper) (pre : Array Nat) (C : World → Prop) (R : World → World → Prop) (L : Nat → Option (Tells R)) (Q : Act → World → Prop)

/-- The walk over the operations of a list. F: what is known of those that have been. -/
def dag : List Nat → (Nat → World → Prop) → Act → Prop
  | [], F, a => ∀ w, C w → (∀ k, F k w) → Q a w
  | i :: l, F, a =>
    match ops[i]? with
    | none => dag l F a
    | some o =>
      if Region.wanted o (yielded ops a.tmps) = true then
        match L i with
        | none => ∃ v, (∀ w, (execOp a.eval o).run P w = .ok (.value v) w) ∧ dag l F (a.put o.dst v)
        | some t => (∀ w, C w → (∀ k, (pre.getD i 0).testBit k = true → F k w) → Gives P o a w (fun v w' => C w' ∧ R w w' ∧ t.φ v w')) ∧
            ∀ v, (∃ w, C w ∧ (∀ k, F k w) ∧ t.φ v w) → dag l (fun k w => (k = i → t.φ v w) ∧ F k w) (a.put o.dst v)
      else dag l F (a.put o.dst undef)
end

section
variable {P : Program} {ops : Array Oper} {pre : Array Nat} {C : World → Prop} {R : World → World → Prop} {L : Nat → Option (Tells R)} {Q : Act → World → Prop}

theorem GivesR.some {S : Value → World → Prop} {r : Result Next} (h : GivesR P S r) : ∃ v w', S v w' := by
  cases r with
  | ok n w' =>
    cases n <;> simp only [GivesR] at h
    case value v => exact ⟨_, _, h⟩
    case skip => exact ⟨_, _, h⟩
    case enter f args =>
      obtain ⟨e, w'', fr, ⟨v, _, hS⟩, _⟩ := h []
      exact ⟨v, w'', hS⟩
  | halt x w' => exact h.elim

theorem GivesR.mono {S S' : Value → World → Prop} (hS : ∀ v w, S v w → S' v w) {r : Result Next} (h : GivesR P S r) : GivesR P S' r := by
  cases r with
  | ok n w' =>
    cases n <;> simp only [GivesR] at h ⊢
    case value v => exact hS _ _ h
    case skip => exact hS _ _ h
    case enter f args => exact h.mono fun e w'' ⟨v, he, hs⟩ => ⟨v, he, hS _ _ hs⟩
  | halt x w' => exact h.elim

/-- one operation of the walk, what follows behind a predicate -/
def dagOp (P : Program) (ops : Array Oper) (pre : Array Nat) (C : World → Prop) (R : World → World → Prop) (L : Nat → Option (Tells R)) (i : Nat) (o : Oper) (F : Nat → World → Prop) (a : Act)
    (K : (Nat → World → Prop) → Act → Prop) : Prop :=
  if Region.wanted o (yielded ops a.tmps) = true then
    match L i with
    | none => ∃ v, (∀ w, (execOp a.eval o).run P w = .ok (.value v) w) ∧ K F (a.put o.dst v)
    | some t => (∀ w, C w → (∀ k, (pre.getD i 0).testBit k = true → F k w) → Gives P o a w (fun v w' => C w' ∧ R w w' ∧ t.φ v w')) ∧
        ∀ v, (∃ w, C w ∧ (∀ k, F k w) ∧ t.φ v w) → K (fun k w => (k = i → t.φ v w) ∧ F k w) (a.put o.dst v)
  else K F (a.put o.dst undef)

theorem dag_cons {i : Nat} {o : Oper} (hi : ops[i]? = some o) (l : List Nat) (F : Nat → World → Prop) (a : Act) :
    dag P ops pre C R L Q (i :: l) F a = dagOp P ops pre C R L i o F a (dag P ops pre C R L Q l) := by
  simp only [dag, hi, dagOp]

theorem dagOp_mono {i : Nat} {o : Oper} {F : Nat → World → Prop} {a : Act} {K K' : (Nat → World → Prop) → Act → Prop} (hK : ∀ F a, K F a → K' F a)
    (h : dagOp P ops pre C R L i o F a K) : dagOp P ops pre C R L i o F a K' := by
  unfold dagOp at *
  split
  · rename_i hw
    rw [if_pos hw] at h
    cases hL : L i with
    | none =>
      simp only [hL] at h ⊢
      obtain ⟨v, h1, h2⟩ := h
      exact ⟨v, h1, hK _ _ h2⟩
    | some t =>
      simp only [hL] at h ⊢
      exact ⟨h.1, fun v hv => hK _ _ (h.2 v hv)⟩
  · rename_i hw
    rw [if_neg hw] at h
    exact hK _ _ h

/-- what the facts are at a world that has them all, behind one operation more -/
theorem dagOp_some {i : Nat} {o : Oper} {F : Nat → World → Prop} {a : Act} {t : Tells R} (hL : L i = some t) {w : World} (hC : C w) (hF : ∀ k, F k w) (hst : ∀ w w', R w w' → ∀ k, F k w → F k w')
    (h : ∀ w, C w → (∀ k, (pre.getD i 0).testBit k = true → F k w) → Gives P o a w (fun v w' => C w' ∧ R w w' ∧ t.φ v w')) : ∃ v w', C w' ∧ (∀ k, F k w') ∧ t.φ v w' := by
  obtain ⟨v, w', h1, h2, h3⟩ := GivesR.some (h w hC fun k _ => hF k)
  exact ⟨v, w', h1, fun k => hst _ _ h2 k (hF k), h3⟩

theorem dagOp_swap {i j : Nat} {oi oj : Oper} (hne : i ≠ j) (hap : oi.apart ops oj = true)
    (hsi : ∀ cs b, oi.op ≠ .select cs b) (hsj : ∀ cs b, oj.op ≠ .select cs b) (hij : (pre.getD i 0).testBit j = false) (hji : (pre.getD j 0).testBit i = false)
    {F : Nat → World → Prop} {a : Act} {w : World} (hC : C w) (hF : ∀ k, F k w) (hst : ∀ w w', R w w' → ∀ k, F k w → F k w') {K : (Nat → World → Prop) → Act → Prop}
    (h : dagOp P ops pre C R L j oj F a fun F a => dagOp P ops pre C R L i oi F a K) : dagOp P ops pre C R L i oi F a fun F a => dagOp P ops pre C R L j oj F a K := by
  obtain ⟨h1, h2, h3⟩ := Oper.apart_spec hap
  have ei : ∀ u, execOp (a.put oj.dst u).eval oi = execOp a.eval oi := fun u => execOp_put oi hsi a oj.dst u h3
  have ej : ∀ u, execOp (a.put oi.dst u).eval oj = execOp a.eval oj := fun u => execOp_put oj hsj a oi.dst u h1
  have wi : ∀ u, Region.wanted oi (yielded ops (a.put oj.dst u).tmps) = Region.wanted oi (yielded ops a.tmps) := fun u => wanted_put oi a oj.dst u h3
  have wj : ∀ u, Region.wanted oj (yielded ops (a.put oi.dst u).tmps) = Region.wanted oj (yielded ops a.tmps) := fun u => wanted_put oj a oi.dst u h1
  have hcomm : ∀ u v, (a.put oj.dst u).put oi.dst v = (a.put oi.dst v).put oj.dst u := fun u v => (Act.put_comm a v u h2).symm
  have hF2 : ∀ (x y : World → Prop), (fun (k : Nat) (w : World) => (k = i → x w) ∧ ((k = j → y w) ∧ F k w)) = (fun k w => (k = j → y w) ∧ ((k = i → x w) ∧ F k w)) := fun x y => by
    funext k w; exact propext and_left_comm
  -- what op i may use does not speak of j, and the other way round
  have hpi : ∀ (y : World → Prop) (w : World), (∀ k, (pre.getD i 0).testBit k = true → F k w) → (∀ k, (pre.getD i 0).testBit k = true → (k = j → y w) ∧ F k w) :=
    fun y w hh k hk => ⟨fun e => absurd hk (by rw [e, hij]; exact Bool.false_ne_true), hh k hk⟩
  have gi : ∀ u w S, Gives P oi (a.put oj.dst u) w S = Gives P oi a w S := fun u w S => by unfold Gives; rw [ei]
  have gj : ∀ u w S, Gives P oj (a.put oi.dst u) w S = Gives P oj a w S := fun u w S => by unfold Gives; rw [ej]
  unfold dagOp at h ⊢
  simp only [ei, ej, gi, gj, wi, wj, hcomm] at h ⊢
  by_cases hwi : Region.wanted oi (yielded ops a.tmps) = true <;> by_cases hwj : Region.wanted oj (yielded ops a.tmps) = true <;> simp only [hwi, hwj, if_true, if_false, Bool.false_eq_true] at h ⊢
  · cases hLi : L i with
    | none =>
      cases hLj : L j with
      | none =>
        simp only [hLi, hLj] at h ⊢
        obtain ⟨v, hv, u, hu, hk⟩ := h
        exact ⟨u, hu, v, hv, hk⟩
      | some t =>
        simp only [hLi, hLj] at h ⊢
        obtain ⟨hv, hall⟩ := h
        obtain ⟨v, w', hC', hF', hφ⟩ := dagOp_some hLj hC hF hst hv
        obtain ⟨u, hu, _⟩ := hall v ⟨w', hC', hF', hφ⟩
        refine ⟨u, hu, hv, fun v2 hv2 => ?_⟩
        obtain ⟨u2, hu2, hk⟩ := hall v2 hv2
        have he : u2 = u := by
          have := (hu2 w).symm.trans (hu w)
          simpa using this
        exact he ▸ hk
    | some s =>
      cases hLj : L j with
      | none =>
        simp only [hLi, hLj] at h ⊢
        obtain ⟨v, hv, hu, hall⟩ := h
        exact ⟨hu, fun u hu2 => ⟨v, hv, hall u hu2⟩⟩
      | some t =>
        simp only [hLi, hLj] at h ⊢
        obtain ⟨hv, hall⟩ := h
        obtain ⟨v, w', hC', hF', hφ⟩ := dagOp_some hLj hC hF hst hv
        refine ⟨fun w hw hp => (hall v ⟨w', hC', hF', hφ⟩).1 w hw (hpi _ w hp), fun u ⟨w2, hC2, hF2', hφ2⟩ => ⟨fun w hw hp => hv w hw fun k hk => (hp k hk).2, fun v2 ⟨w3, hC3, hF3, hφ3⟩ => ?_⟩⟩
        rw [← hF2]
        exact (hall v2 ⟨w3, hC3, fun k => (hF3 k).2, hφ3⟩).2 u ⟨w3, hC3, fun k => ⟨fun _ => hφ3, (hF3 k).2⟩, (hF3 i).1 rfl⟩
  · exact h
  · exact h
  · exact h

theorem dag_bubble {i : Nat} {oi : Oper} (hi : ops[i]? = some oi) (hsel : ∀ (j : Nat) (o : Oper) cs b, ops[j]? = some o → o.op ≠ .select cs b) (l2 : List Nat) :
    ∀ (l1 : List Nat), (∀ j ∈ l1, j ≠ i ∧ (pre.getD i 0).testBit j = false ∧ (pre.getD j 0).testBit i = false ∧ ∀ oj, ops[j]? = some oj → oi.apart ops oj = true) →
    ∀ (F : Nat → World → Prop) (a : Act) (w : World), C w → (∀ k, F k w) → (∀ w w', R w w' → ∀ k, F k w → F k w') →
      dag P ops pre C R L Q (l1 ++ i :: l2) F a → dag P ops pre C R L Q (i :: (l1 ++ l2)) F a
  | [], _, _, _, _, _, _, _, h => h
  | j :: l1, hl, F, a, w, hC, hF, hst, h => by
    have ih := dag_bubble hi hsel l2 l1 (fun k hk => hl k (List.mem_cons_of_mem _ hk))
    obtain ⟨hne, hij, hji, hap⟩ := hl j List.mem_cons_self
    cases hj : ops[j]? with
    | none =>
      have h' : dag P ops pre C R L Q (l1 ++ i :: l2) F a := by
        have : dag P ops pre C R L Q (j :: (l1 ++ i :: l2)) F a := h
        simpa only [dag, hj] using this
      have h2 := ih F a w hC hF hst h'
      rw [dag_cons hi] at h2 ⊢
      refine dagOp_mono (fun F a hh => ?_) h2
      show dag P ops pre C R L Q (j :: (l1 ++ l2)) F a
      simpa only [dag, hj] using hh
    | some oj =>
      have h' : dagOp P ops pre C R L j oj F a (dag P ops pre C R L Q (l1 ++ i :: l2)) := by
        have := h
        rw [List.cons_append, dag_cons hj] at this
        exact this
      have h2 : dagOp P ops pre C R L j oj F a (fun F a => dagOp P ops pre C R L i oi F a (dag P ops pre C R L Q (l1 ++ l2))) := by
        unfold dagOp at h' ⊢
        split
        · rename_i hw
          rw [if_pos hw] at h'
          cases hL : L j with
          | none =>
            simp only [hL] at h' ⊢
            obtain ⟨v, h3, h4⟩ := h'
            have h5 := ih F _ w hC hF hst h4
            rw [dag_cons hi] at h5
            exact ⟨v, h3, h5⟩
          | some t =>
            simp only [hL] at h' ⊢
            refine ⟨h'.1, fun v ⟨w2, hC2, hF2, hφ⟩ => ?_⟩
            have h5 := ih _ _ w2 hC2 (fun k => ⟨fun _ => hφ, hF2 k⟩) (fun w w' hR k hk => ⟨fun e => t.st _ _ _ hR (hk.1 e), hst _ _ hR k hk.2⟩) (h'.2 v ⟨w2, hC2, hF2, hφ⟩)
            rw [dag_cons hi] at h5
            exact h5
        · rename_i hw
          rw [if_neg hw] at h'
          have h5 := ih F _ w hC hF hst h'
          rw [dag_cons hi] at h5
          exact h5
      have h3 := dagOp_swap (Ne.symm hne) (hap oj hj) (fun cs b => hsel i oi cs b hi) (fun cs b => hsel j oj cs b hj) hij hji hC hF hst h2
      rw [dag_cons hi]
      refine dagOp_mono (fun F a hh => ?_) h3
      rw [List.cons_append, dag_cons hj]
      exact hh

/-- the checks on a region -/
def dagB (ops : Array Oper) (pre : Array Nat) : Bool :=
  Region.noSelect ops &&
  (List.range ops.size).all fun i => match ops[i]? with
    | none => false
    | some o => ((List.range ops.size).all fun k => !(pre.getD i 0).testBit k || (direct o).any fun e => e == k || (pre.getD e 0).testBit k) &&
      ((List.range ops.size).all fun j => match ops[j]? with
        | none => false
        | some oj => i == j || (pre.getD i 0).testBit j || (pre.getD j 0).testBit i || o.apart ops oj) &&
      ((direct o).all fun k => (pre.getD i 0).testBit k && decide (k < ops.size)) && ((List.range ops.size).all fun j => !(pre.getD i 0).testBit j || decide (j < i))

theorem Gives.wp {o : Oper} {a : Act} {w : World} {S : Value → World → Prop} {K : Act → World → Prop} {Q' : Exit → Act → World → Prop} (h : Gives P o a w S) (hK : ∀ v w', S v w' → K (a.put o.dst v) w') : o.wp P a w K Q' := by
  unfold Gives at h
  unfold Oper.wp
  generalize (execOp a.eval o).run P w = r at *
  cases r with
  | ok n w' =>
    cases n <;> simp only [GivesR] at h <;> simp only [Oper.upon]
    case value v => exact hK _ _ h
    case skip => exact hK _ _ h
    case enter f args => exact h.mono fun e w'' ⟨v, he, hs⟩ => by subst he; exact hK _ _ hs
  | halt x w' => exact h.elim

theorem wpAny_of_dag {Q' : Exit → Act → World → Prop} (hQ : ∀ a w, Q a w → Q' .normal a w) (hB : dagB ops pre = true) :
    ∀ (fuel : Nat) (l : List Nat) (listed : Array Bool) (F : Nat → World → Prop) (a : Act) (w : World), l.length = fuel → listed.size = ops.size → l.Pairwise (· < ·) →
      (∀ i, i ∈ l ↔ listed.getD i true = false) → (∀ i, i < ops.size → i ∉ l → ∀ k, (pre.getD i 0).testBit k = true → k < ops.size → k ∉ l) →
      C w → (∀ k, F k w) → (∀ w w', R w w' → ∀ k, F k w → F k w') → dag P ops pre C R L Q l F a → wpAny P .any ops Q' fuel listed a w := by
  unfold dagB at hB
  rw [Bool.and_eq_true] at hB
  obtain ⟨hns, hall⟩ := hB
  rw [List.all_eq_true] at hall
  have hsel := Region.noSelect_spec hns
  have hall' : ∀ i o, ops[i]? = some o → (∀ k, k < ops.size → (pre.getD i 0).testBit k = true → ∃ e ∈ direct o, e = k ∨ (pre.getD e 0).testBit k = true) ∧
      (∀ j oj, ops[j]? = some oj → i = j ∨ (pre.getD i 0).testBit j = true ∨ (pre.getD j 0).testBit i = true ∨ o.apart ops oj = true) ∧
      (∀ k ∈ direct o, (pre.getD i 0).testBit k = true ∧ k < ops.size) ∧ (∀ j, j < ops.size → (pre.getD i 0).testBit j = true → j < i) := by
    intro i o ho
    have hi : i < ops.size := (Array.getElem?_eq_some_iff.1 ho).1
    have h := hall i (List.mem_range.2 hi)
    simp only [ho, Bool.and_eq_true, List.all_eq_true, List.mem_range, Bool.or_eq_true, Bool.not_eq_true', List.any_eq_true, beq_iff_eq, decide_eq_true_eq] at h
    obtain ⟨⟨⟨h1, h2⟩, h3⟩, h4⟩ := h
    refine ⟨fun k hk hb => ?_, fun j oj hoj => ?_, h3, fun j hj hb => ?_⟩
    · rcases h1 k hk with h | ⟨e, he, h⟩
      · rw [h] at hb; cases hb
      · exact ⟨e, he, h⟩
    · have := h2 j (Array.getElem?_eq_some_iff.1 hoj).1
      simp only [hoj, Bool.or_eq_true, beq_iff_eq] at this
      rcases this with ((h | h) | h) | h
      · exact .inl h
      · exact .inr (.inl h)
      · exact .inr (.inr (.inl h))
      · exact .inr (.inr (.inr h))
    · rcases h4 j hj with h | h
      · rw [h] at hb; cases hb
      · exact h
  have hdir : ∀ (i : Nat) (o : Oper), ops[i]? = some o → ∀ k ∈ direct o, k < i ∧ k < ops.size := by
    intro i o ho k hk
    obtain ⟨_, _, h3, h4⟩ := hall' i o ho
    obtain ⟨hb, hks⟩ := h3 k hk
    exact ⟨h4 k hks hb, hks⟩
  intro fuel
  induction fuel with
  | zero =>
    intro l listed F a w hlen hsz hsort hmem hclosed hC hF hst h
    have hl : l = [] := List.eq_nil_of_length_eq_zero hlen
    subst hl
    refine ⟨?_, hQ _ _ (h w hC hF)⟩
    rw [List.eq_nil_iff_forall_not_mem]
    intro i hi
    have := (hmem i).2 (mem_ready.1 hi).1
    cases this
  | succ fuel ih =>
    intro l listed F a w hlen hsz hsort hmem hclosed hC hF hst h
    have hin : ∀ i, i ∈ l → i < ops.size := fun i hi => by
      have h1 := (hmem i).1 hi
      rcases Nat.lt_or_ge i ops.size with h' | h'
      · exact h'
      · rw [Array.getD_eq_getD_getElem?, Array.getElem?_eq_none (by omega)] at h1; cases h1
    refine ⟨fun hnone => ?_, fun i hi => ?_⟩
    · exfalso
      cases l with
      | nil => cases hlen
      | cons i0 l =>
        have hi0 := hin i0 List.mem_cons_self
        have ho : ops[i0]? = some ops[i0] := Array.getElem?_eq_getElem hi0
        have : i0 ∈ Region.ready .any ops listed := mem_ready.2 ⟨(hmem i0).1 List.mem_cons_self, ops[i0], ho, fun e he hb => by
          have hd : e.on ∈ direct ops[i0] := List.mem_map.2 ⟨e, List.mem_filter.2 ⟨by simpa using he, hb⟩, rfl⟩
          obtain ⟨hlt, hlt2⟩ := hdir i0 _ ho _ hd
          have hnl : e.on ∉ i0 :: l := fun hm => by
            rcases List.mem_cons.1 hm with h | h
            · omega
            · have := (List.pairwise_cons.1 hsort).1 _ h
              omega
          have hx : ¬ listed.getD e.on true = false := fun hh => hnl ((hmem _).2 hh)
          have hlt3 : e.on < listed.size := by omega
          rw [Array.getD_eq_getD_getElem?, Array.getElem?_eq_getElem hlt3] at hx ⊢
          simpa using hx⟩
        rw [hnone] at this
        cases this
    · obtain ⟨hun, o, ho, hafter⟩ := mem_ready.1 hi
      have hil : i ∈ l := (hmem i).2 hun
      have hisz := hin i hil
      obtain ⟨l1, l2, rfl⟩ := List.append_of_mem hil
      obtain ⟨p1, p2, p3, p4⟩ := hall' i o ho
      have hpre : ∀ k, k < ops.size → (pre.getD i 0).testBit k = true → k ∉ l1 ++ i :: l2 := by
        intro k hk hb
        obtain ⟨e, he, hor⟩ := p1 k hk hb
        obtain ⟨ed, hed, rfl⟩ := List.mem_map.1 he
        obtain ⟨hed1, hed2⟩ := List.mem_filter.1 hed
        have h1 := hafter ed (by simpa using hed1) hed2
        have hen : ed.on ∉ l1 ++ i :: l2 := fun hm => by
          have h2 := (hmem _).1 hm
          have h3 := hin _ hm
          rw [Array.getD_eq_getD_getElem?, Array.getElem?_eq_getElem (by omega)] at h1 h2
          simp only [Option.getD_some] at h1 h2
          rw [h1] at h2; cases h2
        rcases hor with rfl | hor
        · exact hen
        · exact hclosed _ (hdir i o ho _ he).2 hen k hor hk
      have hb := dag_bubble (P := P) (C := C) (R := R) (L := L) (Q := Q) (pre := pre) ho hsel l2 l1 (fun j hj => by
        have hjm : j ∈ l1 ++ i :: l2 := List.mem_append_left _ hj
        have hjs := hin j hjm
        have hji : j < i := (List.pairwise_append.1 hsort).2.2 j hj i List.mem_cons_self
        have hij : (pre.getD i 0).testBit j = false := by
          cases hx : (pre.getD i 0).testBit j with
          | false => rfl
          | true => exact absurd hjm (hpre j hjs hx)
        have hji2 : (pre.getD j 0).testBit i = false := by
          cases hx : (pre.getD j 0).testBit i with
          | false => rfl
          | true =>
            have := (hall' j ops[j] (Array.getElem?_eq_getElem hjs)).2.2.2 i hisz hx
            omega
        refine ⟨by omega, hij, hji2, fun oj hoj => ?_⟩
        rcases p2 j oj hoj with h | h | h | h
        · omega
        · rw [hij] at h; cases h
        · rw [hji2] at h; cases h
        · exact h) F a w hC hF hst h
      rw [dag_cons ho] at hb
      have hsub : (l1 ++ l2).Sublist (l1 ++ i :: l2) := List.Sublist.append (List.Sublist.refl _) (List.sublist_cons_self _ _)
      have hnod : i ∉ l1 ++ l2 := fun hm => by
        have h1 := List.pairwise_append.1 hsort
        rcases List.mem_append.1 hm with h | h
        · have := h1.2.2 i h i List.mem_cons_self; omega
        · have := (List.pairwise_cons.1 h1.2.1).1 i h; omega
      have next : ∀ (F : Nat → World → Prop) (a : Act) (w : World), C w → (∀ k, F k w) → (∀ w w', R w w' → ∀ k, F k w → F k w') → dag P ops pre C R L Q (l1 ++ l2) F a →
          wpAny P .any ops Q' fuel (listed.setIfInBounds i true) a w := by
        intro F a w hC hF hst h
        refine ih (l1 ++ l2) _ F a w (by simp at hlen ⊢; omega) (by simpa using hsz) (hsort.sublist hsub) (fun j => ?_) (fun j hj hjn k hbt hk hkm => ?_) hC hF hst h
        · by_cases hji : j = i
          · subst hji
            rw [Array.getD_eq_getD_getElem?, Array.getElem?_setIfInBounds_self_of_lt (by omega)]
            simpa using hnod
          · rw [getD_set_ne true (Ne.symm hji), ← hmem]
            simp [hji]
        · by_cases hji : j = i
          · subst hji
            exact hpre k hk hbt (hsub.subset hkm)
          · exact hclosed j hj (fun hm => hjn (by simpa [hji] using hm)) k hbt hk (hsub.subset hkm)
      unfold wpOp
      simp only [ho]
      unfold dagOp at hb
      split
      · rename_i hw
        rw [if_pos hw] at hb
        refine .inl ?_
        cases hL : L i with
        | none =>
          simp only [hL] at hb
          obtain ⟨v, hv, hk⟩ := hb
          unfold Oper.wp
          rw [hv w]
          exact next _ _ _ hC hF hst hk
        | some t =>
          simp only [hL] at hb
          refine Gives.wp (hb.1 w hC fun k _ => hF k) fun v w' ⟨hC', hR, hφ⟩ => ?_
          have hF' : ∀ k, F k w' := fun k => hst _ _ hR k (hF k)
          exact next _ _ _ hC' (fun k => ⟨fun _ => hφ, hF' k⟩) (fun w w' hR k hk => ⟨fun e => t.st _ _ _ hR (hk.1 e), hst _ _ hR k hk.2⟩) (hb.2 v ⟨w', hC', hF', hφ⟩)
      · rename_i hw
        rw [if_neg hw] at hb
        exact next _ _ _ hC hF hst hb

/-! ### For use -/

/-- The walk over the operations themselves, in the text's order, k: the number of the next one. -/
def dagT (P : Program) (ops : Array Oper) (pre : Array Nat) (C : World → Prop) (R : World → World → Prop) (Q : Act → World → Prop) : List (Option (Tells R)) → Nat → List Oper → (Nat → World → Prop) → Act → Prop
  | _, _, [], F, a => ∀ w, C w → (∀ k, F k w) → Q a w
  | [], _, _ :: _, _, _ => False
  | t :: L, i, o :: l, F, a =>
      if Region.wanted o (yielded ops a.tmps) = true then
        match t with
        | none => ∃ v, (∀ w, (execOp a.eval o).run P w = .ok (.value v) w) ∧ dagT P ops pre C R Q L (i + 1) l F (a.put o.dst v)
        | some t => (∀ w, C w → (∀ k, (pre.getD i 0).testBit k = true → F k w) → Gives P o a w (fun v w' => C w' ∧ R w w' ∧ t.φ v w')) ∧
            ∀ v, (∃ w, C w ∧ (∀ k, F k w) ∧ t.φ v w) → dagT P ops pre C R Q L (i + 1) l (fun k w => (k = i → t.φ v w) ∧ F k w) (a.put o.dst v)
      else dagT P ops pre C R Q L (i + 1) l F (a.put o.dst undef)

theorem dag_of_dagT (L : List (Option (Tells R))) : ∀ (l : List Oper) (L' : List (Option (Tells R))) (i : Nat) (F : Nat → World → Prop) (a : Act), (∀ j, l[j]? = ops[i + j]?) → (∀ j, L'[j]? = L[i + j]?) →
    dagT P ops pre C R Q L' i l F a → dag P ops pre C R (fun i => (L[i]?).join) Q (List.range' i l.length) F a
  | [], _, _, _, _, _, _, h => by cases ‹List (Option (Tells R))› <;> simpa [dagT, dag] using h
  | o :: l, [], _, _, _, _, _, h => by simp [dagT] at h
  | o :: l, t :: L', i, F, a, hl, hL, h => by
    have h0 : ops[i]? = some o := by simpa using (hl 0).symm
    have hL0 : L[i]? = some t := by simpa using (hL 0).symm
    have ih := fun F a => dag_of_dagT L l L' (i + 1) F a (fun j => by have := hl (j + 1); simpa [Nat.add_assoc, Nat.add_comm 1 j] using this) (fun j => by have := hL (j + 1); simpa [Nat.add_assoc, Nat.add_comm 1 j] using this)
    rw [List.length_cons, List.range'_succ, dag_cons h0]
    unfold dagOp
    simp only [dagT] at h
    split
    · rename_i hw
      rw [if_pos hw] at h
      simp only [hL0, Option.join_some]
      cases t with
      | none =>
        obtain ⟨v, h1, h2⟩ := h
        exact ⟨v, h1, ih _ _ h2⟩
      | some t =>
        exact ⟨h.1, fun v hv => ih _ _ (h.2 v hv)⟩
    · rename_i hw
      rw [if_neg hw] at h
      exact ih _ _ h

/-- **The region**: the checks hold by reckoning; the world behind the draw is of the class. -/
theorem wp_region_dag {id : Nat} {l : List Oper} {Q' : Exit → Act → World → Prop} {a : Act} {w : World} (L : List (Option (Tells R))) (hm : P.follows .mixedOrders = true) (pre : Array Nat) (hB : dagB l.toArray pre = true)
    (hC : C w.drew) (h : dagT P l.toArray pre C R (fun a w => Q' .normal a w) L 0 l (fun _ _ => True) a) : (Code.region id l.toArray true).wp P Q' a w := by
  refine wp_region_any hm ?_
  have hd := dag_of_dagT (ops := l.toArray) L l L 0 _ a (by simp) (by simp) h
  refine wpAny_of_dag (Q := fun a w => Q' .normal a w) (fun _ _ h => h) hB _ (List.range' 0 l.length) _ (fun _ _ => True) a _ (by simp) (by simp) (List.pairwise_lt_range') (fun i => ?_) (fun i hi hn => ?_) hC (fun _ => trivial) (fun _ _ _ _ h => h) hd
  · simp [List.mem_range', Array.getElem?_replicate]
    split <;> simp <;> omega
  · exact absurd (by simp [List.mem_range']; simpa using hi) hn

/-- operations of which nothing but a value comes -/
def pureOp : Op → Bool
  | .move _ | .assign _ | .pick .. | .binOp .. | .unOp .. | .convert .. | .slice .. | .extract .. | .field .. | .index .. | .indexAddr .. | .fieldAddr .. | .build .. | .makeFunc .. => true
  | .call c => match c.callee with
    | .builtin .len | .builtin .min | .builtin .max => true
    | _ => false
  | _ => false

theorem bind_value (s : Sem Value) (w : World) : (do pure (Next.value (← s)) : Sem Next).run P w = match s.run P w with | .ok x w' => .ok (.value x) w' | .halt h w' => .halt h w' := by
  rw [Sem.run_bind]
  cases s.run P w <;> rfl

theorem quiet_value_of {s : Sem Value} {w : World} {v : Value} (h : Oper.quietUpon P C w v ((do pure (Next.value (← s)) : Sem Next).run P w)) : (do pure (Next.value (← s)) : Sem Next).run P w = .ok (.value v) w := by
  rw [bind_value] at h ⊢
  cases hs : s.run P w with
  | ok x w' =>
    simp only [hs, Oper.quietUpon] at h ⊢
    obtain ⟨rfl, rfl⟩ := h
    rfl
  | halt x w' => simp only [hs, Oper.quietUpon] at h

theorem quiet_value {o : Oper} {a : Act} {w : World} {v : Value} (hp : pureOp o.op = true) (h : o.quietAt P a C w v) : (execOp a.eval o).run P w = .ok (.value v) w := by
  unfold Oper.quietAt at h
  obtain ⟨dst, op, type, pos, after, guard⟩ := o
  cases op <;> simp only [pureOp, Bool.false_eq_true] at hp
  case move x => exact (by simp only [execOp] at h ⊢; obtain ⟨_, h⟩ := h; exact congrArg (fun v => Result.ok (Next.value v) w) h)
  case assign x => exact (by simp only [execOp] at h ⊢; obtain ⟨_, h⟩ := h; exact congrArg (fun v => Result.ok (Next.value v) w) h)
  case pick c x y =>
    simp only [execOp] at h ⊢
    rw [Sem.run_bind] at h ⊢
    cases hs : (asBool (a.eval c)).run P w with
    | ok b w' =>
      simp only [hs] at h ⊢
      obtain ⟨h1, h2⟩ := h
      subst h1
      exact congrArg (fun v => Result.ok (Next.value v) w') h2
    | halt x w' => simp only [hs] at h; exact h.elim
  case call c =>
    obtain ⟨callee, args, types⟩ := c
    cases callee <;> simp only [Bool.false_eq_true] at hp
    case builtin b =>
      cases b <;> simp only [Bool.false_eq_true] at hp
      case len => exact quiet_value_of (s := Builtin.len_ types type (args.map a.eval)) h
      case max => exact quiet_value_of (s := Builtin.max_ types type (args.map a.eval)) h
      case min => exact quiet_value_of (s := Builtin.min_ types type (args.map a.eval)) h
  all_goals (simp only [execOp] at h ⊢; exact quiet_value_of h)

end
section
variable {P : Program} {ops : Array Oper} {pre : Array Nat} {C : World → Prop} {R : World → World → Prop} {Q : Act → World → Prop} {L : List (Option (Tells R))} {i : Nat} {o : Oper} {l : List Oper} {F : Nat → World → Prop} {a : Act}

/-- an operation of which nothing but a value comes, run by the kit's own step: 'go_big_quiet_step (fail)' -/
theorem dagT_pure (hp : pureOp o.op = true) (h : wpQuiet P ops (fun _ => True) (fun a' => dagT P ops pre C R Q L (i + 1) l F a') [o] a) : dagT P ops pre C R Q (none :: L) i (o :: l) F a := by
  unfold dagT
  unfold wpQuiet at h
  split
  · rename_i hw
    rw [if_pos hw] at h
    obtain ⟨v, h1, h2⟩ := h
    exact ⟨v, fun w => quiet_value hp (h1 w trivial), h2⟩
  · rename_i hw
    rw [if_neg hw] at h
    exact h

theorem dagT_on {C' : World → Prop} (h : dagT P ops pre C R Q L i l F a) : wpQuiet P ops C' (fun a' => dagT P ops pre C R Q L i l F a') [] a := h

theorem dagT_skip {t : Option (Tells R)} (hw : Region.wanted o (yielded ops a.tmps) = false) (h : dagT P ops pre C R Q L (i + 1) l F (a.put o.dst undef)) : dagT P ops pre C R Q (t :: L) i (o :: l) F a := by
  unfold dagT
  rw [if_neg (by rw [hw]; exact Bool.false_ne_true)]
  exact h

/-- an operation of which something is told -/
theorem dagT_told {t : Tells R} (hw : Region.wanted o (yielded ops a.tmps) = true) (h1 : ∀ w, C w → (∀ k, (pre.getD i 0).testBit k = true → F k w) → Gives P o a w (fun v w' => C w' ∧ R w w' ∧ t.φ v w'))
    (h2 : ∀ v w, C w → (∀ k, F k w) → t.φ v w → dagT P ops pre C R Q L (i + 1) l (fun k w => (k = i → t.φ v w) ∧ F k w) (a.put o.dst v)) : dagT P ops pre C R Q (some t :: L) i (o :: l) F a := by
  unfold dagT
  rw [if_pos hw]
  exact ⟨h1, fun v ⟨w, hC, hF, hφ⟩ => h2 v w hC hF hφ⟩

theorem dagT_done {L : List (Option (Tells R))} (h : ∀ w, C w → (∀ k, F k w) → Q a w) : dagT P ops pre C R Q L i [] F a := by
  cases L <;> exact h

/-- a call by a contract -/
theorem Gives.call {w : World} {S : Value → World → Prop} {f : FuncId} {args : Array Value} (hr : (execOp a.eval o).run P w = .ok (.enter f args) w) {T : Ending → World → Prop} (hc : Calls P f args w T)
    (h : ∀ e w', T e w' → ∃ v, e = .returned v ∧ S v w') : Gives P o a w S := by
  unfold Gives
  rw [hr]
  exact hc.mono h
theorem Gives.skip {w w' : World} {S : Value → World → Prop} (hr : (execOp a.eval o).run P w = .ok .skip w') (h : S undef w') : Gives P o a w S := by
  unfold Gives
  rw [hr]
  exact h
theorem Gives.value {w w' : World} {S : Value → World → Prop} {v : Value} (hr : (execOp a.eval o).run P w = .ok (.value v) w') (h : S v w') : Gives P o a w S := by
  unfold Gives
  rw [hr]
  exact h
end
section
variable {P : Program} {C : World → Prop} {R : World → World → Prop}
/-- 'wp_region_dag', what an operation waits for reckoned by the model's own 'before' -/
theorem wp_region_dag' {id : Nat} {l : List Oper} {Q' : Exit → Act → World → Prop} {a : Act} {w : World} (L : List (Option (Tells R))) (hm : P.follows .mixedOrders = true) (hB : dagB l.toArray (Region.before l.toArray) = true)
    (hC : C w.drew) (h : dagT P l.toArray (Region.before l.toArray) C R (fun a w => Q' .normal a w) L 0 l (fun _ _ => True) a) : (Code.region id l.toArray true).wp P Q' a w :=
  wp_region_dag L hm _ hB hC h
end
/-! ### A region in the text's order: one operation after the other -/
section
variable (P : Program) (ops : Array Oper) (Q : Act → World → Prop)
def seqW : List Oper → Act → World → Prop
  | [], a, w => Q a w
  | o :: l, a, w => if Region.wanted o (yielded ops a.tmps) = true then Gives P o a w (fun v w' => seqW l (a.put o.dst v) w') else seqW l (a.put o.dst undef) w
end
section
variable {P : Program} {ops : Array Oper} {Q : Act → World → Prop} {o : Oper} {l : List Oper} {a : Act} {w : World}
theorem wpList_of_seqW {Q' : Exit → Act → World → Prop} : ∀ (l : List Oper) (a : Act) (w : World), seqW P ops (fun a w => Q' .normal a w) l a w → wpList P ops Q' l a w
  | [], _, _, h => h
  | o :: l, a, w, h => by
    unfold seqW at h
    unfold wpList
    split
    · rename_i hw
      rw [if_pos hw] at h
      exact .inl (Gives.wp h fun v w' hs => wpList_of_seqW l _ _ hs)
    · rename_i hw
      rw [if_neg hw] at h
      exact wpList_of_seqW l _ _ h
/-- a region that does not draw its order -/
theorem wp_region_seq {id : Nat} {l : List Oper} {Q' : Exit → Act → World → Prop} {a : Act} {w : World} (h : seqW P l.toArray (fun a w => Q' .normal a w) l a w) : (Code.region id l.toArray false).wp P Q' a w := by
  refine wp_region ?_
  have h2 := wpOps_eq_wpList (P := P) (Q := Q') (ops := l.toArray) l 0 (by simp)
  rw [List.range_eq_range']
  show wpOps P l.toArray Q' (List.range' 0 l.length) a w
  rw [h2]
  exact wpList_of_seqW l a w h
theorem seqW_pure (hp : pureOp o.op = true) (h : wpQuiet P ops (fun _ => True) (fun a' => seqW P ops Q l a' w) [o] a) : seqW P ops Q (o :: l) a w := by
  unfold seqW
  unfold wpQuiet at h
  split
  · rename_i hw
    rw [if_pos hw] at h
    obtain ⟨v, h1, h2⟩ := h
    unfold Gives
    rw [quiet_value hp (h1 w trivial)]
    exact h2
  · rename_i hw
    rw [if_neg hw] at h
    exact h
theorem seqW_on {C' : World → Prop} (h : seqW P ops Q l a w) : wpQuiet P ops C' (fun a' => seqW P ops Q l a' w) [] a := h
theorem seqW_gives (hw : Region.wanted o (yielded ops a.tmps) = true) (h : Gives P o a w (fun v w' => seqW P ops Q l (a.put o.dst v) w')) : seqW P ops Q (o :: l) a w := by
  unfold seqW
  rw [if_pos hw]
  exact h
theorem seqW_skip (hw : Region.wanted o (yielded ops a.tmps) = false) (h : seqW P ops Q l (a.put o.dst undef) w) : seqW P ops Q (o :: l) a w := by
  unfold seqW
  rw [if_neg (by rw [hw]; exact Bool.false_ne_true)]
  exact h
theorem seqW_done (h : Q a w) : seqW P ops Q [] a w := h
end
/- A goal of these words is never opened by the elaborator (it would reckon the guards). -/
attribute [irreducible] dagT seqW
end Go.Proofs.Ythknhonpcmneaaa
