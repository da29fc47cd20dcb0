/- A drawn region whose operations that do something (calls, memory) wait for one another, the world threaded from one to the next; the others (values, loads of what stays) have one value in all worlds of a class, wherever they are taken. Its last operations may wait for all and run in order. -/
import Derived.Test.YthknhonpcmneaaaTail
namespace Go.Proofs.Ythknhonpcmneaaa
open Go

section
variable (P : Program) (ops : Array Oper) (C : World → Prop) (L : Nat → Option (Option Value)) (Q : Act → World → Prop)
/-- one operation; L: none: a value; some (some u): it gives u and leaves the world, in the whole class; some none: it does something -/
def chOp (i : Nat) (o : Oper) (a : Act) (w : World) (K : Act → World → Prop) : Prop :=
  if Region.wanted o (yielded ops a.tmps) = true then
    match L i with
    | none => ∃ v, (∀ w', C w' → (execOp a.eval o).run P w' = .ok (.value v) w') ∧ K (a.put o.dst v) w
    | some (some u) => (∀ w', C w' → Gives P o a w' (fun x w'' => x = u ∧ w'' = w')) ∧ K (a.put o.dst u) w
    | some none => Gives P o a w (fun v w' => C w' ∧ K (a.put o.dst v) w')
  else K (a.put o.dst undef) w
def ch : List Nat → Act → World → Prop
  | [], a, w => Q a w
  | i :: l, a, w =>
    match ops[i]? with
    | none => ch l a w
    | some o => chOp P ops C L i o a w (ch l)
end
def loudAt : Option (Option Value) → Bool | some none => true | _ => false
/-- those that do something wait for one another -/
def loudB (ops : Array Oper) (pre : Array Nat) (L : Nat → Option (Option Value)) : Bool := (List.range ops.size).all fun i => (List.range ops.size).all fun j => i == j || !loudAt (L i) || !loudAt (L j) || (pre.getD i 0).testBit j || (pre.getD j 0).testBit i

section
variable {P : Program} {ops : Array Oper} {pre : Array Nat} {C : World → Prop} {L : Nat → Option (Option Value)} {Q : Act → World → Prop}
theorem ch_cons {i : Nat} {o : Oper} (hi : ops[i]? = some o) (l : List Nat) (a : Act) (w : World) : ch P ops C L Q (i :: l) a w = chOp P ops C L i o a w (ch P ops C L Q l) := by
  simp only [ch, hi]
theorem chOp_mono {i : Nat} {o : Oper} {a : Act} {w : World} {K K' : Act → World → Prop} (hC : C w) (hK : ∀ a w, C w → K a w → K' a w) (h : chOp P ops C L i o a w K) : chOp P ops C L i o a w K' := by
  unfold chOp at *
  split
  · rename_i hw
    rw [if_pos hw] at h
    cases hL : L i with
    | none =>
      simp only [hL] at h ⊢
      obtain ⟨v, h1, h2⟩ := h
      exact ⟨v, h1, hK _ _ hC h2⟩
    | some t =>
      cases t with
      | none =>
        simp only [hL] at h ⊢
        exact GivesR.mono (fun v w' ⟨h1, h2⟩ => ⟨h1, hK _ _ h1 h2⟩) h
      | some u =>
        simp only [hL] at h ⊢
        exact ⟨h.1, hK _ _ hC h.2⟩
  · rename_i hw
    rw [if_neg hw] at h
    exact hK _ _ hC h

theorem chOp_swap {i j : Nat} {oi oj : Oper} (hap : oi.apart ops oj = true) (hsi : ∀ cs b, oi.op ≠ .select cs b) (hsj : ∀ cs b, oj.op ≠ .select cs b) (hl : loudAt (L i) = false ∨ loudAt (L j) = false) {a : Act} {w : World} (hC : C w) {K : Act → World → Prop}
    (h : chOp P ops C L j oj a w fun a w => chOp P ops C L i oi a w K) : chOp P ops C L i oi a w fun a w => chOp P ops C L j oj a w K := by
  obtain ⟨h1, h2, h3⟩ := Oper.apart_spec hap
  have ei : ∀ u, execOp (a.put oj.dst u).eval oi = execOp a.eval oi := fun u => execOp_put oi hsi a oj.dst u h3
  have ej : ∀ u, execOp (a.put oi.dst u).eval oj = execOp a.eval oj := fun u => execOp_put oj hsj a oi.dst u h1
  have wi : ∀ u, Region.wanted oi (yielded ops (a.put oj.dst u).tmps) = Region.wanted oi (yielded ops a.tmps) := fun u => wanted_put oi a oj.dst u h3
  have wj : ∀ u, Region.wanted oj (yielded ops (a.put oi.dst u).tmps) = Region.wanted oj (yielded ops a.tmps) := fun u => wanted_put oj a oi.dst u h1
  have hcomm : ∀ u v, (a.put oj.dst u).put oi.dst v = (a.put oi.dst v).put oj.dst u := fun u v => (Act.put_comm a v u h2).symm
  have gi : ∀ u w S, Gives P oi (a.put oj.dst u) w S = Gives P oi a w S := fun u w S => by unfold Gives; rw [ei]
  have gj : ∀ u w S, Gives P oj (a.put oi.dst u) w S = Gives P oj a w S := fun u w S => by unfold Gives; rw [ej]
  unfold chOp at h ⊢
  simp only [ei, ej, gi, gj, wi, wj, hcomm] at h ⊢
  by_cases hwi : Region.wanted oi (yielded ops a.tmps) = true <;> by_cases hwj : Region.wanted oj (yielded ops a.tmps) = true <;> simp only [hwi, hwj, if_true, if_false, Bool.false_eq_true] at h ⊢
  · cases hLi : L i with
    | none =>
      cases hLj : L j with
      | none =>
        simp only [hLi, hLj] at h ⊢
        obtain ⟨v, hv, u, hu, hk⟩ := h
        exact ⟨u, hu, v, hv, hk⟩
      | some t =>
        cases t with
        | some t =>
          simp only [hLi, hLj] at h ⊢
          obtain ⟨hv, u, hu, hk⟩ := h
          exact ⟨u, hu, hv, hk⟩
        | none =>
          simp only [hLi, hLj] at h ⊢
          obtain ⟨v0, w0, hC0, u0, hu0, _⟩ := GivesR.some h
          refine ⟨u0, hu0, GivesR.mono (fun v w' ⟨hC', u, hu, hk⟩ => ⟨hC', ?_⟩) h⟩
          have : u = u0 := by
            have := (hu w hC).symm.trans (hu0 w hC)
            simpa using this
          exact this ▸ hk
    | some s =>
      cases s with
      | some s =>
        cases hLj : L j with
        | none =>
          simp only [hLi, hLj] at h ⊢
          obtain ⟨v, hv, hu, hk⟩ := h
          exact ⟨hu, v, hv, hk⟩
        | some t =>
          cases t with
          | some t =>
            simp only [hLi, hLj] at h ⊢
            exact ⟨h.2.1, h.1, h.2.2⟩
          | none =>
            simp only [hLi, hLj] at h ⊢
            obtain ⟨v0, w0, hC0, hu0, _⟩ := GivesR.some h
            exact ⟨hu0, GivesR.mono (fun v w' ⟨hC', _, hk⟩ => ⟨hC', hk⟩) h⟩
      | none =>
        cases hLj : L j with
        | none =>
          simp only [hLi, hLj] at h ⊢
          obtain ⟨u, hu, hk⟩ := h
          exact GivesR.mono (fun v w' ⟨hC', hk⟩ => ⟨hC', u, hu, hk⟩) hk
        | some t =>
          cases t with
          | some t =>
            simp only [hLi, hLj] at h ⊢
            exact GivesR.mono (fun v w' ⟨hC', hk⟩ => ⟨hC', h.1, hk⟩) h.2
          | none =>
            rw [hLi, hLj] at hl
            simp [loudAt] at hl
  · exact h
  · exact h
  · exact h

theorem ch_bubble {i : Nat} {oi : Oper} (hi : ops[i]? = some oi) (hsel : ∀ (j : Nat) (o : Oper) cs b, ops[j]? = some o → o.op ≠ .select cs b) (l2 : List Nat) :
    ∀ (l1 : List Nat), (∀ j ∈ l1, j ≠ i ∧ (loudAt (L i) = false ∨ loudAt (L j) = false) ∧ ∀ oj, ops[j]? = some oj → oi.apart ops oj = true) →
    ∀ (a : Act) (w : World), C w → ch P ops C L Q (l1 ++ i :: l2) a w → ch P ops C L Q (i :: (l1 ++ l2)) a w
  | [], _, _, _, _, h => h
  | j :: l1, hl, a, w, hC, h => by
    have ih := ch_bubble hi hsel l2 l1 (fun k hk => hl k (List.mem_cons_of_mem _ hk))
    obtain ⟨hne, hlo, hap⟩ := hl j List.mem_cons_self
    cases hj : ops[j]? with
    | none =>
      have h' : ch P ops C L Q (l1 ++ i :: l2) a w := by
        have : ch P ops C L Q (j :: (l1 ++ i :: l2)) a w := h
        simpa only [ch, hj] using this
      have h2 := ih a w hC h'
      rw [ch_cons hi] at h2 ⊢
      refine chOp_mono hC (fun a w _ hh => ?_) h2
      show ch P ops C L Q (j :: (l1 ++ l2)) a w
      simpa only [ch, hj] using hh
    | some oj =>
      rw [List.cons_append, ch_cons hj] at h
      have h2 : chOp P ops C L j oj a w fun a w => chOp P ops C L i oi a w (ch P ops C L Q (l1 ++ l2)) := chOp_mono hC (fun a w hC' hh => by
        have h3 := ih a w hC' hh
        rw [ch_cons hi] at h3
        exact h3) h
      have h3 := chOp_swap (hap oj hj) (fun cs b => hsel i oi cs b hi) (fun cs b => hsel j oj cs b hj) hlo hC h2
      rw [ch_cons hi]
      refine chOp_mono hC (fun a w _ hh => ?_) h3
      rw [List.cons_append, ch_cons hj]
      exact hh

theorem wpAny_of_ch_tail {Q' : Exit → Act → World → Prop} (m : Nat) (hm : m ≤ ops.size) (hT : tailB ops pre m = true) (hQ : ∀ a w, Q a w → wpList P ops Q' (ops.toList.drop m) a w) (hB : dagB ops pre = true) (hLB : loudB ops pre L = true) :
    ∀ (fuel : Nat) (l : List Nat) (listed : Array Bool) (a : Act) (w : World), l.length = fuel → listed.size = ops.size → l.Pairwise (· < ·) →
      (∀ i, i < m → (i ∈ l ↔ listed.getD i true = false)) → (∀ i, i ∈ l → i < m) → (∀ i, m ≤ i → i < ops.size → listed.getD i true = false) → (∀ i, i < m → i ∉ l → ∀ k, (pre.getD i 0).testBit k = true → k < ops.size → k ∉ l) →
      C w → ch P ops C L Q l a w → wpAny P .any ops Q' (fuel + (ops.size - m)) listed a w := by
  unfold dagB at hB
  rw [Bool.and_eq_true] at hB
  obtain ⟨hns, hall⟩ := hB
  rw [List.all_eq_true] at hall
  have hsel := Region.noSelect_spec hns
  have hall' : ∀ i o, ops[i]? = some o → (∀ k, k < ops.size → (pre.getD i 0).testBit k = true → ∃ e ∈ direct o, e = k ∨ (pre.getD e 0).testBit k = true) ∧
      (∀ j oj, ops[j]? = some oj → i = j ∨ (pre.getD i 0).testBit j = true ∨ (pre.getD j 0).testBit i = true ∨ o.apart ops oj = true) ∧
      (∀ k ∈ direct o, (pre.getD i 0).testBit k = true ∧ k < ops.size) ∧ (∀ j, j < ops.size → (pre.getD i 0).testBit j = true → j < i) := by
    intro i o ho
    have hi : i < ops.size := (Array.getElem?_eq_some_iff.1 ho).1
    have h := hall i (List.mem_range.2 hi)
    simp only [ho, Bool.and_eq_true, List.all_eq_true, List.mem_range, Bool.or_eq_true, Bool.not_eq_true', List.any_eq_true, beq_iff_eq, decide_eq_true_eq] at h
    obtain ⟨⟨⟨h1, h2⟩, h3⟩, h4⟩ := h
    refine ⟨fun k hk hb => ?_, fun j oj hoj => ?_, h3, fun j hj hb => ?_⟩
    · rcases h1 k hk with h | ⟨e, he, h⟩
      · rw [h] at hb; cases hb
      · exact ⟨e, he, h⟩
    · have := h2 j (Array.getElem?_eq_some_iff.1 hoj).1
      simp only [hoj, Bool.or_eq_true, beq_iff_eq] at this
      rcases this with ((h | h) | h) | h
      · exact .inl h
      · exact .inr (.inl h)
      · exact .inr (.inr (.inl h))
      · exact .inr (.inr (.inr h))
    · rcases h4 j hj with h | h
      · rw [h] at hb; cases hb
      · exact h
  have hdir : ∀ (i : Nat) (o : Oper), ops[i]? = some o → ∀ k ∈ direct o, k < i ∧ k < ops.size := by
    intro i o ho k hk
    obtain ⟨_, _, h3, h4⟩ := hall' i o ho
    obtain ⟨hb, hks⟩ := h3 k hk
    exact ⟨h4 k hks hb, hks⟩
  have htail : ∀ i, m ≤ i → i < ops.size → ∀ j, j < i → (pre.getD i 0).testBit j = true := by
    intro i hi hi2 j hj
    unfold tailB at hT
    rw [List.all_eq_true] at hT
    have h := hT i (List.mem_range.2 hi2)
    rw [Bool.or_eq_true, decide_eq_true_eq, List.all_eq_true] at h
    rcases h with h | h
    · omega
    · exact h j (List.mem_range.2 hj)
  have hloud : ∀ i j, i < ops.size → j < ops.size → i ≠ j → (pre.getD i 0).testBit j = false → (pre.getD j 0).testBit i = false → loudAt (L i) = false ∨ loudAt (L j) = false := by
    intro i j hi hj hne h1 h2
    unfold loudB at hLB
    rw [List.all_eq_true] at hLB
    have h := hLB i (List.mem_range.2 hi)
    rw [List.all_eq_true] at h
    have h := h j (List.mem_range.2 hj)
    simp only [Bool.or_eq_true, beq_iff_eq, Bool.not_eq_true'] at h
    rcases h with (((h | h) | h) | h) | h
    · exact absurd h hne
    · exact .inl h
    · exact .inr h
    · rw [h] at h1; cases h1
    · rw [h] at h2; cases h2
  -- the tail, one behind the other
  have tailrun : ∀ (n k : Nat), k + n = ops.size → m ≤ k → ∀ (listed : Array Bool) (a : Act) (w : World), listed.size = ops.size → (∀ i, i < ops.size → (listed.getD i true = false ↔ k ≤ i)) →
      wpList P ops Q' (ops.toList.drop k) a w → wpAny P .any ops Q' n listed a w := by
    intro n
    induction n with
    | zero =>
      intro k hk hmk listed a w hsz hl h
      refine ⟨?_, ?_⟩
      · rw [List.eq_nil_iff_forall_not_mem]
        intro i hi
        obtain ⟨h1, o, ho, _⟩ := mem_ready.1 hi
        have hi3 := (Array.getElem?_eq_some_iff.1 ho).1
        have := (hl i hi3).1 h1
        omega
      · rw [List.drop_of_length_le (by simp; omega)] at h
        exact h
    | succ n ih =>
      intro k hk hmk listed a w hsz hl h
      have hks : k < ops.size := by omega
      have hok : ops[k]? = some ops[k] := Array.getElem?_eq_getElem hks
      rw [List.drop_eq_getElem_cons (by simpa using hks)] at h
      have hkr : k ∈ Region.ready .any ops listed := mem_ready.2 ⟨(hl k hks).2 (Nat.le_refl _), ops[k], hok, fun e he hb => by
        have hd : e.on ∈ direct ops[k] := List.mem_map.2 ⟨e, List.mem_filter.2 ⟨by simpa using he, hb⟩, rfl⟩
        obtain ⟨hlt, hlt2⟩ := hdir k _ hok _ hd
        have hx : ¬ listed.getD e.on true = false := fun hh => by have := (hl e.on hlt2).1 hh; omega
        have hlt3 : e.on < listed.size := by omega
        rw [Array.getD_eq_getD_getElem?, Array.getElem?_eq_getElem hlt3] at hx ⊢
        simpa using hx⟩
      refine ⟨fun hnone => ?_, fun i hi => ?_⟩
      · rw [hnone] at hkr; cases hkr
      · obtain ⟨hun, o, ho, hafter⟩ := mem_ready.1 hi
        have his := (Array.getElem?_eq_some_iff.1 ho).1
        have hki := (hl i his).1 hun
        have hik : i = k := by
          rcases Nat.lt_or_ge k i with hlt | hge
          · exfalso
            obtain ⟨p1, _, _, _⟩ := hall' i o ho
            obtain ⟨e, he, hor⟩ := p1 k hks (htail i (by omega) his k hlt)
            obtain ⟨ed, hed, rfl⟩ := List.mem_map.1 he
            obtain ⟨hed1, hed2⟩ := List.mem_filter.1 hed
            have h1 := hafter ed (by simpa using hed1) hed2
            have hes := (hdir i o ho _ he).2
            have hek : ed.on < k := by
              rcases Nat.lt_or_ge ed.on k with h' | h'
              · exact h'
              · exfalso
                have h2 := (hl ed.on hes).2 h'
                rw [Array.getD_eq_getD_getElem?, Array.getElem?_eq_getElem (by omega)] at h1 h2
                simp only [Option.getD_some] at h1 h2
                rw [h1] at h2; cases h2
            rcases hor with h' | h'
            · omega
            · have := (hall' ed.on _ (Array.getElem?_eq_getElem hes)).2.2.2 k hks h'
              omega
          · omega
        subst hik
        have next : ∀ a w, wpList P ops Q' (ops.toList.drop (i + 1)) a w → wpAny P .any ops Q' n (listed.setIfInBounds i true) a w := fun a w h => ih (i + 1) (by omega) (by omega) _ a w (by simpa using hsz) (fun j hj => by
          by_cases hji : j = i
          · subst hji
            rw [Array.getD_eq_getD_getElem?, Array.getElem?_setIfInBounds_self_of_lt (by omega)]
            simp
          · rw [getD_set_ne true (Ne.symm hji), hl j hj]
            omega) h
        unfold wpOp
        simp only [hok]
        unfold wpList at h
        have hg : ops.toList[i]'(by simpa using hks) = ops[i] := by simp
        rw [hg] at h
        split
        · rename_i hw
          rw [if_pos hw] at h
          exact h.imp (Oper.wp_mono next) id
        · rename_i hw
          rw [if_neg hw] at h
          exact next _ _ h
  intro fuel
  induction fuel with
  | zero =>
    intro l listed a w hlen hsz hsort hmem hlt hlast hclosed hC h
    have hl : l = [] := List.eq_nil_of_length_eq_zero hlen
    subst hl
    rw [Nat.zero_add]
    refine tailrun _ m (by omega) (Nat.le_refl _) listed a w hsz (fun i hi => ⟨fun h1 => ?_, fun h1 => hlast i h1 hi⟩) (hQ _ _ h)
    rcases Nat.lt_or_ge i m with h2 | h2
    · have := (hmem i h2).2 h1
      cases this
    · exact h2
  | succ fuel ih =>
    intro l listed a w hlen hsz hsort hmem hltm hlast hclosed hC h
    rw [Nat.succ_add]
    have hin : ∀ i, i ∈ l → i < ops.size := fun i hi => by have := hltm i hi; omega
    have hun' : ∀ i, i ∈ l → listed.getD i true = false := fun i hi => (hmem i (hltm i hi)).1 hi
    refine ⟨fun hnone => ?_, fun i hi => ?_⟩
    · exfalso
      cases l with
      | nil => cases hlen
      | cons i0 l =>
        have hi0 := hin i0 List.mem_cons_self
        have ho : ops[i0]? = some ops[i0] := Array.getElem?_eq_getElem hi0
        have : i0 ∈ Region.ready .any ops listed := mem_ready.2 ⟨hun' i0 List.mem_cons_self, ops[i0], ho, fun e he hb => by
          have hd : e.on ∈ direct ops[i0] := List.mem_map.2 ⟨e, List.mem_filter.2 ⟨by simpa using he, hb⟩, rfl⟩
          obtain ⟨hlt, hlt2⟩ := hdir i0 _ ho _ hd
          have hnl : e.on ∉ i0 :: l := fun hm => by
            rcases List.mem_cons.1 hm with h | h
            · omega
            · have := (List.pairwise_cons.1 hsort).1 _ h
              omega
          have hx : ¬ listed.getD e.on true = false := fun hh => hnl ((hmem _ (by have := hltm i0 List.mem_cons_self; omega)).2 hh)
          have hlt3 : e.on < listed.size := by omega
          rw [Array.getD_eq_getD_getElem?, Array.getElem?_eq_getElem hlt3] at hx ⊢
          simpa using hx⟩
        rw [hnone] at this
        cases this
    · obtain ⟨hun, o, ho, hafter⟩ := mem_ready.1 hi
      have his := (Array.getElem?_eq_some_iff.1 ho).1
      have him : i < m := by
        rcases Nat.lt_or_ge i m with h' | h'
        · exact h'
        · exfalso
          cases l with
          | nil => cases hlen
          | cons i0 l =>
            have hi0 := hin i0 List.mem_cons_self
            have hi0m := hltm i0 List.mem_cons_self
            obtain ⟨p1, _, _, _⟩ := hall' i o ho
            obtain ⟨e, he, hor⟩ := p1 i0 hi0 (htail i h' his i0 (by omega))
            obtain ⟨ed, hed, rfl⟩ := List.mem_map.1 he
            obtain ⟨hed1, hed2⟩ := List.mem_filter.1 hed
            have h1 := hafter ed (by simpa using hed1) hed2
            have hes := (hdir i o ho _ he).2
            have hno : ¬ listed.getD ed.on true = false := fun h2 => by
              rw [Array.getD_eq_getD_getElem?, Array.getElem?_eq_getElem (by omega)] at h1 h2
              simp only [Option.getD_some] at h1 h2
              rw [h1] at h2; cases h2
            have hedm : ed.on < m := by
              rcases Nat.lt_or_ge ed.on m with h2 | h2
              · exact h2
              · exact absurd (hlast _ h2 hes) hno
            have hnl : ed.on ∉ i0 :: l := fun hm => hno (hun' _ hm)
            rcases hor with h2 | h2
            · exact hnl (by rw [h2]; exact List.mem_cons_self)
            · exact hclosed _ hedm hnl i0 h2 hi0 List.mem_cons_self
      have hil : i ∈ l := (hmem i him).2 hun
      have hisz := hin i hil
      obtain ⟨l1, l2, rfl⟩ := List.append_of_mem hil
      obtain ⟨p1, p2, p3, p4⟩ := hall' i o ho
      have hpre : ∀ k, k < ops.size → (pre.getD i 0).testBit k = true → k ∉ l1 ++ i :: l2 := by
        intro k hk hb
        obtain ⟨e, he, hor⟩ := p1 k hk hb
        obtain ⟨ed, hed, rfl⟩ := List.mem_map.1 he
        obtain ⟨hed1, hed2⟩ := List.mem_filter.1 hed
        have h1 := hafter ed (by simpa using hed1) hed2
        have hen : ed.on ∉ l1 ++ i :: l2 := fun hm => by
          have h2 := hun' _ hm
          have h3 := hin _ hm
          rw [Array.getD_eq_getD_getElem?, Array.getElem?_eq_getElem (by omega)] at h1 h2
          simp only [Option.getD_some] at h1 h2
          rw [h1] at h2; cases h2
        rcases hor with rfl | hor
        · exact hen
        · exact hclosed _ (by have := (hdir i o ho _ he).1; omega) hen k hor hk
      have hb := ch_bubble (P := P) (C := C) (L := L) (Q := Q) ho hsel l2 l1 (fun j hj => by
        have hjm : j ∈ l1 ++ i :: l2 := List.mem_append_left _ hj
        have hjs := hin j hjm
        have hji : j < i := (List.pairwise_append.1 hsort).2.2 j hj i List.mem_cons_self
        have hij : (pre.getD i 0).testBit j = false := by
          cases hx : (pre.getD i 0).testBit j with
          | false => rfl
          | true => exact absurd hjm (hpre j hjs hx)
        have hji2 : (pre.getD j 0).testBit i = false := by
          cases hx : (pre.getD j 0).testBit i with
          | false => rfl
          | true =>
            have := (hall' j ops[j] (Array.getElem?_eq_getElem hjs)).2.2.2 i hisz hx
            omega
        refine ⟨by omega, hloud i j hisz hjs (by omega) hij hji2, fun oj hoj => ?_⟩
        rcases p2 j oj hoj with h | h | h | h
        · omega
        · rw [hij] at h; cases h
        · rw [hji2] at h; cases h
        · exact h) a w hC h
      rw [ch_cons ho] at hb
      have hsub : (l1 ++ l2).Sublist (l1 ++ i :: l2) := List.Sublist.append (List.Sublist.refl _) (List.sublist_cons_self _ _)
      have hnod : i ∉ l1 ++ l2 := fun hm => by
        have h1 := List.pairwise_append.1 hsort
        rcases List.mem_append.1 hm with h | h
        · have := h1.2.2 i h i List.mem_cons_self; omega
        · have := (List.pairwise_cons.1 h1.2.1).1 i h; omega
      have next : ∀ (a : Act) (w : World), C w → ch P ops C L Q (l1 ++ l2) a w →
          wpAny P .any ops Q' (fuel + (ops.size - m)) (listed.setIfInBounds i true) a w := by
        intro a w hC h
        refine ih (l1 ++ l2) _ a w (by simp at hlen ⊢; omega) (by simpa using hsz) (hsort.sublist hsub) (fun j hjm => ?_) (fun j hj => hltm j (hsub.subset hj)) (fun j hj hj2 => ?_) (fun j hj hjn k hbt hk hkm => ?_) hC h
        · by_cases hji : j = i
          · subst hji
            rw [Array.getD_eq_getD_getElem?, Array.getElem?_setIfInBounds_self_of_lt (by omega)]
            simpa using hnod
          · rw [getD_set_ne true (Ne.symm hji), ← hmem j hjm]
            simp [hji]
        · rw [getD_set_ne true (by omega)]
          exact hlast j hj hj2
        · by_cases hji : j = i
          · subst hji
            exact hpre k hk hbt (hsub.subset hkm)
          · exact hclosed j hj (fun hm => hjn (by simpa [hji] using hm)) k hbt hk (hsub.subset hkm)
      unfold wpOp
      simp only [ho]
      unfold chOp at hb
      split
      · rename_i hw
        rw [if_pos hw] at hb
        refine .inl ?_
        cases hL : L i with
        | none =>
          simp only [hL] at hb
          obtain ⟨v, hv, hk⟩ := hb
          unfold Oper.wp
          rw [hv w hC]
          exact next _ _ hC hk
        | some t =>
          cases t with
          | some u =>
            simp only [hL] at hb
            exact Gives.wp (hb.1 w hC) fun v w' ⟨hv, hw⟩ => by subst hv hw; exact next _ _ hC hb.2
          | none =>
            simp only [hL] at hb
            exact Gives.wp hb fun v w' ⟨hC', hk⟩ => next _ _ hC' hk
      · rename_i hw
        rw [if_neg hw] at hb
        exact next _ _ hC hb
end

/-! ### For use -/
/-- the walk over the operations themselves; L: which of them do something; Q: behind them -/
def chT (P : Program) (ops : Array Oper) (C : World → Prop) (Q : Act → World → Prop) : List (Option (Option Value)) → List Oper → Act → World → Prop
  | _, [], a, w => Q a w
  | [], _ :: _, _, _ => False
  | t :: L, o :: l, a, w =>
    if Region.wanted o (yielded ops a.tmps) = true then
      match t with
      | none => ∃ v, (∀ w', C w' → (execOp a.eval o).run P w' = .ok (.value v) w') ∧ chT P ops C Q L l (a.put o.dst v) w
      | some (some u) => (∀ w', C w' → Gives P o a w' (fun x w'' => x = u ∧ w'' = w')) ∧ chT P ops C Q L l (a.put o.dst u) w
      | some none => Gives P o a w (fun v w' => C w' ∧ chT P ops C Q L l (a.put o.dst v) w')
    else chT P ops C Q L l (a.put o.dst undef) w
section
variable {P : Program} {ops : Array Oper} {C : World → Prop} {Q : Act → World → Prop}
theorem ch_of_chT (L : List (Option (Option Value))) : ∀ (l : List Oper) (L' : List (Option (Option Value))) (i : Nat) (a : Act) (w : World), C w → (∀ j, j < l.length → l[j]? = ops[i + j]?) → (∀ j, L'[j]? = L[i + j]?) →
    chT P ops C Q L' l a w → ch P ops C (fun i => (L[i]?).join) Q (List.range' i l.length) a w
  | [], L', _, _, _, _, _, _, h => by cases L' <;> (unfold chT at h; simpa [ch] using h)
  | o :: l, [], _, _, _, _, _, _, h => by unfold chT at h; exact h.elim
  | o :: l, t :: L', i, a, w, hC, hl, hL, h => by
    have h0 : ops[i]? = some o := by simpa using (hl 0 (by simp)).symm
    have hL0 : L[i]? = some t := by simpa using (hL 0).symm
    have ih := fun a w hC => ch_of_chT L l L' (i + 1) a w hC (fun j hj => by have := hl (j + 1) (by simpa using hj); simpa [Nat.add_assoc, Nat.add_comm 1 j] using this) (fun j => by have := hL (j + 1); simpa [Nat.add_assoc, Nat.add_comm 1 j] using this)
    rw [List.length_cons, List.range'_succ, ch_cons h0]
    have hLg : (L[i]?).join = t := by rw [hL0]; rfl
    unfold chOp
    unfold chT at h
    split
    · rename_i hw
      rw [if_pos hw] at h
      simp only [hLg]
      cases t with
      | none =>
        obtain ⟨v, h1, h2⟩ := h
        exact ⟨v, h1, ih _ _ hC h2⟩
      | some t =>
        cases t with
        | none => exact GivesR.mono (fun v w' ⟨h1, h2⟩ => ⟨h1, ih _ _ h1 h2⟩) h
        | some u => exact ⟨h.1, ih _ _ hC h.2⟩
    · rename_i hw
      rw [if_neg hw] at h
      exact ih _ _ hC h
/-- **The region.** L: for the first m operations, does it do something; the last ones wait for all. -/
theorem wp_region_ch {id : Nat} {l : List Oper} {Q' : Exit → Act → World → Prop} {a : Act} {w : World} (m : Nat) (L : List (Option (Option Value))) (C : World → Prop) (hm : P.follows .mixedOrders = true) (hB : dagB l.toArray (Region.before l.toArray) = true)
    (hT : (decide (m ≤ l.length) && tailB l.toArray (Region.before l.toArray) m) = true) (hL : loudB l.toArray (Region.before l.toArray) (fun i => (L[i]?).join) = true)
    (hC : C w.drew) (h : chT P l.toArray C (fun a w => seqW P l.toArray (fun a w => Q' .normal a w) (l.drop m) a w) L (l.take m) a w.drew) : (Code.region id l.toArray true).wp P Q' a w := by
  rw [Bool.and_eq_true, decide_eq_true_eq] at hT
  refine wp_region_any hm ?_
  have hd := ch_of_chT (ops := l.toArray) L (l.take m) L 0 a w.drew hC (by intro j hj; simp at hj ⊢; rw [List.getElem?_take, if_pos (by omega)]) (by simp) h
  have hml : (l.take m).length = m := by simp; omega
  rw [hml] at hd
  have := wpAny_of_ch_tail (Q' := Q') m (by simpa using hT.1) hT.2 (fun a w (h : seqW P l.toArray (fun a w => Q' .normal a w) (l.drop m) a w) => wpList_of_seqW _ a w h) hB hL m (List.range' 0 m) (Array.replicate l.toArray.size false) a w.drew (by simp) (by simp) (List.pairwise_lt_range') (fun i hi => ?_) (fun i hi => by simp [List.mem_range'] at hi; omega) (fun i hi hi2 => ?_) (fun i hi hn => absurd (by simp [List.mem_range']; omega) hn) hC hd
  · rw [Nat.add_sub_cancel' (by simpa using hT.1)] at this
    exact this
  · have h1 := hT.1
    simp [List.mem_range', Array.getElem?_replicate]
    split <;> simp <;> omega
  · have hi3 : i < l.length := by simpa using hi2
    simp [Array.getElem?_replicate, hi3]
end
section
variable {P : Program} {ops : Array Oper} {C : World → Prop} {Q : Act → World → Prop} {L : List (Option (Option Value))} {o : Oper} {l : List Oper} {a : Act} {w : World}
theorem chT_pure (hp : pureOp o.op = true) (h : wpQuiet P ops (fun _ => True) (fun a' => chT P ops C Q L l a' w) [o] a) : chT P ops C Q (none :: L) (o :: l) a w := by
  unfold chT
  unfold wpQuiet at h
  split
  · rename_i hw
    rw [if_pos hw] at h
    obtain ⟨v, h1, h2⟩ := h
    exact ⟨v, fun w _ => quiet_value hp (h1 w trivial), h2⟩
  · rename_i hw
    rw [if_neg hw] at h
    exact h
theorem chT_on {C' : World → Prop} (h : chT P ops C Q L l a w) : wpQuiet P ops C' (fun a' => chT P ops C Q L l a' w) [] a := h
/-- one value in all worlds of the class -/
theorem chT_same {v : Value} (hw : Region.wanted o (yielded ops a.tmps) = true) (h1 : ∀ w, C w → (execOp a.eval o).run P w = .ok (.value v) w) (h2 : chT P ops C Q L l (a.put o.dst v) w) : chT P ops C Q (none :: L) (o :: l) a w := by
  unfold chT
  rw [if_pos hw]
  exact ⟨v, h1, h2⟩
theorem chT_gives (hw : Region.wanted o (yielded ops a.tmps) = true) (h : Gives P o a w (fun v w' => C w' ∧ chT P ops C Q L l (a.put o.dst v) w')) : chT P ops C Q (some none :: L) (o :: l) a w := by
  unfold chT
  rw [if_pos hw]
  exact h
/-- a call (or a load) that gives one value and leaves the world, in the whole class -/
theorem chT_still {u : Value} (hw : Region.wanted o (yielded ops a.tmps) = true) (h1 : ∀ w, C w → Gives P o a w (fun x w' => x = u ∧ w' = w)) (h2 : chT P ops C Q L l (a.put o.dst u) w) : chT P ops C Q (some (some u) :: L) (o :: l) a w := by
  unfold chT
  rw [if_pos hw]
  exact ⟨h1, h2⟩
theorem chT_skip {t : Option (Option Value)} (hw : Region.wanted o (yielded ops a.tmps) = false) (h : chT P ops C Q L l (a.put o.dst undef) w) : chT P ops C Q (t :: L) (o :: l) a w := by
  unfold chT
  rw [if_neg (by rw [hw]; exact Bool.false_ne_true)]
  exact h
theorem chT_done {L : List (Option (Option Value))} (h : Q a w) : chT P ops C Q L [] a w := by
  cases L <;> exact h
end
attribute [irreducible] chT
end Go.Proofs.Ythknhonpcmneaaa
