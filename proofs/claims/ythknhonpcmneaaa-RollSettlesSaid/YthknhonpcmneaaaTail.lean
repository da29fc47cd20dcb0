/- A drawn region whose last operations wait for all that stand ahead: these run one behind the other, in the text's order (a store into memory made in the region). -/
import Derived.Test.YthknhonpcmneaaaDag
namespace Go.Proofs.Ythknhonpcmneaaa
open Go

/-- from m on each operation waits for all ahead -/
def tailB (ops : Array Oper) (pre : Array Nat) (m : Nat) : Bool := (List.range ops.size).all fun i => decide (i < m) || (List.range i).all fun j => (pre.getD i 0).testBit j

section
variable {P : Program} {ops : Array Oper} {pre : Array Nat} {C : World → Prop} {R : World → World → Prop} {L : Nat → Option (Tells R)} {Q : Act → World → Prop}
theorem wpAny_of_dag_tail {Q' : Exit → Act → World → Prop} (m : Nat) (hm : m ≤ ops.size) (hT : tailB ops pre m = true) (hQ : ∀ a w, Q a w → wpList P ops Q' (ops.toList.drop m) a w) (hB : dagB ops pre = true) :
    ∀ (fuel : Nat) (l : List Nat) (listed : Array Bool) (F : Nat → World → Prop) (a : Act) (w : World), l.length = fuel → listed.size = ops.size → l.Pairwise (· < ·) →
      (∀ i, i < m → (i ∈ l ↔ listed.getD i true = false)) → (∀ i, i ∈ l → i < m) → (∀ i, m ≤ i → i < ops.size → listed.getD i true = false) → (∀ i, i < m → i ∉ l → ∀ k, (pre.getD i 0).testBit k = true → k < ops.size → k ∉ l) →
      C w → (∀ k, F k w) → (∀ w w', R w w' → ∀ k, F k w → F k w') → dag P ops pre C R L Q l F a → wpAny P .any ops Q' (fuel + (ops.size - m)) listed a w := by
  unfold dagB at hB
  rw [Bool.and_eq_true] at hB
  obtain ⟨hns, hall⟩ := hB
  rw [List.all_eq_true] at hall
  have hsel := Region.noSelect_spec hns
  have hall' : ∀ i o, ops[i]? = some o → (∀ k, k < ops.size → (pre.getD i 0).testBit k = true → ∃ e ∈ direct o, e = k ∨ (pre.getD e 0).testBit k = true) ∧
      (∀ j oj, ops[j]? = some oj → i = j ∨ (pre.getD i 0).testBit j = true ∨ (pre.getD j 0).testBit i = true ∨ o.apart ops oj = true) ∧
      (∀ k ∈ direct o, (pre.getD i 0).testBit k = true ∧ k < ops.size) ∧ (∀ j, j < ops.size → (pre.getD i 0).testBit j = true → j < i) := by
    intro i o ho
    have hi : i < ops.size := (Array.getElem?_eq_some_iff.1 ho).1
    have h := hall i (List.mem_range.2 hi)
    simp only [ho, Bool.and_eq_true, List.all_eq_true, List.mem_range, Bool.or_eq_true, Bool.not_eq_true', List.any_eq_true, beq_iff_eq, decide_eq_true_eq] at h
    obtain ⟨⟨⟨h1, h2⟩, h3⟩, h4⟩ := h
    refine ⟨fun k hk hb => ?_, fun j oj hoj => ?_, h3, fun j hj hb => ?_⟩
    · rcases h1 k hk with h | ⟨e, he, h⟩
      · rw [h] at hb; cases hb
      · exact ⟨e, he, h⟩
    · have := h2 j (Array.getElem?_eq_some_iff.1 hoj).1
      simp only [hoj, Bool.or_eq_true, beq_iff_eq] at this
      rcases this with ((h | h) | h) | h
      · exact .inl h
      · exact .inr (.inl h)
      · exact .inr (.inr (.inl h))
      · exact .inr (.inr (.inr h))
    · rcases h4 j hj with h | h
      · rw [h] at hb; cases hb
      · exact h
  have hdir : ∀ (i : Nat) (o : Oper), ops[i]? = some o → ∀ k ∈ direct o, k < i ∧ k < ops.size := by
    intro i o ho k hk
    obtain ⟨_, _, h3, h4⟩ := hall' i o ho
    obtain ⟨hb, hks⟩ := h3 k hk
    exact ⟨h4 k hks hb, hks⟩
  have htail : ∀ i, m ≤ i → i < ops.size → ∀ j, j < i → (pre.getD i 0).testBit j = true := by
    intro i hi hi2 j hj
    unfold tailB at hT
    rw [List.all_eq_true] at hT
    have h := hT i (List.mem_range.2 hi2)
    rw [Bool.or_eq_true, decide_eq_true_eq, List.all_eq_true] at h
    rcases h with h | h
    · omega
    · exact h j (List.mem_range.2 hj)
  -- the tail, one behind the other
  have tailrun : ∀ (n k : Nat), k + n = ops.size → m ≤ k → ∀ (listed : Array Bool) (a : Act) (w : World), listed.size = ops.size → (∀ i, i < ops.size → (listed.getD i true = false ↔ k ≤ i)) →
      wpList P ops Q' (ops.toList.drop k) a w → wpAny P .any ops Q' n listed a w := by
    intro n
    induction n with
    | zero =>
      intro k hk hmk listed a w hsz hl h
      refine ⟨?_, ?_⟩
      · rw [List.eq_nil_iff_forall_not_mem]
        intro i hi
        obtain ⟨h1, o, ho, _⟩ := mem_ready.1 hi
        have hi3 := (Array.getElem?_eq_some_iff.1 ho).1
        have := (hl i hi3).1 h1
        omega
      · rw [List.drop_of_length_le (by simp; omega)] at h
        exact h
    | succ n ih =>
      intro k hk hmk listed a w hsz hl h
      have hks : k < ops.size := by omega
      have hok : ops[k]? = some ops[k] := Array.getElem?_eq_getElem hks
      rw [List.drop_eq_getElem_cons (by simpa using hks)] at h
      have hkr : k ∈ Region.ready .any ops listed := mem_ready.2 ⟨(hl k hks).2 (Nat.le_refl _), ops[k], hok, fun e he hb => by
        have hd : e.on ∈ direct ops[k] := List.mem_map.2 ⟨e, List.mem_filter.2 ⟨by simpa using he, hb⟩, rfl⟩
        obtain ⟨hlt, hlt2⟩ := hdir k _ hok _ hd
        have hx : ¬ listed.getD e.on true = false := fun hh => by have := (hl e.on hlt2).1 hh; omega
        have hlt3 : e.on < listed.size := by omega
        rw [Array.getD_eq_getD_getElem?, Array.getElem?_eq_getElem hlt3] at hx ⊢
        simpa using hx⟩
      refine ⟨fun hnone => ?_, fun i hi => ?_⟩
      · rw [hnone] at hkr; cases hkr
      · obtain ⟨hun, o, ho, hafter⟩ := mem_ready.1 hi
        have his := (Array.getElem?_eq_some_iff.1 ho).1
        have hki := (hl i his).1 hun
        have hik : i = k := by
          rcases Nat.lt_or_ge k i with hlt | hge
          · exfalso
            obtain ⟨p1, _, _, _⟩ := hall' i o ho
            obtain ⟨e, he, hor⟩ := p1 k hks (htail i (by omega) his k hlt)
            obtain ⟨ed, hed, rfl⟩ := List.mem_map.1 he
            obtain ⟨hed1, hed2⟩ := List.mem_filter.1 hed
            have h1 := hafter ed (by simpa using hed1) hed2
            have hes := (hdir i o ho _ he).2
            have hek : ed.on < k := by
              rcases Nat.lt_or_ge ed.on k with h' | h'
              · exact h'
              · exfalso
                have h2 := (hl ed.on hes).2 h'
                rw [Array.getD_eq_getD_getElem?, Array.getElem?_eq_getElem (by omega)] at h1 h2
                simp only [Option.getD_some] at h1 h2
                rw [h1] at h2; cases h2
            rcases hor with h' | h'
            · omega
            · have := (hall' ed.on _ (Array.getElem?_eq_getElem hes)).2.2.2 k hks h'
              omega
          · omega
        subst hik
        have next : ∀ a w, wpList P ops Q' (ops.toList.drop (i + 1)) a w → wpAny P .any ops Q' n (listed.setIfInBounds i true) a w := fun a w h => ih (i + 1) (by omega) (by omega) _ a w (by simpa using hsz) (fun j hj => by
          by_cases hji : j = i
          · subst hji
            rw [Array.getD_eq_getD_getElem?, Array.getElem?_setIfInBounds_self_of_lt (by omega)]
            simp
          · rw [getD_set_ne true (Ne.symm hji), hl j hj]
            omega) h
        unfold wpOp
        simp only [hok]
        unfold wpList at h
        have hg : ops.toList[i]'(by simpa using hks) = ops[i] := by simp
        rw [hg] at h
        split
        · rename_i hw
          rw [if_pos hw] at h
          exact h.imp (Oper.wp_mono next) id
        · rename_i hw
          rw [if_neg hw] at h
          exact next _ _ h
  intro fuel
  induction fuel with
  | zero =>
    intro l listed F a w hlen hsz hsort hmem hlt hlast hclosed hC hF hst h
    have hl : l = [] := List.eq_nil_of_length_eq_zero hlen
    subst hl
    rw [Nat.zero_add]
    refine tailrun _ m (by omega) (Nat.le_refl _) listed a w hsz (fun i hi => ⟨fun h1 => ?_, fun h1 => hlast i h1 hi⟩) (hQ _ _ (h w hC hF))
    rcases Nat.lt_or_ge i m with h2 | h2
    · have := (hmem i h2).2 h1
      cases this
    · exact h2
  | succ fuel ih =>
    intro l listed F a w hlen hsz hsort hmem hltm hlast hclosed hC hF hst h
    rw [Nat.succ_add]
    have hin : ∀ i, i ∈ l → i < ops.size := fun i hi => by have := hltm i hi; omega
    have hun' : ∀ i, i ∈ l → listed.getD i true = false := fun i hi => (hmem i (hltm i hi)).1 hi
    refine ⟨fun hnone => ?_, fun i hi => ?_⟩
    · exfalso
      cases l with
      | nil => cases hlen
      | cons i0 l =>
        have hi0 := hin i0 List.mem_cons_self
        have ho : ops[i0]? = some ops[i0] := Array.getElem?_eq_getElem hi0
        have : i0 ∈ Region.ready .any ops listed := mem_ready.2 ⟨hun' i0 List.mem_cons_self, ops[i0], ho, fun e he hb => by
          have hd : e.on ∈ direct ops[i0] := List.mem_map.2 ⟨e, List.mem_filter.2 ⟨by simpa using he, hb⟩, rfl⟩
          obtain ⟨hlt, hlt2⟩ := hdir i0 _ ho _ hd
          have hnl : e.on ∉ i0 :: l := fun hm => by
            rcases List.mem_cons.1 hm with h | h
            · omega
            · have := (List.pairwise_cons.1 hsort).1 _ h
              omega
          have hx : ¬ listed.getD e.on true = false := fun hh => hnl ((hmem _ (by have := hltm i0 List.mem_cons_self; omega)).2 hh)
          have hlt3 : e.on < listed.size := by omega
          rw [Array.getD_eq_getD_getElem?, Array.getElem?_eq_getElem hlt3] at hx ⊢
          simpa using hx⟩
        rw [hnone] at this
        cases this
    · obtain ⟨hun, o, ho, hafter⟩ := mem_ready.1 hi
      have his := (Array.getElem?_eq_some_iff.1 ho).1
      have him : i < m := by
        rcases Nat.lt_or_ge i m with h' | h'
        · exact h'
        · exfalso
          cases l with
          | nil => cases hlen
          | cons i0 l =>
            have hi0 := hin i0 List.mem_cons_self
            have hi0m := hltm i0 List.mem_cons_self
            obtain ⟨p1, _, _, _⟩ := hall' i o ho
            obtain ⟨e, he, hor⟩ := p1 i0 hi0 (htail i h' his i0 (by omega))
            obtain ⟨ed, hed, rfl⟩ := List.mem_map.1 he
            obtain ⟨hed1, hed2⟩ := List.mem_filter.1 hed
            have h1 := hafter ed (by simpa using hed1) hed2
            have hes := (hdir i o ho _ he).2
            have hno : ¬ listed.getD ed.on true = false := fun h2 => by
              rw [Array.getD_eq_getD_getElem?, Array.getElem?_eq_getElem (by omega)] at h1 h2
              simp only [Option.getD_some] at h1 h2
              rw [h1] at h2; cases h2
            have hedm : ed.on < m := by
              rcases Nat.lt_or_ge ed.on m with h2 | h2
              · exact h2
              · exact absurd (hlast _ h2 hes) hno
            have hnl : ed.on ∉ i0 :: l := fun hm => hno (hun' _ hm)
            rcases hor with h2 | h2
            · exact hnl (by rw [h2]; exact List.mem_cons_self)
            · exact hclosed _ hedm hnl i0 h2 hi0 List.mem_cons_self
      have hil : i ∈ l := (hmem i him).2 hun
      have hisz := hin i hil
      obtain ⟨l1, l2, rfl⟩ := List.append_of_mem hil
      obtain ⟨p1, p2, p3, p4⟩ := hall' i o ho
      have hpre : ∀ k, k < ops.size → (pre.getD i 0).testBit k = true → k ∉ l1 ++ i :: l2 := by
        intro k hk hb
        obtain ⟨e, he, hor⟩ := p1 k hk hb
        obtain ⟨ed, hed, rfl⟩ := List.mem_map.1 he
        obtain ⟨hed1, hed2⟩ := List.mem_filter.1 hed
        have h1 := hafter ed (by simpa using hed1) hed2
        have hen : ed.on ∉ l1 ++ i :: l2 := fun hm => by
          have h2 := hun' _ hm
          have h3 := hin _ hm
          rw [Array.getD_eq_getD_getElem?, Array.getElem?_eq_getElem (by omega)] at h1 h2
          simp only [Option.getD_some] at h1 h2
          rw [h1] at h2; cases h2
        rcases hor with rfl | hor
        · exact hen
        · exact hclosed _ (by have := (hdir i o ho _ he).1; omega) hen k hor hk
      have hb := dag_bubble (P := P) (C := C) (R := R) (L := L) (Q := Q) (pre := pre) ho hsel l2 l1 (fun j hj => by
        have hjm : j ∈ l1 ++ i :: l2 := List.mem_append_left _ hj
        have hjs := hin j hjm
        have hji : j < i := (List.pairwise_append.1 hsort).2.2 j hj i List.mem_cons_self
        have hij : (pre.getD i 0).testBit j = false := by
          cases hx : (pre.getD i 0).testBit j with
          | false => rfl
          | true => exact absurd hjm (hpre j hjs hx)
        have hji2 : (pre.getD j 0).testBit i = false := by
          cases hx : (pre.getD j 0).testBit i with
          | false => rfl
          | true =>
            have := (hall' j ops[j] (Array.getElem?_eq_getElem hjs)).2.2.2 i hisz hx
            omega
        refine ⟨by omega, hij, hji2, fun oj hoj => ?_⟩
        rcases p2 j oj hoj with h | h | h | h
        · omega
        · rw [hij] at h; cases h
        · rw [hji2] at h; cases h
        · exact h) F a w hC hF hst h
      rw [dag_cons ho] at hb
      have hsub : (l1 ++ l2).Sublist (l1 ++ i :: l2) := List.Sublist.append (List.Sublist.refl _) (List.sublist_cons_self _ _)
      have hnod : i ∉ l1 ++ l2 := fun hm => by
        have h1 := List.pairwise_append.1 hsort
        rcases List.mem_append.1 hm with h | h
        · have := h1.2.2 i h i List.mem_cons_self; omega
        · have := (List.pairwise_cons.1 h1.2.1).1 i h; omega
      have next : ∀ (F : Nat → World → Prop) (a : Act) (w : World), C w → (∀ k, F k w) → (∀ w w', R w w' → ∀ k, F k w → F k w') → dag P ops pre C R L Q (l1 ++ l2) F a →
          wpAny P .any ops Q' (fuel + (ops.size - m)) (listed.setIfInBounds i true) a w := by
        intro F a w hC hF hst h
        refine ih (l1 ++ l2) _ F a w (by simp at hlen ⊢; omega) (by simpa using hsz) (hsort.sublist hsub) (fun j hjm => ?_) (fun j hj => hltm j (hsub.subset hj)) (fun j hj hj2 => ?_) (fun j hj hjn k hbt hk hkm => ?_) hC hF hst h
        · by_cases hji : j = i
          · subst hji
            rw [Array.getD_eq_getD_getElem?, Array.getElem?_setIfInBounds_self_of_lt (by omega)]
            simpa using hnod
          · rw [getD_set_ne true (Ne.symm hji), ← hmem j hjm]
            simp [hji]
        · rw [getD_set_ne true (by omega)]
          exact hlast j hj hj2
        · by_cases hji : j = i
          · subst hji
            exact hpre k hk hbt (hsub.subset hkm)
          · exact hclosed j hj (fun hm => hjn (by simpa [hji] using hm)) k hbt hk (hsub.subset hkm)
      unfold wpOp
      simp only [ho]
      unfold dagOp at hb
      split
      · rename_i hw
        rw [if_pos hw] at hb
        refine .inl ?_
        cases hL : L i with
        | none =>
          simp only [hL] at hb
          obtain ⟨v, hv, hk⟩ := hb
          unfold Oper.wp
          rw [hv w]
          exact next _ _ _ hC hF hst hk
        | some t =>
          simp only [hL] at hb
          refine Gives.wp (hb.1 w hC fun k _ => hF k) fun v w' ⟨hC', hR, hφ⟩ => ?_
          have hF' : ∀ k, F k w' := fun k => hst _ _ hR k (hF k)
          exact next _ _ _ hC' (fun k => ⟨fun _ => hφ, hF' k⟩) (fun w w' hR k hk => ⟨fun e => t.st _ _ _ hR (hk.1 e), hst _ _ hR k hk.2⟩) (hb.2 v ⟨w', hC', hF', hφ⟩)
      · rename_i hw
        rw [if_neg hw] at hb
        exact next _ _ _ hC hF hst hb


end

section
variable {P : Program} {C : World → Prop} {R : World → World → Prop}
theorem dag_of_dagT_part {ops : Array Oper} {pre : Array Nat} {Q : Act → World → Prop} (L : List (Option (Tells R))) : ∀ (l : List Oper) (L' : List (Option (Tells R))) (i : Nat) (F : Nat → World → Prop) (a : Act), (∀ j, j < l.length → l[j]? = ops[i + j]?) → (∀ j, L'[j]? = L[i + j]?) →
    dagT P ops pre C R Q L' i l F a → dag P ops pre C R (fun i => (L[i]?).join) Q (List.range' i l.length) F a
  | [], L', _, _, _, _, _, h => by cases L' <;> (unfold dagT at h; simpa [dag] using h)
  | o :: l, [], _, _, _, _, _, h => by unfold dagT at h; exact h.elim
  | o :: l, t :: L', i, F, a, hl, hL, h => by
    have h0 : ops[i]? = some o := by simpa using (hl 0 (by simp)).symm
    have hL0 : L[i]? = some t := by simpa using (hL 0).symm
    have ih := fun F a => dag_of_dagT_part (ops := ops) (pre := pre) (Q := Q) L l L' (i + 1) F a (fun j hj => by have := hl (j + 1) (by simpa using hj); simpa [Nat.add_assoc, Nat.add_comm 1 j] using this) (fun j => by have := hL (j + 1); simpa [Nat.add_assoc, Nat.add_comm 1 j] using this)
    rw [List.length_cons, List.range'_succ, dag_cons h0]
    unfold dagOp
    unfold dagT at h
    split
    · rename_i hw
      rw [if_pos hw] at h
      simp only [hL0, Option.join_some]
      cases t with
      | none =>
        obtain ⟨v, h1, h2⟩ := h
        exact ⟨v, h1, ih _ _ h2⟩
      | some t => exact ⟨h.1, fun v hv => ih _ _ (h.2 v hv)⟩
    · rename_i hw
      rw [if_neg hw] at h
      exact ih _ _ h

/-- **The region, its last operations apart**: m: how many stand ahead of these; L has m members. -/
theorem wp_region_dag_tail {id : Nat} {l : List Oper} {Q' : Exit → Act → World → Prop} {a : Act} {w : World} (m : Nat) (L : List (Option (Tells R))) (hm : P.follows .mixedOrders = true) (hB : dagB l.toArray (Region.before l.toArray) = true)
    (hT : (decide (m ≤ l.length) && tailB l.toArray (Region.before l.toArray) m) = true)
    (hC : C w.drew) (h : dagT P l.toArray (Region.before l.toArray) C R (fun a w => seqW P l.toArray (fun a w => Q' .normal a w) (l.drop m) a w) L 0 (l.take m) (fun _ _ => True) a) : (Code.region id l.toArray true).wp P Q' a w := by
  rw [Bool.and_eq_true, decide_eq_true_eq] at hT
  refine wp_region_any hm ?_
  have hd := dag_of_dagT_part (ops := l.toArray) L (l.take m) L 0 _ a (by intro j hj; simp at hj ⊢; rw [List.getElem?_take, if_pos (by omega)]) (by simp) h
  have hml : (l.take m).length = m := by simp; omega
  rw [hml] at hd
  have := wpAny_of_dag_tail (Q' := Q') m (by simpa using hT.1) hT.2 (fun a w (h : seqW P l.toArray (fun a w => Q' .normal a w) (l.drop m) a w) => wpList_of_seqW _ a w h) hB m (List.range' 0 m) (Array.replicate l.toArray.size false) (fun _ _ => True) a w.drew (by simp) (by simp) (List.pairwise_lt_range') (fun i hi => ?_) (fun i hi => by simp [List.mem_range'] at hi; omega) (fun i hi hi2 => ?_) (fun i hi hn => absurd (by simp [List.mem_range']; omega) hn) hC (fun _ => trivial) (fun _ _ _ _ h => h) hd
  · rw [Nat.add_sub_cancel' (by simpa using hT.1)] at this
    exact this
  · have h1 := hT.1
    simp [List.mem_range', Array.getElem?_replicate]
    split <;> simp <;> omega
  · have hi3 : i < l.length := by simpa using hi2
    simp [Array.getElem?_replicate, hi3]
end
end Go.Proofs.Ythknhonpcmneaaa
