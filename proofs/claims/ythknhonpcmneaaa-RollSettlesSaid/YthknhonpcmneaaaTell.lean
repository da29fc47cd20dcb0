/- What is told of operations in a region whose order is drawn: values, slices that read as lists, slices of the call's own, blocks. -/
import Derived.Test.YthknhonpcmneaaaOrd
import Derived.Test.YthknhonpcmneaaaMem
namespace Go.Proofs.Ythknhonpcmneaaa
open Go Go.RowKit

/-- v, a slice that is not nil, lies in a block of S -/
def In (S : Nat → Prop) (v : Value) : Prop := ∀ a n c, v = .slice (some a) n c → S a.block

theorem Sl.lasts {w w' : World} {S S' : Nat → Prop} {v : Value} {xs : List Value} (h : Sl w v xs) (hi : xs ≠ [] → In S v) (hb : ∀ b, b < w.heap.size → S b → S' b ∧ w'.heap[b]? = w.heap[b]?) : Sl w' v xs ∧ (xs ≠ [] → In S' v) := by
  obtain ⟨ao, cap, rfl, hm, hcap, hc⟩ := h
  have key : ∀ i (h : i < xs.length), ∃ b off, ao = some ⟨b, off, none⟩ ∧ w.cell? ⟨b, off + i, none⟩ = some xs[i] ∧ S' b ∧ w'.heap[b]? = w.heap[b]? := by
    intro i hl
    obtain ⟨b, off, rfl, hcell⟩ := hc i hl
    have hlt := World.block_lt_of_cell? w _ hcell
    have := hb b hlt (hi (fun e => by rw [e] at hl; simp at hl) _ _ _ rfl)
    exact ⟨b, off, rfl, hcell, this⟩
  refine ⟨⟨ao, cap, rfl, hm, hcap, fun i hl => ?_⟩, fun hne a n c e => ?_⟩
  · obtain ⟨b, off, ha, hcell, _, h2⟩ := key i hl
    exact ⟨b, off, ha, by rw [World.cell?_of_block (w := w) (a := ⟨b, off + i, none⟩) h2]; exact hcell⟩
  · have hl : 0 < xs.length := by
      cases xs with
      | nil => exact absurd rfl hne
      | cons => simp
    obtain ⟨b, off, ha, _, h1, _⟩ := key 0 hl
    simp only [Value.slice.injEq] at e
    rw [ha] at e
    have := e.1
    simp only [Option.some.injEq] at this
    rw [← this]
    exact h1

theorem Own.lasts {w w' : World} {S S' : Nat → Prop} {n : Nat} {e : TypeId} {v : Value} {xs : List Value} (h : Own w n e v xs) (hi : In S v) (hb : ∀ b, b < w.heap.size → S b → S' b ∧ w'.heap[b]? = w.heap[b]?) : Own w' n e v xs ∧ In S' v := by
  rcases h with ⟨h1, ⟨rfl, h0⟩ | ⟨g, cap, cur, rfl, hbg, hg, r⟩⟩
  · exact ⟨⟨h1, .inl ⟨rfl, h0⟩⟩, fun a n c e => by simp at e⟩
  · have := hb g (Array.getElem?_eq_some_iff.1 hg).1 (hi _ _ _ rfl)
    refine ⟨⟨h1, .inr ⟨g, cap, cur, rfl, hbg, this.2.trans hg, r⟩⟩, fun a n c e => ?_⟩
    simp only [Value.slice.injEq, Option.some.injEq] at e
    rw [← e.1]
    exact this.1

/-- the value itself -/
def oV (u : Value) : Tell := ⟨fun v _ _ => v = u, fun _ _ _ _ _ _ _ h => h⟩
/-- some value of a kind, nothing of the world -/
def oP (p : Value → Prop) : Tell := ⟨fun v _ _ => p v, fun _ _ _ _ _ _ _ h => h⟩
/-- a slice that reads -/
def oS (xs : List Value) : Tell := ⟨fun v w S => Sl w v xs ∧ (xs ≠ [] → In S v), fun _ _ _ _ _ _ hb h => h.1.lasts h.2 hb⟩
def oB (l : List UInt8) : Tell := oS (l.map B)
/-- a slice of the call's own, to be appended to -/
def oOwn (n : Nat) (e : TypeId) (xs : List Value) : Tell := ⟨fun v w S => Own w n e v xs ∧ In S v, fun _ _ _ _ _ _ hb h => h.1.lasts h.2 hb⟩
/-- a new block, its address -/
def oAt (n : Nat) (o : Obj) : Tell := ⟨fun v w S => ∃ g, v = .pointer (some ⟨g, 0, none⟩) ∧ n ≤ g ∧ S g ∧ w.heap[g]? = some o, fun v w w' S S' hs hb ⟨g, h1, h2, h3, h4⟩ =>
  have := hb g (Array.getElem?_eq_some_iff.1 h4).1 h3
  ⟨g, h1, h2, this.1, this.2.trans h4⟩⟩
/-- a block of a known number -/
def oIs (g : Nat) (o : Obj) : Tell := ⟨fun _ w S => S g ∧ w.heap[g]? = some o, fun v w w' S S' hs hb ⟨h3, h4⟩ =>
  have := hb g (Array.getElem?_eq_some_iff.1 h4).1 h3
  ⟨this.1, this.2.trans h4⟩⟩

theorem Own.inOf {w : World} {n : Nat} {e : TypeId} {v : Value} {xs : List Value} (h : Own w n e v xs) {S : Nat → Prop} (hS : ∀ g, v.ownBlock = some g → S g) : In S v := by
  intro a m c e
  subst e
  exact hS _ rfl

/-- an append lies where what it was put behind lay, or in a new block -/
theorem append_where {P : Program} {t e : TypeId} {z : Value} {bytes : Nat} (E : ElemOk P t e z bytes) (ty : TypeId) {w w' : World} {base : Nat} {v u v' : Value} {xs ys : List Value}
    (hown : Own w base e v xs) (hu : Sl w u ys) (h1 : ∀ y ∈ ys, y.oneCell' = true) (h63 : xs.length + ys.length ≤ maxLen) (hbytes : (xs.length + ys.length) * bytes ≤ 140737488355328) (hbase : base ≤ w.heap.size)
    (hr : (Builtin.append_ #[t, t] ty #[v, u]).run P w = .ok v' w') : ∀ g, v'.ownBlock = some g → v.ownBlock = some g ∨ w.heap.size ≤ g := by
  obtain ⟨i, hi, hz, hs, hb⟩ := E.hi
  have hu0 := hu
  obtain ⟨ao, cap, rfl, hm, hcap, hc⟩ := hu
  intro g hg
  rcases hown.2 with ⟨rfl, hx0⟩ | ⟨g0, cap0, cur, rfl, hbg, hg0, hnc, hcm, hcs, htake⟩
  · -- nil: with the heap's size as the base
    have hx : xs = [] := List.eq_nil_of_length_eq_zero hx0
    subst hx
    obtain ⟨v2, w2, hr2, ho2, _⟩ := run_append_sl E ty (Own.nil w w.heap.size e) hu0 h1 h63 hbytes (Nat.le_refl _)
    rw [hr] at hr2
    simp only [Result.ok.injEq] at hr2
    obtain ⟨rfl, rfl⟩ := hr2
    exact .inr (World.ownsRow.lt ho2 g hg).1
  · cases ao with
    | none =>
      have hy : ys = [] := by
        cases ys with
        | nil => rfl
        | cons y ys =>
          obtain ⟨b, off, h, _⟩ := hc 0 (by simp)
          cases h
      subst hy
      have hcap0 := hcap.2 rfl
      subst hcap0
      have hr2 := run_append_owned_none (P := P) w base t ty e i 1 E.ht hi _ _ xs hown
      rw [show ([] : List Value).length = 0 from rfl, hr2] at hr
      simp only [Result.ok.injEq] at hr
      obtain ⟨rfl, rfl⟩ := hr
      exact .inl hg
    | some ad =>
      have hnews : ∀ j y, ys[j]? = some y → w.cell? (ad.add j) = some y := by
        intro j y hj
        obtain ⟨hjl, hjy⟩ := List.getElem?_eq_some_iff.1 hj
        obtain ⟨b, off, ha, hcell⟩ := hc j hjl
        cases ha
        rw [hjy] at hcell
        have hadd : (⟨b, off, none⟩ : Addr).add j = ⟨b, off + j, none⟩ := by unfold Addr.add; split <;> simp_all
        rw [hadd]
        exact hcell
      by_cases hroom : xs.length + ys.length ≤ cap0
      · have hr2 := run_append_room (P := P) w t ty e i E.ht hi g0 xs.length cap0 cur hg0 ad ys.length cap ys (by simp [hs]) hnews h1 hroom (by rw [hs, hcs]; omega)
        rw [hr2] at hr
        simp only [Result.ok.injEq] at hr
        obtain ⟨rfl, rfl⟩ := hr
        exact .inl hg
      · have holds : ∀ j u, xs[j]? = some u → w.cell? ((⟨g0, 0, none⟩ : Addr).add j) = some u := World.ownsRow.cells (g := g0) hown rfl
        have hr2 := run_append_grow (P := P) w t ty e i z E.ht hi hz ⟨g0, 0, none⟩ xs.length cap0 xs (by simp [hs]) holds ad ys.length cap ys (by simp [hs]) hnews (by omega) (by unfold maxLen at h63; omega) (growslice_fits (by omega) (by rw [hb]; exact hbytes))
        rw [hr2] at hr
        simp only [Result.ok.injEq] at hr
        obtain ⟨rfl, rfl⟩ := hr
        simp only [Value.ownBlock, Option.some.injEq] at hg
        omega

/-- **append** in a drawn region: what v told is used up -/
theorem told_append {P : Program} {t e : TypeId} {z : Value} {bytes : Nat} (E : ElemOk P t e z bytes) {acc con : Array Nat} {n : Nat} {C : World → Prop} {i : Nat} {o : Oper} {F : Nat → Fact} {a : Act} (s x : Operand)
    (ho : o.op = .call { callee := .builtin .append, args := #[s, x], argTypes := #[t, t] }) {xs ys : List Value}
    (hC : ∀ w w' row, C w → w.grownBy w' row → (∀ k, row = some k → n ≤ k) → n ≤ w.heap.size ∧ C w')
    (h1 : ∀ y ∈ ys, y.oneCell' = true) (h63 : xs.length + ys.length ≤ maxLen) (hbytes : (xs.length + ys.length) * bytes ≤ 140737488355328)
    (hF : ∀ w own, C w → (∀ k, (acc.getD i 0).testBit k = true → F k w (blocksOf n own k)) → (Own w n e (a.eval s) xs ∧ ∀ g, (a.eval s).ownBlock = some g → (con.getD i 0).testBit (own g) = true) ∧ Sl w (a.eval x) ys) :
    toldAt P acc con n C i o (oOwn n e (xs ++ ys)) F a := by
  intro w own hCw hf
  obtain ⟨⟨hown, hcon⟩, hu⟩ := hF w own hCw hf
  have hbase : n ≤ w.heap.size := (hC w w none hCw ⟨rfl, rfl, rfl, Nat.le_refl _, fun _ _ _ => rfl⟩ fun k h => by cases h).1
  obtain ⟨v', w', hr, h2, h3⟩ := run_append_sl E o.type hown hu h1 h63 hbytes hbase
  have hwh := append_where E o.type hown hu h1 h63 hbytes hbase hr
  refine Gives.value (v := v') (w' := w') ?_ ⟨(hC w w' _ hCw h3 fun k hk => (World.ownsRow.lt hown k hk).1).2, ⟨h3.size, fun b hb hor => h3.block b hb fun hrow => ?_⟩, h2, Own.inOf h2 fun g hg => ?_⟩
  · unfold execOp
    simp only [ho, resolve, invoke, builtin, Sem.run_bind, Sem.run_pure, Result.andThen_ok, List.map_toArray, List.map_cons, List.map_nil, hr]
  · have h4 := (World.ownsRow.lt hown b hrow.symm).1
    have h5 := hcon b hrow.symm
    rcases hor with h | h
    · omega
    · rw [h5] at h; cases h
  · refine .inr ?_
    unfold ownNext
    rcases hwh g hg with h | h
    · rw [if_pos (.inr (hcon g h))]
    · rw [if_pos (.inl h)]

section
variable {P : Program} {ops : Array Oper} {acc con : Array Nat} {n : Nat} {C : World → Prop} {Q : Act → World → (Nat → Nat) → Prop} {L : List (Option Tell)} {i : Nat} {o : Oper} {l : List Oper} {F : Nat → Fact} {a : Act}

/-- one value in all worlds of the class, nothing changed (a load of what stays) -/
theorem ordT_same {v : Value} (hw : Region.wanted o (yielded ops a.tmps) = true) (h1 : ∀ w, C w → (execOp a.eval o).run P w = .ok (.value v) w)
    (h2 : ordT P ops acc con n C Q L (i + 1) l (factsNext con i (oV v) v F) (a.put o.dst v)) : ordT P ops acc con n C Q (some (oV v) :: L) i (o :: l) F a := by
  refine ordT_new hw (fun w own hC _ => Gives.value (h1 w hC) ⟨hC, ⟨Nat.le_refl _, fun _ _ => rfl⟩, fun _ _ => rfl⟩) fun v' w own _ hv => ?_
  obtain rfl : v' = v := hv
  exact h2
/-- one value, by what is told of those it waits for -/
theorem ordT_read {v : Value} (hw : Region.wanted o (yielded ops a.tmps) = true) (h1 : ∀ w own, C w → (∀ k, (acc.getD i 0).testBit k = true → F k w (blocksOf n own k)) → (execOp a.eval o).run P w = .ok (.value v) w)
    (h2 : ordT P ops acc con n C Q L (i + 1) l (factsNext con i (oV v) v F) (a.put o.dst v)) : ordT P ops acc con n C Q (some (oV v) :: L) i (o :: l) F a := by
  refine ordT_new hw (fun w own hC hF => Gives.value (h1 w own hC hF) ⟨hC, ⟨Nat.le_refl _, fun _ _ => rfl⟩, fun _ _ => rfl⟩) fun v' w own _ hv => ?_
  obtain rfl : v' = v := hv
  exact h2
/-- a call that changes nothing that is there -/
theorem ordT_call {t : Tell} (hw : Region.wanted o (yielded ops a.tmps) = true) (hCK : ∀ w w', C w → Keep w w' → C w')
    (h1 : ∀ w own, C w → (∀ k, (acc.getD i 0).testBit k = true → F k w (blocksOf n own k)) → ∃ f args, (execOp a.eval o).run P w = .ok (.enter f args) w ∧ Calls P f args w fun e w' => ∃ v, e = .returned v ∧ Keep w w' ∧ ∀ S : Nat → Prop, (∀ b, b < n ∨ w.heap.size ≤ b → S b) → t.φ v w' S)
    (h2 : ∀ v w own, C w → t.φ v w (blocksOf n own i) → ordT P ops acc con n C Q L (i + 1) l (factsNext con i t v F) (a.put o.dst v)) : ordT P ops acc con n C Q (some t :: L) i (o :: l) F a := by
  refine ordT_new hw (fun w own hC hF => ?_) h2
  obtain ⟨f, args, hr, hc⟩ := h1 w own hC hF
  exact Gives.call hr hc fun _ w' ⟨v, he, hk, hφ⟩ => ⟨v, he, hCK w w' hC hk, ⟨hk.size, fun b hb => hk.block b hb⟩, hφ⟩
/-- a call of which one value comes -/
theorem ordT_callV {v : Value} (hw : Region.wanted o (yielded ops a.tmps) = true) (hCK : ∀ w w', C w → Keep w w' → C w')
    (h1 : ∀ w own, C w → (∀ k, (acc.getD i 0).testBit k = true → F k w (blocksOf n own k)) → ∃ f args, (execOp a.eval o).run P w = .ok (.enter f args) w ∧ Calls P f args w fun e w' => e = .returned v ∧ Keep w w')
    (h2 : ordT P ops acc con n C Q L (i + 1) l (factsNext con i (oV v) v F) (a.put o.dst v)) : ordT P ops acc con n C Q (some (oV v) :: L) i (o :: l) F a := by
  refine ordT_call hw hCK (fun w own hC hF => ?_) fun v' w own _ hv => ?_
  · obtain ⟨f, args, hr, hc⟩ := h1 w own hC hF
    exact ⟨f, args, hr, hc.mono fun e w' ⟨he, hk⟩ => ⟨v, he, hk, fun _ _ => rfl⟩⟩
  · obtain rfl : v' = v := hv
    exact h2
/-- new memory -/
theorem ordT_laid {t : Tell} (v : World → Value) (ob : Obj) (hw : Region.wanted o (yielded ops a.tmps) = true) (hCK : ∀ w w', C w → Keep w w' → C w') (hr : ∀ w, C w → (execOp a.eval o).run P w = .ok (.value (v w)) (w.alloc ob))
    (h1 : ∀ w own, C w → (∀ k, (acc.getD i 0).testBit k = true → F k w (blocksOf n own k)) → ∀ S : Nat → Prop, (∀ b, b < n ∨ w.heap.size ≤ b → S b) → t.φ (v w) (w.alloc ob) S)
    (h2 : ∀ v w own, C w → t.φ v w (blocksOf n own i) → ordT P ops acc con n C Q L (i + 1) l (factsNext con i t v F) (a.put o.dst v)) : ordT P ops acc con n C Q (some t :: L) i (o :: l) F a :=
  ordT_new hw (fun w own hC hF => Gives.value (hr w hC) ⟨hCK _ _ hC (Keep.alloc _ _), ⟨(Keep.alloc w ob).size, fun b hb => (Keep.alloc w ob).block b hb⟩, fun S hS => h1 w own hC hF S hS⟩) h2
/-- string(b) -/
theorem ordT_str {t s e : TypeId} (ht : P.underlying t = some (.slice e)) (he : P.underlying e = some (.int .u8)) (hs : P.underlying s = some .string) (x : Operand) (ho : o.op = .convert t s x) {bs : List UInt8} (hw : Region.wanted o (yielded ops a.tmps) = true)
    (hF : ∀ w own, C w → (∀ k, (acc.getD i 0).testBit k = true → F k w (blocksOf n own k)) → SlB w (a.eval x) bs)
    (h2 : ordT P ops acc con n C Q L (i + 1) l (factsNext con i (oV (strV bs)) (strV bs) F) (a.put o.dst (strV bs))) : ordT P ops acc con n C Q (some (oV (strV bs)) :: L) i (o :: l) F a := by
  refine ordT_read hw (fun w own hC hf => ?_) h2
  have hr := run_toString (P := P) ht he hs (hF w own hC hf)
  unfold execOp
  simp only [ho, Sem.run_bind, hr, Result.andThen_ok]
  rfl
end
theorem keepK {wk : World} : ∀ w w', Keep wk w → Keep w w' → Keep wk w' := fun _ _ h k => h.trans' k
theorem keepG {wk : World} : ∀ w w' row, Keep wk w → w.grownBy w' row → (∀ k, row = some k → wk.heap.size ≤ k) → wk.heap.size ≤ w.heap.size ∧ Keep wk w' :=
  fun _ _ _ h g r => ⟨h.size, h.grown g h.size r⟩
/-- its own block is among those that are used up -/
theorem con_own {w : World} {n : Nat} {e : TypeId} {v : Value} {xs : List Value} {own : Nat → Nat} {k c : Nat} (h : Own w n e v xs) (hi : In (blocksOf n own k) v) (hc : c.testBit k = true) : ∀ g, v.ownBlock = some g → c.testBit (own g) = true := by
  intro g hg
  have h1 := (World.ownsRow.lt h g hg).1
  rcases h.2 with ⟨rfl, _⟩ | ⟨g', cap, cur, rfl, _⟩
  · cases hg
  · simp only [Value.ownBlock, Option.some.injEq] at hg
    subst hg
    rcases hi _ _ _ rfl with h2 | h2
    · simp only at h2; omega
    · simp only at h2; rw [h2]; exact hc

theorem Sl.shape {w : World} {v : Value} {xs : List Value} (h : Sl w v xs) : ∃ a n c, v = .slice a n c := by
  obtain ⟨ao, cap, hv, _⟩ := h
  exact ⟨_, _, _, hv⟩
theorem SlBB.shape {w : World} {v : Value} {ls : List (List UInt8)} (h : SlBB w v ls) : ∃ a n c, v = .slice a n c := by
  obtain ⟨vs, h, _⟩ := h
  exact h.shape
theorem in_new {n m : Nat} {S : Nat → Prop} (hS : ∀ b, b < n ∨ m ≤ b → S b) {xs : List Value} {k c : Nat} : xs ≠ [] → In S (.slice (some ⟨m, 0, none⟩) k c) := fun _ a' n' c' e => by
  simp only [Value.slice.injEq, Option.some.injEq] at e
  rw [← e.1]
  exact hS _ (.inr (Nat.le_refl _))
theorem SlBB.one {w : World} {v u : Value} {l : List UInt8} (h : Sl w v [u]) (hu : SlB w u l) : SlBB w v [l] := ⟨[u], h, rfl, fun i h1 h2 => by
  have hi : i = 0 := by simp at h1; omega
  subst hi
  exact hu⟩
theorem SlBB.two {w : World} {v u t : Value} {l k : List UInt8} (h : Sl w v [u, t]) (hu : SlB w u l) (ht : SlB w t k) : SlBB w v [l, k] := ⟨[u, t], h, rfl, fun i h1 h2 => by
  match i, h1 with
  | 0, _ => exact hu
  | 1, _ => exact ht⟩
theorem SlBB.three {w : World} {v u t r : Value} {l k m : List UInt8} (h : Sl w v [u, t, r]) (hu : SlB w u l) (ht : SlB w t k) (hr : SlB w r m) : SlBB w v [l, k, m] := ⟨[u, t, r], h, rfl, fun i h1 h2 => by
  match i, h1 with
  | 0, _ => exact hu
  | 1, _ => exact ht
  | 2, _ => exact hr⟩

/-- what is used up, and what is old -/
abbrev Used (n c : Nat) (own : Nat → Nat) : Nat → Prop := fun b => b < n ∨ c.testBit (own b) = true
theorem in_old {wk : World} {v : Value} {xs : List Value} {p : Nat → Prop} (h : Sl wk v xs) : xs ≠ [] → In (fun b => b < wk.heap.size ∨ p b) v := by
  intro hne a m c e
  subst e
  obtain ⟨ao, cap, hv, _, _, hc⟩ := h
  simp only [Value.slice.injEq] at hv
  obtain ⟨rfl, _, _⟩ := hv
  cases xs with
  | nil => exact absurd rfl hne
  | cons x xs =>
    obtain ⟨b, off, ha, hcell⟩ := hc 0 (by simp)
    cases ha
    exact .inl (World.block_lt_of_cell? wk _ hcell)
theorem in_fact {n k c : Nat} {own : Nat → Nat} {v : Value} {xs : List Value} (h : xs ≠ [] → In (blocksOf n own k) v) (hc : c.testBit k = true) : xs ≠ [] → In (Used n c own) v := by
  intro hne a m cc e
  rcases h hne a m cc e with h | h
  · exact .inl h
  · exact .inr (by rw [h]; exact hc)
theorem in_fact' {n k c : Nat} {own : Nat → Nat} {v : Value} {xs : List Value} (h : In (blocksOf n own k) v) (hc : c.testBit k = true) : xs ≠ [] → In (Used n c own) v := in_fact (fun _ => h) hc

/-- a slice of byte slices, all its blocks -/
def InBB (S : Nat → Prop) (w : World) (v : Value) (ls : List (List UInt8)) : Prop :=
  ∃ vs : List Value, Sl w v vs ∧ (vs ≠ [] → In S v) ∧ vs.length = ls.length ∧ ∀ i (h : i < vs.length) (h' : i < ls.length), SlB w vs[i] ls[i] ∧ (ls[i].map B ≠ [] → In S vs[i])
theorem InBB.bb {S : Nat → Prop} {w : World} {v : Value} {ls : List (List UInt8)} (h : InBB S w v ls) : SlBB w v ls := by
  obtain ⟨vs, h1, _, h2, h3⟩ := h
  exact ⟨vs, h1, h2, fun i a b => (h3 i a b).1⟩
def oBB (ls : List (List UInt8)) : Tell := ⟨fun v w S => InBB S w v ls, fun v w w' S S' hs hb ⟨vs, h1, h2, h3, h4⟩ =>
  have h5 := h1.lasts h2 hb
  ⟨vs, h5.1, h5.2, h3, fun i a b => Sl.lasts (h4 i a b).1 (h4 i a b).2 hb⟩⟩
/-- a literal of byte slices: what its parts told is used up -/
theorem told_parts {P : Program} {acc con : Array Nat} {n : Nat} {C : World → Prop} {i : Nat} {o : Oper} {F : Nat → Fact} {a : Act} (e : TypeId) (vs : List Value) (ls : List (List UInt8)) (hl : vs.length = ls.length) (hm : vs.length ≤ 100)
    (hCK : ∀ w w', C w → Keep w w' → C w') (hr : ∀ w, C w → (execOp a.eval o).run P w = .ok (.value (.slice (some ⟨w.heap.size, 0, none⟩) vs.length vs.length)) (w.alloc (.cells vs.toArray e)))
    (hF : ∀ w own, C w → (∀ k, (acc.getD i 0).testBit k = true → F k w (blocksOf n own k)) → ∀ j (h : j < vs.length) (h' : j < ls.length), SlB w vs[j] ls[j] ∧ (ls[j].map B ≠ [] → In (Used n (con.getD i 0) own) vs[j])) :
    toldAt P acc con n C i o (oBB ls) F a := by
  intro w own hC hf
  have h1 := hF w own hC hf
  have hk := Keep.alloc w (.cells vs.toArray e)
  refine Gives.value (hr w hC) ⟨hCK _ _ hC hk, ⟨hk.size, fun b hb _ => hk.block b hb⟩, vs, Sl.laid w _ _ _ vs _ _ rfl (by simp) (by unfold maxLen; omega) (Nat.le_refl _), in_new (n := n) (m := w.heap.size) fun b hb => ?_, hl, fun j a b => ⟨(h1 j a b).1.keep hk, fun hne ad m c ev => ?_⟩⟩
  · rcases hb with hb | hb
    · exact .inl hb
    · exact .inr (by unfold ownNext; rw [if_pos (.inl hb)])
  · rcases (h1 j a b).2 hne ad m c ev with h | h
    · exact .inl h
    · exact .inr (by unfold ownNext; rw [if_pos (.inr h)])
theorem parts1 {p : Value → List UInt8 → Prop} {v : Value} {l : List UInt8} (h : p v l) : ∀ j (h : j < [v].length) (h' : j < [l].length), p [v][j] [l][j] := fun j h1 h2 => by
  have hi : j = 0 := by simp at h1; omega
  subst hi
  exact h
theorem parts2 {p : Value → List UInt8 → Prop} {v u : Value} {l k : List UInt8} (h : p v l) (h0 : p u k) : ∀ j (h : j < [v, u].length) (h' : j < [l, k].length), p [v, u][j] [l, k][j] := fun j h1 h2 => by
  match j, h1 with
  | 0, _ => exact h
  | 1, _ => exact h0
theorem parts3 {p : Value → List UInt8 → Prop} {v u t : Value} {l k m : List UInt8} (h : p v l) (h0 : p u k) (h3 : p t m) : ∀ j (h : j < [v, u, t].length) (h' : j < [l, k, m].length), p [v, u, t][j] [l, k, m][j] := fun j h1 h2 => by
  match j, h1 with
  | 0, _ => exact h
  | 1, _ => exact h0
  | 2, _ => exact h3

/-- a slice of the call's own, u, whatever the operation gives -/
def oHas (u : Value) (n : Nat) (e : TypeId) (xs : List Value) : Tell := ⟨fun _ w S => Own w n e u xs ∧ In S u, fun _ _ _ _ _ _ hb h => h.1.lasts h.2 hb⟩
theorem keepS {wk : World} : ∀ w p x, Keep wk w → wk.heap.size ≤ p.block → Keep wk (w.setCell p x) := fun _ _ _ h hp => Below.setCell h hp _
/-- a store into a slice of the call's own -/
theorem told_store {P : Program} {acc con : Array Nat} {n : Nat} {C : World → Prop} {i : Nat} {o : Oper} {F : Nat → Fact} {a : Act} (e : TypeId) (g len cap : Nat) (xs : List Value) (j : Nat) (u : Value) (hj : j < xs.length)
    (hC : ∀ w (p : Addr) x, C w → n ≤ p.block → C (w.setCell p x))
    (hr : ∀ w x, w.cell? ⟨g, j, none⟩ = some x → w.frozen? ⟨g, j, none⟩ = false → (execOp a.eval o).run P w = .ok .skip (w.setCell ⟨g, j, none⟩ u))
    (hF : ∀ w own, C w → (∀ k, (acc.getD i 0).testBit k = true → F k w (blocksOf n own k)) → Own w n e (.slice (some ⟨g, 0, none⟩) len cap) xs ∧ (con.getD i 0).testBit (own g) = true) :
    toldAt P acc con n C i o (oHas (.slice (some ⟨g, 0, none⟩) len cap) n e (xs.set j u)) F a := by
  intro w own hCw hf
  obtain ⟨ho, hc⟩ := hF w own hCw hf
  have hg := World.ownsRow.lt ho g rfl
  refine Gives.skip (hr w _ (ho.cellOf j hj) (ho.freeOf j)) ⟨hC w _ _ hCw hg.1, ⟨by simp [World.setCell], fun b hb hor => Below.heap_setCell _ _ _ _ fun e => ?_⟩, ho.stored j u, fun ad m c ev => ?_⟩
  · simp only at e
    subst e
    rcases hor with h | h
    · omega
    · rw [hc] at h; cases h
  · simp only [Value.slice.injEq, Option.some.injEq] at ev
    rw [← ev.1]
    exact .inr (by unfold ownNext; rw [if_pos (.inr hc)])
theorem own_con {w : World} {n g len cap : Nat} {e : TypeId} {xs : List Value} {own : Nat → Nat} {k c : Nat} (h : Own w n e (.slice (some ⟨g, 0, none⟩) len cap) xs) (hi : In (blocksOf n own k) (.slice (some ⟨g, 0, none⟩) len cap)) (hc : c.testBit k = true) :
    Own w n e (.slice (some ⟨g, 0, none⟩) len cap) xs ∧ c.testBit (own g) = true := ⟨h, con_own h hi hc g rfl⟩

/-- an append of a string lies where what it was put behind lay, or in a new block -/
theorem append_whereS {P : Program} {t u e : TypeId} (E : ElemOk P t e (.int .u8 0) 1) (hu : P.underlying u = some .string) (ty : TypeId) {w w' : World} {base : Nat} {v v' : Value} {l k : List UInt8}
    (hown : Own w base e v (l.map B)) (hlen : l.length + k.length ≤ 140737488355328) (hbase : base ≤ w.heap.size)
    (hr : (Builtin.append_ #[t, u] ty #[v, strV k]).run P w = .ok v' w') : ∀ g, v'.ownBlock = some g → v.ownBlock = some g ∨ w.heap.size ≤ g := by
  obtain ⟨i, hi, hz, hs, hb⟩ := E.hi
  intro g hg
  have hl : (l.map B).length = l.length := by simp
  rcases hown.2 with ⟨rfl, hx0⟩ | ⟨g0, cap0, cur, rfl, hbg, hg0, hnc, hcm, hcs, htake⟩
  · have hx : l = [] := List.eq_nil_of_length_eq_zero (by rw [hl] at hx0; exact hx0)
    subst hx
    obtain ⟨v2, w2, hr2, h2, _⟩ := Lib.run_append_own_string (P := P) w w.heap.size t u ty e i E.ht hu hi hz hs hb (.slice none 0 0) 0 [] (Own.nil w w.heap.size e) ⟨k.toArray⟩ (by rw [size_str]; simp at hlen; unfold maxLen; omega) (by rw [size_str]; simp at hlen; omega) (Nat.le_refl _)
    have hr' : (Builtin.append_ #[t, u] ty #[.slice none 0 0, strV k]).run P w = .ok v2 w2 := hr2
    rw [hr] at hr'
    simp only [Result.ok.injEq] at hr'
    obtain ⟨rfl, rfl⟩ := hr'
    exact .inr (World.ownsRow.lt h2 g hg).1
  · rw [hl] at *
    by_cases hroom : l.length + k.length ≤ cap0
    · have hr2 := Lib.run_append_room_string (P := P) w t u ty e i E.ht hu hi hs g0 l.length cap0 cur hg0 ⟨k.toArray⟩ (by rw [size_str]; exact hroom) (by rw [size_str, hcs]; omega)
      have hr' : (Builtin.append_ #[t, u] ty #[.slice (some ⟨g0, 0, none⟩) l.length cap0, strV k]).run P w = _ := hr2
      rw [hr] at hr'
      simp only [Result.ok.injEq] at hr'
      obtain ⟨rfl, rfl⟩ := hr'
      exact .inl hg
    · have holds : ∀ j u, (l.map B)[j]? = some u → w.cell? ((⟨g0, 0, none⟩ : Addr).add j) = some u := World.ownsRow.cells (g := g0) hown rfl
      have hr2 := Lib.run_append_grow_string (P := P) w t u ty e i (.int .u8 0) E.ht hu hi hz ⟨g0, 0, none⟩ l.length cap0 (l.map B) (by simp [hs]) holds ⟨k.toArray⟩ (by rw [size_str]; omega) (by rw [size_str]; omega) (growslice_fits (by rw [size_str]; omega) (by rw [size_str, hb]; omega))
      have hr' : (Builtin.append_ #[t, u] ty #[.slice (some ⟨g0, 0, none⟩) l.length cap0, strV k]).run P w = _ := hr2
      rw [hr] at hr'
      simp only [Result.ok.injEq] at hr'
      obtain ⟨rfl, rfl⟩ := hr'
      simp only [Value.ownBlock, Option.some.injEq] at hg
      omega
/-- **append of a string** in a drawn region -/
theorem told_appendS {P : Program} {t u e : TypeId} (E : ElemOk P t e (.int .u8 0) 1) (hu : P.underlying u = some .string) {acc con : Array Nat} {n : Nat} {C : World → Prop} {i : Nat} {o : Oper} {F : Nat → Fact} {a : Act} (s x : Operand)
    (ho : o.op = .call { callee := .builtin .append, args := #[s, x], argTypes := #[t, u] }) {l k : List UInt8} (hx : a.eval x = strV k)
    (hC : ∀ w w' row, C w → w.grownBy w' row → (∀ k, row = some k → n ≤ k) → n ≤ w.heap.size ∧ C w') (hlen : l.length + k.length ≤ 140737488355328)
    (hF : ∀ w own, C w → (∀ k, (acc.getD i 0).testBit k = true → F k w (blocksOf n own k)) → Own w n e (a.eval s) (l.map B) ∧ ∀ g, (a.eval s).ownBlock = some g → (con.getD i 0).testBit (own g) = true) :
    toldAt P acc con n C i o (oOwn n e ((l ++ k).map B)) F a := by
  intro w own hCw hf
  obtain ⟨hown, hcon⟩ := hF w own hCw hf
  have hbase : n ≤ w.heap.size := (hC w w none hCw ⟨rfl, rfl, rfl, Nat.le_refl _, fun _ _ _ => rfl⟩ fun k h => by cases h).1
  obtain ⟨ii, hi, hz, hs1, hb⟩ := E.hi
  obtain ⟨v', w', hr, h2, h3, _⟩ := Lib.run_append_own_string (P := P) w n t u o.type e ii E.ht hu hi hz hs1 hb (a.eval s) (l.map B).length (l.map B) hown ⟨k.toArray⟩ (by rw [size_str]; simp; unfold maxLen; omega) (by rw [size_str]; simp; omega) hbase
  have hr' : (Builtin.append_ #[t, u] o.type #[a.eval s, strV k]).run P w = .ok v' w' := hr
  have hwh := append_whereS E hu o.type hown hlen hbase hr'
  have h2' : Own w' n e v' ((l ++ k).map B) := by
    unfold Own
    rw [strCells_str, size_str] at h2
    rw [List.map_append, List.length_append, List.length_map, List.length_map]
    rw [List.length_map] at h2
    exact h2
  refine Gives.value (v := v') (w' := w') ?_ ⟨(hC w w' _ hCw h3 fun k hk => (World.ownsRow.lt hown k hk).1).2, ⟨h3.size, fun b hb hor => h3.block b hb fun hrow => ?_⟩, h2', Own.inOf h2' fun g hg => ?_⟩
  · unfold execOp
    simp only [ho, resolve, invoke, builtin, Sem.run_bind, Sem.run_pure, Result.andThen_ok, List.map_toArray, List.map_cons, List.map_nil, hx, hr']
  · have h4 := (World.ownsRow.lt hown b hrow.symm).1
    have h5 := hcon b hrow.symm
    rcases hor with h | h
    · omega
    · rw [h5] at h; cases h
  · refine .inr ?_
    unfold ownNext
    rcases hwh g hg with h | h
    · rw [if_pos (.inr (hcon g h))]
    · rw [if_pos (.inl h)]
end Go.Proofs.Ythknhonpcmneaaa
