/- The walks of pack's reader; its bytes lie below its own block. -/
import Derived.Test.YthknhonpcmneaaaPack
import Derived.Test.YthknhonpcmneaaaSlSet
namespace Go.Proofs.Ythknhonpcmneaaa
open Go.RowKit
attribute [local irreducible] Go.wpQuiet

/-- block rb is a reader: what it has left reads s.l; has it failed -/
def Low (S : Nat → Prop) (rb : Nat) (v : Value) (l : List UInt8) : Prop := l ≠ [] → ∀ a n c, v = .slice (some a) n c → S a.block ∧ a.block < rb
variable {S : Nat → Prop}
theorem Low.of {w : World} {v : Value} {l : List UInt8} (h : SlB w v l) (hS : ∀ a n c, v = .slice (some a) n c → S a.block) : Low S w.heap.size v l := by
  intro hne a n c e
  refine ⟨hS a n c e, ?_⟩
  subst e
  cases l with
  | nil => exact absurd rfl hne
  | cons x l =>
    obtain ⟨b, off, ha, hc⟩ := h.cells (by simp)
    cases ha
    exact World.block_lt_of_cell? w _ (hc 0 (by simp))
theorem Low.sliced {rb : Nat} {ao : Option Addr} {n cap k : Nat} {l : List UInt8} (h : Low S rb (.slice ao n cap) l) : Low S rb (Go.sliced ao k n cap 1) (l.drop k) := by
  intro hne a m c e
  have hl : l ≠ [] := by rintro rfl; simp at hne
  unfold Go.sliced at e
  simp only [Value.slice.injEq] at e
  cases ao with
  | none => obtain ⟨e, _⟩ := e; split at e <;> simp at e
  | some x =>
    have h1 := h hl x n cap rfl
    obtain ⟨e, _⟩ := e
    split at e
    · simp only [Option.some.injEq] at e
      rw [← e]; exact h1
    · simp only [Option.map_some, Option.some.injEq] at e
      rw [← e]
      unfold Addr.add
      split <;> exact h1
def Rd (S : Nat → Prop) (w : World) (rb : Nat) (s : Pk.RS) : Prop := ∃ v, w.heap[rb]? = some (.cells #[v, .bool s.bad] 69) ∧ SlB w v s.l ∧ Low S rb v s.l

/-- only one block that stood has changed -/
abbrev But (w w' : World) (rb : Nat) : Prop := w.grownBy w' (some rb)

set_option maxHeartbeats 1000000 in
theorem newRd_any (v : Value) (l : List UInt8) (w : World) (hv : SlB w v l) (hS : ∀ a n c, v = .slice (some a) n c → S a.block) :
    Calls Try.prog 19 #[v] w fun e w' => e = .returned (.pointer (some ⟨w.heap.size, 0, none⟩)) ∧ Rd S w' w.heap.size ⟨l, false⟩ ∧ Keep w w' ∧ w'.heap.size = w.heap.size + 1 := by
  have hv0 := hv
  obtain ⟨a0, n0, c0, rfl⟩ := hv.shape
  go_enter Try.func19, Try.ntmps19
  go_wp2
  go_ret
  refine ⟨rfl, ⟨_, heap_new w _ _ rfl, hv0.keep (Keep.alloc _ _), Low.of hv0 hS⟩, Keep.alloc _ _, by simp⟩

theorem Rd.cells {w : World} {rb : Nat} {s : Pk.RS} {v : Value} (h : w.heap[rb]? = some (.cells #[v, .bool s.bad] 69)) : w.cell? ⟨rb, 0, none⟩ = some v ∧ w.cell? ⟨rb, 1, none⟩ = some (.bool s.bad) ∧ w.frozen? ⟨rb, 0, none⟩ = false ∧ w.frozen? ⟨rb, 1, none⟩ = false := by
  unfold World.cell? World.frozen?
  simp [h]

theorem Rd.keep {w w' : World} {rb : Nat} {s : Pk.RS} (h : Rd S w rb s) (hk : Keep w w') : Rd S w' rb s := by
  obtain ⟨v, hh, hv, hlow⟩ := h
  exact ⟨v, (hk.block rb (Array.getElem?_eq_some_iff.1 hh).1).trans hh, hv.keep hk, hlow⟩

set_option maxHeartbeats 1000000 in
theorem bad_any (rb : Nat) (s : Pk.RS) (w : World) (hr : Rd S w rb s) :
    Calls Try.prog 26 #[.pointer (some ⟨rb, 0, none⟩)] w fun e w' => e = .returned (.bool s.bad) ∧ w = w' := by
  obtain ⟨v, hh, hv, hlow⟩ := hr
  obtain ⟨h0, h1, _, _⟩ := Rd.cells hh
  go_enter Try.func26, Try.ntmps26
  go_wp2
  go_ret
  exact ⟨rfl, rfl⟩

set_option maxHeartbeats 1000000 in
theorem bad_nil (w : World) :
    Calls Try.prog 26 #[.pointer none] w fun e w' => e = .returned (.bool true) ∧ w = w' := by
  go_enter Try.func26, Try.ntmps26
  go_wp2
  go_ret
  exact ⟨rfl, rfl⟩

theorem But.setCell (w : World) (rb j : Nat) (u : Value) : But w (w.setCell ⟨rb, j, none⟩ u) rb :=
  ⟨rfl, rfl, rfl, by simp, fun k _ hk => Below.heap_setCell w ⟨rb, j, none⟩ u k (fun e => hk (by simp [e]))⟩

theorem Rd.failed {w : World} {rb : Nat} {s : Pk.RS} (h : Rd S w rb s) : Rd S (w.setCell ⟨rb, 1, none⟩ (.bool true)) rb ⟨s.l, true⟩ := by
  obtain ⟨v, hh, hv, hlow⟩ := h
  obtain ⟨_, h1, _, _⟩ := Rd.cells hh
  refine ⟨v, ?_, hv.setCell h1 (fun b => by unfold B; simp) _, hlow⟩
  rw [heap_setCell_same w rb 1 _ _ _ hh]
  rfl

set_option maxHeartbeats 1000000 in
theorem take_bad (rb : Nat) (s : Pk.RS) (n : Int) (w : World) (hr : Rd S w rb s) (hb : s.bad = true ∨ n < 0 ∨ (s.l.length : Int) < n) :
    Calls Try.prog 24 #[.pointer (some ⟨rb, 0, none⟩), .int .i64 n] w fun e w' => e = .returned (.slice none 0 0) ∧ But w w' rb ∧ Rd S w' rb ⟨s.l, true⟩ := by
  have hr0 := hr
  have hf := hr.failed
  obtain ⟨v, hh, hv, hlow⟩ := hr
  obtain ⟨h0, h1, h2, h3⟩ := Rd.cells hh
  obtain ⟨a0, c0, rfl, _⟩ := hv.form
  have hlt := (Array.getElem?_eq_some_iff.1 hh).1
  cases hs : s.bad with
  | true =>
    rw [hs] at h1
    go_enter Try.func24, Try.ntmps24
    go_wp2_with fail
    refine (bad_any rb s w hr0).mono ?_
    rintro e w' ⟨rfl, rfl⟩
    rw [hs]
    clear hs hb
    go_wp2
    go_ret
    exact ⟨rfl, But.setCell w rb 1 _, hf⟩
  | false =>
    rw [hs] at h1 hb
    rcases hb with hb | hb | hb
    · cases hb
    · go_enter Try.func24, Try.ntmps24
      go_wp2_with fail
      refine (bad_any rb s w hr0).mono ?_
      rintro e w' ⟨rfl, rfl⟩
      rw [hs]
      clear hs
      go_wp2
      go_ret
      exact ⟨rfl, But.setCell w rb 1 _, hf⟩
    · have hn0 : ¬ n < 0 := by omega
      go_enter Try.func24, Try.ntmps24
      go_wp2_with fail
      refine (bad_any rb s w hr0).mono ?_
      rintro e w' ⟨rfl, rfl⟩
      rw [hs]
      clear hs
      go_wp2
      go_ret
      exact ⟨rfl, But.setCell w rb 1 _, hf⟩

theorem Rd.taken {w w1 : World} {rb : Nat} {ao : Option Addr} {n cap : Nat} {l : List UInt8} (hh : w.heap[rb]? = some (.cells #[.slice ao n cap, .bool false] 69)) (hv : SlB w (.slice ao n cap) l) (hlow : Low S rb (.slice ao n cap) l) (hk : Keep w w1) (k : Nat) (hkn : k ≤ n) :
    Rd S (w1.setCell ⟨rb, 0, none⟩ (sliced ao k n cap 1)) rb ⟨l.drop k, false⟩ := by
  have hlt := (Array.getElem?_eq_some_iff.1 hh).1
  have hh1 : w1.heap[rb]? = some (.cells #[.slice ao n cap, .bool false] 69) := (hk.block rb hlt).trans hh
  obtain ⟨h0, _, _, _⟩ := Rd.cells (s := ⟨l, false⟩) hh1
  refine ⟨sliced ao k n cap 1, ?_, ((hv.keep hk).from k hkn).setCell h0 (fun b => by unfold B; simp) _, hlow.sliced⟩
  rw [heap_setCell_same w1 rb 0 _ _ _ hh1]
  rfl

/-- a change behind the reader's block leaves it -/
theorem Rd.above {w w' : World} {rb B : Nat} {s : Pk.RS} (h : Rd S w rb s) (hb : Below B w w') (hB : rb < B) : Rd S w' rb s := by
  obtain ⟨v, hh, ⟨ao, cap, rfl, hm, hcap, hc⟩, hlow⟩ := h
  refine ⟨_, (hb.block rb hB).trans hh, ⟨ao, cap, rfl, hm, hcap, fun i hi => ?_⟩, hlow⟩
  obtain ⟨b, off, rfl, hcell⟩ := hc i hi
  have hne : s.l ≠ [] := by intro e; rw [e] at hi; simp at hi
  have hl := hlow hne _ _ _ rfl
  simp only at hl
  exact ⟨b, off, rfl, (hb.cell (p := ⟨b, off + i, none⟩) (by simp only; omega)).trans hcell⟩
theorem But.of_keep {w w1 w2 : World} {rb : Nat} (hk : Keep w w1) (hb : But w1 w2 rb) : But w w2 rb :=
  ⟨hb.os.trans hk.os, hb.tape.trans hk.tape, hb.output.trans hk.output, Nat.le_trans hk.size hb.size, fun k hk2 hne => (hb.block k (Nat.lt_of_lt_of_le hk2 hk.size) hne).trans (hk.block k hk2)⟩
theorem But.trans {w w1 w2 : World} {rb : Nat} (h : But w w1 rb) (hb : But w1 w2 rb) : But w w2 rb :=
  ⟨hb.os.trans h.os, hb.tape.trans h.tape, hb.output.trans h.output, Nat.le_trans h.size hb.size, fun k hk2 hne => (hb.block k (Nat.lt_of_lt_of_le hk2 h.size) hne).trans (h.block k hk2 hne)⟩
theorem But.then_keep {w w1 w2 : World} {rb : Nat} (h : But w w1 rb) (hk : Keep w1 w2) : But w w2 rb :=
  ⟨hk.os.trans h.os, hk.tape.trans h.tape, hk.output.trans h.output, Nat.le_trans h.size hk.size, fun k hk2 hne => (hk.block k (Nat.lt_of_lt_of_le hk2 h.size)).trans (h.block k hk2 hne)⟩
theorem But.below {w w1 : World} {rb base : Nat} (h : But w w1 rb) (hr : base ≤ rb) (hs : base ≤ w.heap.size) : Below base w w1 :=
  (Below.refl _ _).grown h hs fun k hk => by cases hk; exact hr

/-- another reader stays as it is -/
theorem Rd.but {w w1 : World} {rb rc : Nat} {s : Pk.RS} (h : Rd S w rc s) (hb : But w w1 rb) {t : Pk.RS} (hr : Rd S w rb t) (hne : rc ≠ rb) : Rd S w1 rc s := by
  obtain ⟨v, hh, ⟨ao, cap, hv, hm, hcap, hc⟩, hlow⟩ := h
  refine ⟨v, (hb.block rc (Array.getElem?_eq_some_iff.1 hh).1 (by intro h; cases h; exact hne rfl)).trans hh, ⟨ao, cap, hv, hm, hcap, fun i hi => ?_⟩, hlow⟩
  obtain ⟨b, off, ha, hcell⟩ := hc i hi
  refine ⟨b, off, ha, ?_⟩
  have hlt := World.block_lt_of_cell? w _ hcell
  rw [World.cell?_of_block (w := w)]
  · exact hcell
  · refine hb.block _ hlt (fun h => ?_)
    cases h
    obtain ⟨u, hu, hsu, -⟩ := hr
    obtain ⟨a2, n2, c2, rfl⟩ := hsu.shape
    unfold World.cell? at hcell
    simp only [hu] at hcell
    have h1 : (s.l.map B)[i] = B (s.l[i]'(by simpa using hi)) := by simp
    rw [h1] at hcell
    have h2 : ∀ (j : Nat) (y : UInt8), (#[.slice a2 n2 c2, .bool t.bad] : Array Value)[j]? = some (B y) → False := by
      intro j y
      match j with
      | 0 => simp [B]
      | 1 => simp [B]
      | j + 2 => simp
    exact h2 _ _ hcell

theorem Own.but {w w1 : World} {rb base : Nat} {e : TypeId} {v : Value} {xs : List Value} (h : Own w base e v xs) (hb : But w w1 rb) (hne : rb < base) : Own w1 base e v xs := by
  refine ⟨h.1, ?_⟩
  rcases h.2 with h | ⟨g, cap, cur, hv, hg, hh, r⟩
  · exact .inl h
  · refine .inr ⟨g, cap, cur, hv, hg, ?_, r⟩
    rw [hb.block g (Array.getElem?_eq_some_iff.1 hh).1 (by intro h; cases h; omega)]
    exact hh

/-- another block changes, in which none of its bytes lie -/
theorem Rd.other {w w1 : World} {rb rc : Nat} {s : Pk.RS} (h : Rd S w rc s) (hb : But w w1 rb) (hne : rc ≠ rb) (hS : ¬ S rb) : Rd S w1 rc s := by
  obtain ⟨v, hh, ⟨ao, cap, hv, hm, hcap, hc⟩, hlow⟩ := h
  refine ⟨v, (hb.block rc (Array.getElem?_eq_some_iff.1 hh).1 (by intro h; cases h; exact hne rfl)).trans hh, ⟨ao, cap, hv, hm, hcap, fun i hi => ?_⟩, hlow⟩
  obtain ⟨b, off, ha, hcell⟩ := hc i hi
  refine ⟨b, off, ha, ?_⟩
  have hne2 : s.l ≠ [] := by intro e; rw [e] at hi; simp at hi
  have hsb := (hlow hne2 _ _ _ (by rw [hv, ha])).1
  rw [World.cell?_of_block (w := w)]
  · exact hcell
  · exact hb.block _ (World.block_lt_of_cell? w _ hcell) (fun e => hS (by cases e; exact hsb))
set_option maxHeartbeats 1000000 in
theorem take_good (rb : Nat) (s : Pk.RS) (k : Nat) (ni : Int) (hni : ni = (k : Int)) (w : World) (hr : Rd S w rb s) (hb : s.bad = false) (hk : k ≤ s.l.length) (hlen : s.l.length ≤ 100000000000000) :
    Calls Try.prog 24 #[.pointer (some ⟨rb, 0, none⟩), .int .i64 ni] w fun e w' => ∃ v', e = .returned v' ∧ Own w' w.heap.size 5 v' ((s.l.take k).map B) ∧ But w w' rb ∧ Rd S w' rb ⟨s.l.drop k, false⟩ := by
  have hr0 := hr
  obtain ⟨l, bad⟩ := s
  simp only at hb hk hlen ⊢
  subst hb hni
  obtain ⟨v, hh, hv, hlow⟩ := hr
  simp only at hh hv
  obtain ⟨h0, h1, h2, h3⟩ := Rd.cells (s := ⟨l, false⟩) hh
  obtain ⟨a0, c0, rfl, hm, hcap, -⟩ := hv.form
  have hlt := (Array.getElem?_eq_some_iff.1 hh).1
  have hkc : k ≤ c0 := by omega
  go_enter Try.func24, Try.ntmps24
  go_wp2_with fail
  refine (bad_any rb _ w hr0).mono ?_
  rintro e w' ⟨rfl, rfl⟩
  go_upto_region 5 with (fail)
  refine wp_region_seq ?_
  refine seqW_pure rfl ?_
  go_big_quiet_step (fail)
  refine seqW_on ?_
  refine seqW_gives (by kernel_rfl) ?_
  refine Gives.value (v := .pointer (some ⟨rb, 0, none⟩)) (w' := w) (by go_simp) ?_
  simp only [Act.put, List.setIfInBounds_toArray, List.set_cons_zero, List.set_cons_succ]
  refine seqW_pure rfl ?_
  go_big_quiet_step (fail)
  refine seqW_on ?_
  refine seqW_gives (by kernel_rfl) ?_
  refine Gives.value (v := .slice a0 l.length c0) (w' := w) (by go_simp) ?_
  simp only [Act.put, List.setIfInBounds_toArray, List.set_cons_zero, List.set_cons_succ]
  refine seqW_pure rfl ?_
  go_big_quiet_step (fail)
  refine seqW_on ?_
  refine seqW_gives (by kernel_rfl) ?_
  refine Gives.value (v := sliced a0 0 k c0 1) (w' := w) (by go_simp) ?_
  have hsl := hv.upto k hk
  obtain ⟨a1, n1, c1, h4⟩ := hsl.shape
  rw [h4] at hsl ⊢
  simp only [Act.put, List.setIfInBounds_toArray, List.set_cons_zero, List.set_cons_succ]
  refine seqW_gives (by kernel_rfl) ?_
  refine Gives.appendB (l := []) (k := l.take k) elemB _ _ rfl rfl rfl (Own.nil w w.heap.size _) hsl (by simp; omega) (Nat.le_refl _) ?_
  intro v1 w1 ho1 hgr
  have hgr1 : w.grownBy w1 none := hgr
  have hk1 : Keep w w1 := (Below.refl _ _).grown hgr1 (Nat.le_refl _) (fun j hj => by cases hj)
  clear hgr hgr1 h4 hsl
  rw [List.nil_append] at ho1
  simp only [Act.put, List.setIfInBounds_toArray, List.set_cons_zero, List.set_cons_succ]
  refine seqW_pure rfl ?_
  go_big_quiet_step (fail)
  refine seqW_on ?_
  refine seqW_done ?_
  have hrd := Rd.taken hh hv hlow hk1 k hk
  have hc1 : w1.cell? ⟨rb, 0, none⟩ = some (.slice a0 l.length c0) := (hk1.cell hlt).trans h0
  have hf1 : w1.frozen? ⟨rb, 0, none⟩ = false := (hk1.frozen hlt).trans h2
  have hbut := But.of_keep hk1 (But.setCell w1 rb 0 (sliced a0 k l.length c0 1))
  have hown := ho1.but (But.setCell w1 rb 0 (sliced a0 k l.length c0 1)) hlt
  clear ho1 hk1 h0 h1 h2 h3
  go_upto_region 6 with (fail)
  refine wp_region_seq ?_
  refine seqW_pure rfl ?_
  go_big_quiet_step (fail)
  refine seqW_on ?_
  refine seqW_pure rfl ?_
  go_big_quiet_step (fail)
  refine seqW_on ?_
  refine seqW_gives (by kernel_rfl) ?_
  refine Gives.value (v := .pointer (some ⟨rb, 0, none⟩)) (w' := w1) (by go_simp) ?_
  simp only [Act.put, List.setIfInBounds_toArray, List.set_cons_zero, List.set_cons_succ]
  refine seqW_pure rfl ?_
  go_big_quiet_step (fail)
  refine seqW_on ?_
  refine seqW_gives (by kernel_rfl) ?_
  refine Gives.value (v := .slice a0 l.length c0) (w' := w1) (by go_simp) ?_
  simp only [Act.put, List.setIfInBounds_toArray, List.set_cons_zero, List.set_cons_succ]
  refine seqW_pure rfl ?_
  go_big_quiet_step (fail)
  refine seqW_on ?_
  refine seqW_gives (by kernel_rfl) ?_
  refine Gives.value (v := sliced a0 k l.length c0 1) (w' := w1) (by go_simp) ?_
  simp only [Act.put, List.setIfInBounds_toArray, List.set_cons_zero, List.set_cons_succ]
  refine seqW_gives (by kernel_rfl) ?_
  refine Gives.value (v := .pointer (some ⟨rb, 0, none⟩)) (w' := w1) (by go_simp) ?_
  simp only [Act.put, List.setIfInBounds_toArray, List.set_cons_zero, List.set_cons_succ]
  refine seqW_pure rfl ?_
  go_big_quiet_step (fail)
  refine seqW_on ?_
  refine seqW_gives (by kernel_rfl) ?_
  refine Gives.skip (w' := w1.setCell ⟨rb, 0, none⟩ (sliced a0 k l.length c0 1)) ?_ ?_
  · go_simp
  simp only [Act.put, List.setIfInBounds_toArray, List.set_cons_zero, List.set_cons_succ]
  refine seqW_done ?_
  go_wp2
  go_ret
  exact ⟨_, rfl, hown, hbut, hrd⟩

theorem take_any (rb : Nat) (s : Pk.RS) (n : Int) (w : World) (hr : Rd S w rb s) (hlen : s.l.length ≤ 100000000000000) :
    Calls Try.prog 24 #[.pointer (some ⟨rb, 0, none⟩), .int .i64 n] w fun e w' => ∃ v', e = .returned v' ∧ Own w' w.heap.size 5 v' ((Pk.take s n).1.map B) ∧ But w w' rb ∧ Rd S w' rb (Pk.take s n).2 := by
  by_cases hb : s.bad = true ∨ n < 0 ∨ (s.l.length : Int) < n
  · refine (take_bad rb s n w hr hb).mono ?_
    rintro e w' ⟨rfl, h1, h2⟩
    unfold Pk.take
    rw [if_pos hb]
    exact ⟨_, rfl, Own.nil _ _ _, h1, h2⟩
  · have h1 : s.bad = false := by
      cases h : s.bad with
      | false => rfl
      | true => exact absurd (.inl h) hb
    have h2 : 0 ≤ n := by omega
    obtain ⟨k, rfl⟩ := Int.eq_ofNat_of_zero_le h2
    refine (take_good rb s k _ rfl w hr h1 (by omega) hlen).mono ?_
    rintro e w' ⟨v', rfl, h1, h2, h3⟩
    unfold Pk.take
    rw [if_neg hb]
    exact ⟨_, rfl, h1, h2, h3⟩

set_option maxHeartbeats 1000000 in
theorem take_nil (n : Int) (w : World) :
    Calls Try.prog 24 #[.pointer none, .int .i64 n] w fun e w' => e = .returned (.slice none 0 0) ∧ w = w' := by
  go_enter Try.func24, Try.ntmps24
  go_wp2_with fail
  refine (bad_nil w).mono ?_
  rintro e w' ⟨rfl, rfl⟩
  go_wp2
  go_ret
  exact ⟨rfl, rfl⟩

theorem num_lt (l : List UInt8) : Pk.num l < 18446744073709551616 := by
  unfold Pk.num
  have : ∀ (l : List UInt8) (x : Nat), x < 18446744073709551616 → l.foldl (fun x c => (x * 256 + c.toNat) % 18446744073709551616) x < 18446744073709551616 := by
    intro l
    induction l with
    | nil => intro x hx; exact hx
    | cons c l ih => intro x hx; exact ih _ (Nat.mod_lt _ (by decide))
  exact this l 0 (by decide)

theorem num_snoc (l : List UInt8) (k : Nat) (h : k < l.length) : Pk.num (l.take (k + 1)) = (Pk.num (l.take k) * 256 + l[k].toNat) % 18446744073709551616 := by
  rw [List.take_add_one, List.getElem?_eq_getElem h]
  unfold Pk.num
  rw [List.foldl_append]
  rfl

theorem or_byte (x : Nat) (u : UInt8) : Go.bits .or .u64 (IntKind.u64.wrap ((x : Int) * 256)) (u.toNat : Int) = (((x * 256 + u.toNat) % 18446744073709551616 : Nat) : Int) := by
  have hu := u.toNat_lt
  have hw : ∀ z : Int, IntKind.u64.wrap z = z % 18446744073709551616 := fun z => by simp [IntKind.wrap, IntKind.bits, IntKind.signed]
  rw [hw]
  have h := bits_join .u64 64 (by decide) (fun n h0 h1 => by rw [hw]; omega) 8 (((x : Int) * 256) % 18446744073709551616) (u.toNat : Int) (by omega) (by omega) (by omega) (by omega) (by omega) (by omega)
  rw [h]
  omega

set_option maxHeartbeats 1000000 in
theorem num_loop (rb : Nat) (s : Pk.RS) (n : Int) (w : World) (hr : Rd S w rb s) (hlen : s.l.length ≤ 100000000000000) (hn : 1 ≤ n) (hn8 : n ≤ 8) :
    Calls Try.prog 20 #[.pointer (some ⟨rb, 0, none⟩), .int .i64 n] w fun e w' => e = .returned (.int .u64 (Pk.num (Pk.take s n).1)) ∧ But w w' rb ∧ Rd S w' rb (Pk.take s n).2 := by
  have b1 : decide (n < 1) = false := decide_eq_false (by omega)
  have b2 : decide (8 < n) = false := decide_eq_false (by omega)
  go_enter Try.func20, Try.ntmps20
  go_wp2_with fail
  refine (take_any rb s n w hr hlen).mono ?_
  rintro e w1 ⟨v1, rfl, ho1, hb1, hr1⟩
  generalize hl : (Pk.take s n).1 = l at *
  have HL := Lib.hid hl
  clear hl
  obtain ⟨a1, c1, rfl, hm, hcap, hc⟩ := ho1.slB.form
  unfold maxLen at hm
  clear ho1
  have HC := Lib.hid hc
  clear hc
  go_wp2
  go_loop [5, 18] (fun x i => ∃ k : Nat, k ≤ l.length ∧ i = .int .i64 k ∧ x = .int .u64 (Pk.num (l.take k))) (fun _ i => l.length - (intOf i).toNat)
  case atStart => exact ⟨0, by omega, rfl, rfl⟩
  case round =>
    obtain ⟨k, hk, rfl, rfl⟩ := hrel
    by_cases hk2 : k < l.length
    · obtain ⟨b, off, rfl, hcell⟩ := HC.out k hk2
      have hs := num_snoc l k hk2
      have HS := Lib.hid hs
      clear hs
      have hx := num_lt (l.take k)
      have hu := l[k].toNat_lt
      generalize l[k] = u at *
      generalize Pk.num (l.take k) = x at *
      go_wp2
      go_round
      case rel =>
        refine ⟨k + 1, by omega, by go_num, ?_⟩
        rw [HS.out, or_byte]
      case measure => simp [intOf]; omega
    · have hk3 : k = l.length := by omega
      subst hk3
      go_wp2
      go_ret
      exact ⟨ret_int (by rw [HL.out]), hb1, hr1⟩

set_option maxHeartbeats 1000000 in
theorem num_out (rb : Nat) (s : Pk.RS) (n : Int) (w : World) (hr : Rd S w rb s) (hlen : s.l.length ≤ 100000000000000) (hn : n < 1 ∨ 8 < n) :
    Calls Try.prog 20 #[.pointer (some ⟨rb, 0, none⟩), .int .i64 n] w fun e w' => e = .returned (.int .u64 0) ∧ But w w' rb ∧ Rd S w' rb ⟨s.l, true⟩ := by
  rcases hn with hn | hn
  · go_enter Try.func20, Try.ntmps20
    go_wp2_with fail
    refine (take_bad rb s (-1) w hr (.inr (.inl (by omega)))).mono ?_
    rintro e w1 ⟨rfl, hb1, hr1⟩
    go_wp2
    refine wp_loop_rounds 1 ?_
    rw [rounds_succ]
    go_wp2
    go_ret
    exact ⟨rfl, hb1, hr1⟩
  · have hn1 : ¬ n < 1 := by omega
    go_enter Try.func20, Try.ntmps20
    go_wp2_with fail
    refine (take_bad rb s (-1) w hr (.inr (.inl (by omega)))).mono ?_
    rintro e w1 ⟨rfl, hb1, hr1⟩
    go_wp2
    refine wp_loop_rounds 1 ?_
    rw [rounds_succ]
    go_wp2
    go_ret
    exact ⟨rfl, hb1, hr1⟩

theorem num_any (rb : Nat) (s : Pk.RS) (n : Int) (w : World) (hr : Rd S w rb s) (hlen : s.l.length ≤ 100000000000000) :
    Calls Try.prog 20 #[.pointer (some ⟨rb, 0, none⟩), .int .i64 n] w fun e w' => e = .returned (.int .u64 (Pk.numN s n).1) ∧ But w w' rb ∧ Rd S w' rb (Pk.numN s n).2 := by
  by_cases hn : n < 1 ∨ 8 < n
  · unfold Pk.numN
    rw [if_pos hn]
    have ht : Pk.take s (-1) = ([], ⟨s.l, true⟩) := by
      unfold Pk.take
      rw [if_pos (.inr (.inl (by omega)))]
    rw [ht]
    exact num_out rb s n w hr hlen hn
  · unfold Pk.numN
    rw [if_neg hn]
    exact num_loop rb s n w hr hlen (by omega) (by omega)

set_option maxHeartbeats 1000000 in
theorem num_nil (w : World) :
    Calls Try.prog 20 #[.pointer none, .int .i64 1] w fun e w' => e = .returned (.int .u64 0) ∧ w = w' := by
  go_enter Try.func20, Try.ntmps20
  go_wp2_with fail
  refine (take_nil 1 w).mono ?_
  rintro e w1 ⟨rfl, rfl⟩
  go_wp2
  refine wp_loop_rounds 1 ?_
  rw [rounds_succ]
  go_wp2
  go_ret
  exact ⟨rfl, rfl⟩

theorem num_one_lt (s : Pk.RS) : (Pk.numN s 1).1 < 256 := by
  unfold Pk.numN Pk.take
  simp only [show ¬ ((1 : Int) < 1 ∨ 8 < (1 : Int)) by omega, if_false]
  split
  · show Pk.num [] < 256
    decide
  · rename_i h
    have h1 : 0 < s.l.length := by omega
    cases hl : s.l with
    | nil => rw [hl] at h1; cases h1
    | cons b l =>
      have := b.toNat_lt
      simp [Pk.num]
      omega

end Go.Proofs.Ythknhonpcmneaaa
