/- The closure of PackReads: it takes as the document's reader does. -/
import Derived.Test.YtonodicdfhjngaaReader
import Derived.Test.YtonodicdfhjngaaFit02
namespace Go.Proofs.Ytonodicdfhjngaa
open Go Go.RowKit
attribute [local irreducible] Go.wpQuiet

/-- what the closure has: block gb: has it failed; gv: the bytes; ga: how many are taken -/
structure Cl (w : World) (gb gv ga : Nat) (sb : Value) (l : List UInt8) (at' : Nat) (bad : Bool) : Prop where
  hb : w.heap[gb]? = some (.cells #[.bool bad] 4)
  hv : w.heap[gv]? = some (.cells #[sb] 24)
  ha : w.heap[ga]? = some (.cells #[.int .i64 at'] 3)
  hs : SlB w sb l
  hl : at' ≤ l.length

theorem cell_one {w : World} {g : Nat} {u : Value} {t : TypeId} (h : w.heap[g]? = some (.cells #[u] t)) : w.cell? ⟨g, 0, none⟩ = some u ∧ w.frozen? ⟨g, 0, none⟩ = false := by
  unfold World.cell? World.frozen?
  simp [h]
theorem heap_one {w : World} {g : Nat} {u : Value} {t : TypeId} (h : w.heap[g]? = some (.cells #[u] t)) (x : Value) : (w.setCell ⟨g, 0, none⟩ x).heap[g]? = some (.cells #[x] t) := by
  simp [World.setCell, Array.getElem?_modify, h]
theorem heap_far {w : World} {g k : Nat} (hne : k ≠ g) (x : Value) : (w.setCell ⟨g, 0, none⟩ x).heap[k]? = w.heap[k]? := Below.heap_setCell w ⟨g, 0, none⟩ x k hne

theorem Rd.cellSet {w : World} {rb g : Nat} {s : Pk.RS} (h : Rd w rb s) (hne : rb ≠ g) {u : Value} (hp : w.cell? ⟨g, 0, none⟩ = some u) (hu : ∀ b : UInt8, u ≠ B b) (x : Value) : Rd (w.setCell ⟨g, 0, none⟩ x) rb s := by
  obtain ⟨v, hh, hv⟩ := h
  exact ⟨v, (heap_far hne x).trans hh, hv.setCell hp hu x⟩

theorem Cl.setBad {w : World} {gb gv ga : Nat} {sb : Value} {l : List UInt8} {at' : Nat} {bad : Bool} (h : Cl w gb gv ga sb l at' bad) (h1 : gb ≠ gv) (h2 : gb ≠ ga) (x : Bool) : Cl (w.setCell ⟨gb, 0, none⟩ (.bool x)) gb gv ga sb l at' x :=
  ⟨heap_one h.hb _, (heap_far h1.symm _).trans h.hv, (heap_far h2.symm _).trans h.ha, h.hs.setCell (cell_one h.hb).1 (fun b => by unfold B; simp) _, h.hl⟩
theorem Cl.setAt {w : World} {gb gv ga : Nat} {sb : Value} {l : List UInt8} {at' : Nat} {bad : Bool} (h : Cl w gb gv ga sb l at' bad) (h1 : ga ≠ gv) (h2 : gb ≠ ga) (k : Nat) (hk : k ≤ l.length) : Cl (w.setCell ⟨ga, 0, none⟩ (.int .i64 k)) gb gv ga sb l k bad :=
  ⟨(heap_far h2 _).trans h.hb, (heap_far h1.symm _).trans h.hv, heap_one h.ha _, h.hs.setCell (cell_one h.ha).1 (fun b => by unfold B; simp) _, hk⟩

/-- what the closure leaves alone -/
structure ClBut (w w' : World) (gb ga : Nat) : Prop where
  size : w'.heap.size = w.heap.size
  below : ∀ B, B ≤ gb → B ≤ ga → Below B w w'
  block : ∀ k, k ≠ gb → k ≠ ga → w'.heap[k]? = w.heap[k]?
  rd : ∀ rb s, rb ≠ gb → rb ≠ ga → Rd w rb s → Rd w' rb s

set_option maxHeartbeats 2000000 in
theorem take_cl (gb gv ga : Nat) (sb : Value) (l : List UInt8) (at' : Nat) (bad : Bool) (n : Int) (w : World) (hc : Cl w gb gv ga sb l at' bad) (h1 : gb ≠ gv) (h2 : gb ≠ ga) (h3 : ga ≠ gv) (hlen : l.length ≤ 1000) (hn : n ≤ 9223372036854775807) :
    Calls Try.prog 13 #[.int .i64 n, .pointer (some ⟨gb, 0, none⟩), .pointer (some ⟨gv, 0, none⟩), .pointer (some ⟨ga, 0, none⟩)] w fun e w' =>
      e = .returned (strV (Pk.take ⟨l.drop at', bad⟩ n).1) ∧ ∃ at2 bad2, Cl w' gb gv ga sb l at2 bad2 ∧ (Pk.take ⟨l.drop at', bad⟩ n).2 = ⟨l.drop at2, bad2⟩ ∧ ClBut w w' gb ga := by
  obtain ⟨c0, f0⟩ := cell_one hc.hb
  obtain ⟨c1, f1⟩ := cell_one hc.hv
  obtain ⟨c2, f2⟩ := cell_one hc.ha
  have hs0 := hc.hs
  obtain ⟨a0, cap, rfl, hm, hcap, -⟩ := hc.hs.form
  have HC := Lib.hid hc
  have hle := hc.hl
  clear hc
  by_cases hf : bad = true ∨ n < 0 ∨ ((l.drop at').length : Int) < n
  · have hT : Pk.take ⟨l.drop at', bad⟩ n = ([], ⟨l.drop at', true⟩) := by unfold Pk.take; rw [if_pos hf]
    rw [hT]
    have fin : Cl (w.setCell ⟨gb, 0, none⟩ (.bool true)) gb gv ga (.slice a0 l.length cap) l at' true ∧ ClBut w (w.setCell ⟨gb, 0, none⟩ (.bool true)) gb ga :=
      ⟨HC.out.setBad h1 h2 true, by simp [World.setCell], fun B hB _ => Keep.setCell (Below.refl _ _) hB _, fun k hk _ => heap_far hk _, fun rb s hne _ hr => hr.cellSet hne c0 (fun b => by unfold B; simp) _⟩
    have d0 := World.cell?_setCell_same w ⟨gb, 0, none⟩ (.bool true) c0
    suffices h : Calls Try.prog 13 #[.int .i64 n, .pointer (some ⟨gb, 0, none⟩), .pointer (some ⟨gv, 0, none⟩), .pointer (some ⟨ga, 0, none⟩)] w fun e w' => e = .returned (strV []) ∧ w' = w.setCell ⟨gb, 0, none⟩ (.bool true) from
      h.mono fun e w' ⟨he, hw⟩ => ⟨he, at', true, by rw [hw]; exact fin.1, rfl, by rw [hw]; exact fin.2⟩
    clear hT fin
    rw [List.length_drop] at hf
    go_enter Try.func13, Try.ntmps13
    cases bad
    · by_cases hneg : n < 0
      · have t1 : decide (n < 0) = true := decide_eq_true hneg
        go_wp2
        go_ret
        exact ⟨rfl, rfl⟩
      · have t1 : decide (n < 0) = false := decide_eq_false hneg
        have t2 : decide ((l.length : Int) - (at' : Int) < n) = true := decide_eq_true (by simp at hf; omega)
        go_wp2
        go_ret
        exact ⟨rfl, rfl⟩
    · go_wp2
      go_ret
      exact ⟨rfl, rfl⟩
  · have hT : Pk.take ⟨l.drop at', bad⟩ n = ((l.drop at').take n.toNat, ⟨(l.drop at').drop n.toNat, false⟩) := by unfold Pk.take; rw [if_neg hf]
    rw [hT]
    simp only [not_or, Bool.not_eq_true, Int.not_lt, List.length_drop] at hf
    obtain ⟨rfl, hf1, hf2⟩ := hf
    obtain ⟨k, rfl⟩ := Int.eq_ofNat_of_zero_le hf1
    have hk : k ≤ l.length - at' := by omega
    rw [Int.toNat_natCast, List.drop_drop]
    have hb2 : Cl (w.setCell ⟨gb, 0, none⟩ (.bool false)) gb gv ga (.slice a0 l.length cap) l at' false := HC.out.setBad h1 h2 false
    have hb3 := hb2.setAt h3 h2 (at' + k) (by omega)
    have hB : ClBut w ((w.setCell ⟨gb, 0, none⟩ (.bool false)).setCell ⟨ga, 0, none⟩ (.int .i64 ((at' + k : Nat) : Int))) gb ga :=
      ⟨by simp [World.setCell], fun B hB hA => Keep.setCell (Keep.setCell (Below.refl _ _) hB _) hA _, fun k hk hk2 => (heap_far hk2 _).trans (heap_far hk _), fun rb s hne hne2 hr => (hr.cellSet hne c0 (fun b => by unfold B; simp) _).cellSet hne2 (cell_one hb2.ha).1 (fun b => by unfold B; simp) _⟩
    have hS := hb3.hs.cut at' (at' + k) (by omega) (by omega)
    rw [Nat.add_sub_cancel_left] at hS
    have d0 := World.cell?_setCell_same w ⟨gb, 0, none⟩ (.bool false) c0
    obtain ⟨e1, g1⟩ := cell_one hb2.hv
    obtain ⟨e2, g2⟩ := cell_one hb2.ha
    obtain ⟨x1, y1⟩ := cell_one hb3.hv
    obtain ⟨x2, y2⟩ := cell_one hb3.ha
    suffices h : Calls Try.prog 13 #[.int .i64 k, .pointer (some ⟨gb, 0, none⟩), .pointer (some ⟨gv, 0, none⟩), .pointer (some ⟨ga, 0, none⟩)] w fun e w' => e = .returned (strV ((l.drop at').take k)) ∧ w' = (w.setCell ⟨gb, 0, none⟩ (.bool false)).setCell ⟨ga, 0, none⟩ (.int .i64 ((at' + k : Nat) : Int)) from
      h.mono fun e w' ⟨he, hw⟩ => ⟨he, at' + k, false, by rw [hw]; exact hb3, rfl, by rw [hw]; exact hB⟩
    have HS := Lib.hid hS
    clear hT hS hb2 hb3 hB
    have t1 : decide ((k : Int) < 0) = false := decide_eq_false (by omega)
    have t2 : decide ((l.length : Int) - (at' : Int) < (k : Int)) = false := decide_eq_false (by omega)
    rw [Int.natCast_add] at *
    go_enter Try.func13, Try.ntmps13
    go_upto_region 5 with (fail)
    generalize hWe : (w.setCell ⟨gb, 0, none⟩ (.bool false)).setCell ⟨ga, 0, none⟩ (.int .i64 ((at' : Int) + (k : Int))) = W at *
    have HW := Lib.hid hWe
    clear hWe
    refine wp_region_seq ?_
    refine seqW_gives (by kernel_rfl) ?_
    refine Gives.value (v := .slice a0 l.length cap) (w' := W) (by go_simp) ?_
    simp only [Act.put, List.setIfInBounds_toArray, List.set_cons_zero, List.set_cons_succ]
    refine seqW_gives (by kernel_rfl) ?_
    refine Gives.value (v := .int .i64 ((at' : Int) + (k : Int))) (w' := W) (by go_simp) ?_
    simp only [Act.put, List.setIfInBounds_toArray, List.set_cons_zero, List.set_cons_succ]
    refine seqW_pure rfl ?_
    go_big_quiet_step (fail)
    refine seqW_on ?_
    refine seqW_gives (by kernel_rfl) ?_
    refine Gives.value (v := .int .i64 (at' : Int)) (w' := W) (by go_simp; rw [IntKind.wrap_i64]; omega) ?_
    simp only [Act.put, List.setIfInBounds_toArray, List.set_cons_zero, List.set_cons_succ]
    refine seqW_gives (by kernel_rfl) ?_
    refine Gives.value (v := .int .i64 ((at' : Int) + (k : Int))) (w' := W) (by go_simp) ?_
    simp only [Act.put, List.setIfInBounds_toArray, List.set_cons_zero, List.set_cons_succ]
    refine seqW_gives (by kernel_rfl) ?_
    refine Gives.value (v := sliced a0 at' (at' + k) cap 1) (w' := W) (by go_simp; rw [if_pos ⟨by omega, by omega⟩, if_pos (by omega), show ((at' : Int) + (k : Int)).toNat = at' + k by omega, Nat.add_sub_cancel_left]) ?_
    simp only [Act.put, List.setIfInBounds_toArray, List.set_cons_zero, List.set_cons_succ]
    refine seqW_gives (by kernel_rfl) ?_
    refine Gives.toStr Try.underlying24 Try.underlying5 Try.underlying9 _ rfl rfl HS.out ?_
    simp only [Act.put, List.setIfInBounds_toArray, List.set_cons_zero, List.set_cons_succ]
    refine seqW_pure rfl ?_
    go_big_quiet_step (fail)
    refine seqW_on ?_
    refine seqW_done ?_
    go_wp2
    go_ret
    exact ⟨rfl, HW.out.symm⟩
end Go.Proofs.Ytonodicdfhjngaa
