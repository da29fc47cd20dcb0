/- The walk of SumBits. -/
import Derived.Test.YtgpneahbeggbeaaFit01
import Derived.Deep.RegionWith
import Derived.Deep.RegionHeld3
import Derived.Deep.RegionLaw
import Derived.Deep.QuietTactic
import Derived.BigQuiet
namespace Go.Proofs.Ytgpneahbeggbeaa
open Go.RowKit

theorem tmod_bounds (c : Int) (n : Nat) : -(n : Int) ≤ c.tmod ((n : Int) + 1) ∧ c.tmod ((n : Int) + 1) ≤ n := by
  have h1 := Int.tmod_lt_of_pos c (show (0 : Int) < (n : Int) + 1 by omega)
  have h2 := Int.tmod_lt_of_pos (-c) (show (0 : Int) < (n : Int) + 1 by omega)
  rw [Int.neg_tmod] at h2
  omega

theorem tV_eq {v u : Value} {w : World} (h : v = u) : (tV u).φ v w := h

theorem zero_cn : Value.int .u32 (cn (Crc.sum [])) = .int .u32 0 := by
  rw [show Crc.sum [] = 0#32 by decide]; rfl

set_option maxHeartbeats 1000000 in
theorem sumBits_any (v : Value) (l : List UInt8) (cut : Int) (hcut : -9223372036854775808 ≤ cut ∧ cut ≤ 9223372036854775807) (w : World) (hv : SlB w v l) :
    Calls Try.prog 3 #[v, .int .i64 cut] w fun e w' => e = .returned (.bool true) ∧ Keep w w' := by
  have hv0 := hv
  obtain ⟨ao, cap, rfl, hm, hcap, hc⟩ := hv.form
  clear hv
  unfold maxLen at hm
  have htm := tmod_bounds cut l.length
  obtain ⟨t1, t2⟩ := htm
  go_enter Try.func3, Try.ntmps3
  go_wp2_with fail
  refine (fit_any _).mono ?_
  rintro e w1 ⟨rfl, hk1⟩
  by_cases hl : l.length ≤ 500
  · have hg0 : 0 ≤ (cut.tmod (l.length + 1) + l.length + 1) % ((l.length : Int) + 1) := Int.emod_nonneg _ (by omega)
    have hg1 : (cut.tmod (l.length + 1) + l.length + 1) % ((l.length : Int) + 1) < (l.length : Int) + 1 := Int.emod_lt_of_pos _ (by omega)
    go_wp2
    obtain ⟨k, hk⟩ := Int.eq_ofNat_of_zero_le hg0
    rw [hk] at hg1 ⊢
    clear hk hg0 t1 t2 hc
    have hk2 : k ≤ l.length := by omega
    have hkc : k ≤ cap := by omega
    clear hg1
    refine wp_region_dag' (C := fun w' => Keep w1 w') (R := Keep) [none, some (tBB [l]), some (tV (.int .u32 (cn (Crc.sum l)))), none, some (tV (.int .u32 (cn (Crc.sum l)))), none, none, none, none, some (tB (l.take k)), none, none, some (tB (l.drop k)), some (tBB [l.take k, l.drop k]),
      some (tV (.int .u32 (cn (Crc.sum l)))), none, some (tV (.int .u32 (cn (Crc.sum l)))), none, none, none, none, some (tBB [[], l, []]), some (tV (.int .u32 (cn (Crc.sum l)))), none, some (tV (.int .u32 (cn (Crc.sum l)))), none, none, none, some (tV (.int .u32 0)), none, none, none]
      (by kernel_rfl) (by kernel_rfl) (Keep.refl w1).drew ?_
    refine dagT_pure rfl ?_
    go_big_quiet_step (fail)
    refine dagT_on ?_
    refine dagT_told rfl ?_ ?_
    · intro w2 hC hF
      refine Gives.value (v := .slice (some ⟨w2.heap.size, 0, none⟩) 1 1) (w' := w2.alloc (.cells #[.slice ao l.length cap] 22)) (by go_simp) ?_
      exact ⟨hC.trans' (Keep.alloc _ _), Keep.alloc _ _, one_part 22 (heap_alloc_new w2 _) (hv0.keep (hk1.trans' (hC.trans' (Keep.alloc _ _))))⟩
    intro p1 w2 hC hF hp1
    clear hC hF
    simp only [Act.put, List.setIfInBounds_toArray, List.set_cons_zero, List.set_cons_succ]
    refine dagT_told rfl ?_ ?_
    · intro w2 hC hF
      refine Gives.call (by go_simp) (of_any _ _ _ ((hF 1 (by kernel_rfl)).1 rfl)) ?_
      rintro e w' ⟨rfl, rfl⟩
      exact ⟨_, rfl, hC, Keep.refl _, tV_eq (by simp)⟩
    intro v w2 hC hF hv
    clear hC hF
    simp only [Act.put, List.setIfInBounds_toArray, List.set_cons_zero, List.set_cons_succ]
    obtain rfl := hv
    refine dagT_pure rfl ?_
    go_big_quiet_step (fail)
    refine dagT_on ?_
    refine dagT_told rfl ?_ ?_
    · intro w2 hC hF
      refine Gives.call (by go_simp) (law_of_any _ _ _ (hv0.keep (hk1.trans' hC))) ?_
      rintro e w' ⟨rfl, rfl⟩
      exact ⟨_, rfl, hC, Keep.refl _, rfl⟩
    intro v w2 hC hF hv
    clear hC hF
    simp only [Act.put, List.setIfInBounds_toArray, List.set_cons_zero, List.set_cons_succ]
    obtain rfl := hv
    refine dagT_pure rfl ?_
    go_big_quiet_step (fail)
    refine dagT_on ?_
    refine dagT_pure rfl ?_
    go_big_quiet_step (fail)
    refine dagT_on ?_
    refine dagT_pure rfl ?_
    go_big_quiet_step (fail)
    refine dagT_on ?_
    refine dagT_pure rfl ?_
    go_big_quiet_step (fail)
    refine dagT_on ?_
    refine dagT_told rfl ?_ ?_
    · intro w2 hC hF
      refine Gives.value (v := sliced ao 0 k cap 1) (w' := w2) (by go_simp) ?_
      exact ⟨hC, Keep.refl _, (hv0.upto k hk2).keep (hk1.trans' hC)⟩
    intro s1 w2 hC hF hs1
    clear hC hF
    simp only [Act.put, List.setIfInBounds_toArray, List.set_cons_zero, List.set_cons_succ]
    obtain ⟨a1, n1, c1, rfl⟩ := SlB.shape hs1
    refine dagT_pure rfl ?_
    go_big_quiet_step (fail)
    refine dagT_on ?_
    refine dagT_pure rfl ?_
    go_big_quiet_step (fail)
    refine dagT_on ?_
    refine dagT_told rfl ?_ ?_
    · intro w2 hC hF
      refine Gives.value (v := sliced ao k l.length cap 1) (w' := w2) (by go_simp) ?_
      exact ⟨hC, Keep.refl _, (hv0.from k hk2).keep (hk1.trans' hC)⟩
    intro s2 w2 hC hF hs2
    clear hC hF
    simp only [Act.put, List.setIfInBounds_toArray, List.set_cons_zero, List.set_cons_succ]
    obtain ⟨a2, n2, c2, rfl⟩ := SlB.shape hs2
    refine dagT_told rfl ?_ ?_
    · intro w2 hC hF
      refine Gives.value (v := .slice (some ⟨w2.heap.size, 0, none⟩) 2 2) (w' := w2.alloc (.cells #[.slice a1 n1 c1, .slice a2 n2 c2] 22)) (by go_simp) ?_
      exact ⟨hC.trans' (Keep.alloc _ _), Keep.alloc _ _, two_parts 22 (heap_alloc_new w2 _) (SlB.keep (Keep.alloc _ _) ((hF 9 (by kernel_rfl)).2.1 rfl)) (SlB.keep (Keep.alloc _ _) ((hF 12 (by kernel_rfl)).1 rfl))⟩
    intro p2 w2 hC hF hp2
    clear hC hF
    simp only [Act.put, List.setIfInBounds_toArray, List.set_cons_zero, List.set_cons_succ]
    refine dagT_told rfl ?_ ?_
    · intro w2 hC hF
      refine Gives.call (by go_simp) (of_any _ _ _ ((hF 13 (by kernel_rfl)).1 rfl)) ?_
      rintro e w' ⟨rfl, rfl⟩
      exact ⟨_, rfl, hC, Keep.refl _, tV_eq (by simp)⟩
    intro v w2 hC hF hv
    clear hC hF
    simp only [Act.put, List.setIfInBounds_toArray, List.set_cons_zero, List.set_cons_succ]
    obtain rfl := hv
    refine dagT_pure rfl ?_
    go_big_quiet_step (fail)
    refine dagT_on ?_
    refine dagT_told rfl ?_ ?_
    · intro w2 hC hF
      refine Gives.call (by go_simp) (law_of_any _ _ _ (hv0.keep (hk1.trans' hC))) ?_
      rintro e w' ⟨rfl, rfl⟩
      exact ⟨_, rfl, hC, Keep.refl _, rfl⟩
    intro v w2 hC hF hv
    clear hC hF
    simp only [Act.put, List.setIfInBounds_toArray, List.set_cons_zero, List.set_cons_succ]
    obtain rfl := hv
    refine dagT_pure rfl ?_
    go_big_quiet_step (fail)
    refine dagT_on ?_
    refine dagT_pure rfl ?_
    go_big_quiet_step (fail)
    refine dagT_on ?_
    refine dagT_pure rfl ?_
    go_big_quiet_step (fail)
    refine dagT_on ?_
    refine dagT_pure rfl ?_
    go_big_quiet_step (fail)
    refine dagT_on ?_
    refine dagT_told rfl ?_ ?_
    · intro w2 hC hF
      refine Gives.value (v := .slice (some ⟨w2.heap.size, 0, none⟩) 3 3) (w' := w2.alloc (.cells #[.slice none 0 0, .slice ao l.length cap, .slice none 0 0] 22)) (by go_simp) ?_
      exact ⟨hC.trans' (Keep.alloc _ _), Keep.alloc _ _, three_parts 22 (heap_alloc_new w2 _) (SlB.nil _) (hv0.keep (hk1.trans' (hC.trans' (Keep.alloc _ _)))) (SlB.nil _)⟩
    intro p3 w2 hC hF hp3
    clear hC hF
    simp only [Act.put, List.setIfInBounds_toArray, List.set_cons_zero, List.set_cons_succ]
    refine dagT_told rfl ?_ ?_
    · intro w2 hC hF
      refine Gives.call (by go_simp) (of_any _ _ _ ((hF 21 (by kernel_rfl)).1 rfl)) ?_
      rintro e w' ⟨rfl, rfl⟩
      exact ⟨_, rfl, hC, Keep.refl _, tV_eq (by simp)⟩
    intro v w2 hC hF hv
    clear hC hF
    simp only [Act.put, List.setIfInBounds_toArray, List.set_cons_zero, List.set_cons_succ]
    obtain rfl := hv
    refine dagT_pure rfl ?_
    go_big_quiet_step (fail)
    refine dagT_on ?_
    refine dagT_told rfl ?_ ?_
    · intro w2 hC hF
      refine Gives.call (by go_simp) (law_of_any _ _ _ (hv0.keep (hk1.trans' hC))) ?_
      rintro e w' ⟨rfl, rfl⟩
      exact ⟨_, rfl, hC, Keep.refl _, rfl⟩
    intro v w2 hC hF hv
    clear hC hF
    simp only [Act.put, List.setIfInBounds_toArray, List.set_cons_zero, List.set_cons_succ]
    obtain rfl := hv
    refine dagT_pure rfl ?_
    go_big_quiet_step (fail)
    refine dagT_on ?_
    refine dagT_pure rfl ?_
    go_big_quiet_step (fail)
    refine dagT_on ?_
    refine dagT_pure rfl ?_
    go_big_quiet_step (fail)
    refine dagT_on ?_
    refine dagT_told rfl ?_ ?_
    · intro w2 hC hF
      refine Gives.call (by go_simp) (of_any _ _ _ (no_parts _)) ?_
      rintro e w' ⟨rfl, rfl⟩
      exact ⟨_, rfl, hC, Keep.refl _, tV_eq (by rw [show ([] : List (List UInt8)).flatten = [] from rfl]; exact zero_cn)⟩
    intro v w2 hC hF hv
    clear hC hF
    simp only [Act.put, List.setIfInBounds_toArray, List.set_cons_zero, List.set_cons_succ]
    obtain rfl := hv
    refine dagT_pure rfl ?_
    go_big_quiet_step (fail)
    refine dagT_on ?_
    refine dagT_pure rfl ?_
    go_big_quiet_step (fail)
    refine dagT_on ?_
    refine dagT_pure rfl ?_
    go_big_quiet_step (fail)
    refine dagT_on ?_
    refine dagT_done ?_
    intro w2 hC hF
    go_wp2
    go_ret
    exact ⟨rfl, hk1.trans' hC⟩
  · go_wp2
    go_ret
    exact ⟨rfl, hk1⟩
end Go.Proofs.Ytgpneahbeggbeaa
