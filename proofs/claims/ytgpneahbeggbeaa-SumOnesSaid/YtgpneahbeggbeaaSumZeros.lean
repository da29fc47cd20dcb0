/- The walk of SumZeros. -/
import Derived.Test.YtgpneahbeggbeaaSumBits
import Derived.Test.YtgpneahbeggbeaaCrc2
import Derived.Test.YtgpneahbeggbeaaMem
import Derived.Deep.Cut
namespace Go.Proofs.Ytgpneahbeggbeaa
open Go.RowKit

theorem le_cn (c : BitVec 32) (i : Nat) (d : Int) (hd : d = 2 ^ (8 * i)) : cn c / d % 256 = ((Crc.le c i).toNat : Int) := by
  subst hd
  have h : (Crc.le c i).toNat = (c >>> (8 * i)).toNat % 256 := by
    unfold Crc.le
    rw [UInt8.toNat_ofNat']
    exact Nat.mod_mod _ _
  rw [h, BitVec.toNat_ushiftRight, Nat.shiftRight_eq_div_pow]
  unfold cn
  simp

def tailL (c : BitVec 32) : List UInt8 := [Crc.le c 0, Crc.le c 1, Crc.le c 2, Crc.le c 3]

theorem zeros_end (l : List UInt8) : Value.int .u32 (cn (Crc.sum ([l, tailL (Crc.sum l)] : List (List UInt8)).flatten)) = .int .u32 558161692 := by
  rw [show ([l, tailL (Crc.sum l)] : List (List UInt8)).flatten = l ++ tailL (Crc.sum l) by simp, tailL, Crc.sum_tail]
  unfold cn
  rw [BitVec.toNat_ofNat]
  congr 1

theorem tail_laid (w : World) (c : BitVec 32) : SlB (w.alloc (.cells #[.int .u8 (cn c % 256), .int .u8 (cn c / 256 % 256), .int .u8 (cn c / 65536 % 256), .int .u8 (cn c / 16777216)] 5)) (.slice (some ⟨w.heap.size, 0, none⟩) 4 4) (tailL c) := by
  have h0 := le_cn c 0 1 (by decide)
  have h1 := le_cn c 1 256 (by decide)
  have h2 := le_cn c 2 65536 (by decide)
  have h3 := le_cn c 3 16777216 (by decide)
  rw [Int.ediv_one] at h0
  have h3' : cn c / 16777216 = ((Crc.le c 3).toNat : Int) := by
    have := cn_lo c
    have := cn_hi c
    omega
  rw [h0, h1, h2, h3']
  exact Sl.laid w _ _ _ _ 4 4 rfl rfl (by decide) (Nat.le_refl _)

theorem cn_ne {c d : BitVec 32} (h : c ≠ d) : (cn c != cn d) = true := by
  rw [bne_iff_ne]
  exact fun he => h (cn_inj.1 he)

theorem lit_parts (W : World) (n : Int) (b : UInt8) (hn : n = (b.toNat : Int)) (v : Value) (l : List UInt8) (hv : SlB W v l) : SlBB ((W.alloc (.cells #[.int .u8 n] 5)).alloc (.cells #[v, .slice (some ⟨W.heap.size, 0, none⟩) 1 1] 22)) (.slice (some ⟨W.heap.size + 1, 0, none⟩) 2 2) [l, [b]] := by
  subst hn
  exact two_parts 22 (heap_new _ _ _ (by simp)) (hv.keep ((Keep.alloc _ _).trans' (Keep.alloc _ _))) (SlB.keep (Keep.alloc _ _) (Sl.laid W #[.int .u8 (b.toNat : Int)] 5 (0, 0) ([b].map B) 1 1 rfl rfl (by decide) (Nat.le_refl _)))

set_option maxHeartbeats 1000000 in
theorem sumZeros_any (v : Value) (l : List UInt8) (w : World) (hv : SlB w v l) :
    Calls Try.prog 5 #[v] w fun e w' => e = .returned (.bool true) ∧ Keep w w' := by
  have hv0 := hv
  obtain ⟨ao, cap, rfl, hm, hcap, hc⟩ := hv.form
  clear hv hc
  unfold maxLen at hm
  go_enter Try.func5, Try.ntmps5
  go_wp2_with fail
  refine (fit_any _).mono ?_
  rintro e w1 ⟨rfl, hk1⟩
  by_cases hl : l.length ≤ 300
  · go_wp2_with fail
    refine (of_any _ _ _ (one_part 22 (heap_alloc_new w1 _) (hv0.keep (hk1.trans' (Keep.alloc _ _))))).mono ?_
    rintro e w' ⟨rfl, rfl⟩
    rw [show ([l] : List (List UInt8)).flatten = l by simp]
    have hend := zeros_end l
    have hlo := cn_lo (Crc.sum l)
    have hhi := cn_hi (Crc.sum l)
    have hne := cn_ne (Crc.sum_other l 1 0 (by decide))
    go_wp2_with fail
    have htl := tail_laid (w1.alloc (.cells #[.slice ao l.length cap] 22)) (Crc.sum l)
    have hk3 : Keep w1 ((w1.alloc (.cells #[.slice ao l.length cap] 22)).alloc (.cells #[.int .u8 (cn (Crc.sum l) % 256), .int .u8 (cn (Crc.sum l) / 256 % 256), .int .u8 (cn (Crc.sum l) / 65536 % 256), .int .u8 (cn (Crc.sum l) / 16777216)] 5)) := (Keep.alloc _ _).trans' (Keep.alloc _ _)
    have htl' : SlB ((w1.alloc (.cells #[.slice ao l.length cap] 22)).alloc (.cells #[.int .u8 (cn (Crc.sum l) % 256), .int .u8 (cn (Crc.sum l) / 256 % 256), .int .u8 (cn (Crc.sum l) / 65536 % 256), .int .u8 (cn (Crc.sum l) / 16777216)] 5)) (.slice (some ⟨w1.heap.size + 1, 0, none⟩) 4 4) (tailL (Crc.sum l)) := by
      have := htl
      rwa [World.size_alloc] at this
    have hS : w1.heap.size + 1 + 1 = ((w1.alloc (.cells #[.slice ao l.length cap] 22)).alloc (.cells #[.int .u8 (cn (Crc.sum l) % 256), .int .u8 (cn (Crc.sum l) / 256 % 256), .int .u8 (cn (Crc.sum l) / 65536 % 256), .int .u8 (cn (Crc.sum l) / 16777216)] 5)).heap.size := by simp
    generalize ((w1.alloc (.cells #[.slice ao l.length cap] 22)).alloc (.cells #[.int .u8 (cn (Crc.sum l) % 256), .int .u8 (cn (Crc.sum l) / 256 % 256), .int .u8 (cn (Crc.sum l) / 65536 % 256), .int .u8 (cn (Crc.sum l) / 16777216)] 5)) = W at *
    refine (of_any _ [l, tailL (Crc.sum l)] _ (two_parts (g := w1.heap.size + 1 + 1) 22 (heap_new W _ _ hS) (hv0.keep ((hk1.trans' hk3).trans' (Keep.alloc _ _))) (htl'.keep (Keep.alloc _ _)))).mono ?_
    rintro e w' ⟨rfl, rfl⟩
    rw [hend]
    clear htl htl' hend
    generalize hW2 : W.alloc (.cells #[.slice ao l.length cap, .slice (some ⟨w1.heap.size + 1, 0, none⟩) 4 4] 22) = W2
    have hk4 : Keep w1 W2 := hW2 ▸ hk3.trans' (Keep.alloc _ _)
    clear hW2 hS hk3
    go_wp2_with fail
    refine (of_any _ _ _ (lit_parts W2 1 1 (by decide) _ _ (hv0.keep (hk1.trans' hk4)))).mono ?_
    rintro e w' ⟨rfl, rfl⟩
    rw [show ([l, [1]] : List (List UInt8)).flatten = l ++ [1] by simp]
    generalize hW3 : (W2.alloc (.cells #[.int .u8 1] 5)).alloc (.cells #[.slice ao l.length cap, .slice (some ⟨W2.heap.size, 0, none⟩) 1 1] 22) = W3
    have hk5 : Keep w1 W3 := hW3 ▸ hk4.trans' ((Keep.alloc _ _).trans' (Keep.alloc _ _))
    clear hW3
    go_wp2_with fail
    refine (of_any _ _ _ (lit_parts W3 0 0 (by decide) _ _ (hv0.keep (hk1.trans' hk5)))).mono ?_
    rintro e w' ⟨rfl, rfl⟩
    rw [show ([l, [0]] : List (List UInt8)).flatten = l ++ [0] by simp]
    go_wp2
    go_ret
    exact ⟨rfl, hk1.trans' (hk5.trans' ((Keep.alloc _ _).trans' (Keep.alloc _ _)))⟩
  · go_wp2
    go_ret
    exact ⟨rfl, hk1⟩
end Go.Proofs.Ytgpneahbeggbeaa
