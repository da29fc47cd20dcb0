/- The walks of package pack. -/
import Derived.Test.YthknhonpcmneaaaProg
import Derived.Test.YthknhonpcmneaaaMem
import Derived.Test.YthknhonpcmneaaaPackL
import Derived.Deep.Cut
import Derived.Test.YthknhonpcmneaaaElB
namespace Go.Proofs.Ythknhonpcmneaaa
open Go.RowKit
attribute [local irreducible] Go.wpQuiet


theorem be_snoc (x n k : Nat) (h : k < n) : (Pk.be x n).take (k + 1) = (Pk.be x n).take k ++ [UInt8.ofNat (x / 256 ^ (n - 1 - k) % 256)] := by
  induction n generalizing k with
  | zero => omega
  | succ n ih =>
    cases k with
    | zero => simp [Pk.be]
    | succ k =>
      rw [Pk.be, List.take_succ_cons, List.take_succ_cons, ih k (by omega), List.cons_append]
      rw [show n + 1 - 1 - (k + 1) = n - 1 - k by omega]

theorem shr_byte (x n k : Nat) (hk : k < n) (hn : n ≤ 8) (hx : x < 18446744073709551616) : (x : Int) / 2 ^ (8 * (n - 1 - k)) % 256 = ((UInt8.ofNat (x / 256 ^ (n - 1 - k) % 256)).toNat : Int) := by
  rw [UInt8.toNat_ofNat', Nat.mod_mod, show (256 : Nat) = 2 ^ 8 by rfl, ← Nat.pow_mul]
  simp

set_option maxHeartbeats 1000000 in
theorem put_any (v : Value) (l : List UInt8) (n : Nat) (x : Nat) (w : World) (hv : SlB w v l) (hn : n ≤ 8) (hx : x < 18446744073709551616) (hlen : l.length ≤ 100000000000000) :
    Calls Try.prog 17 #[v, .int .i64 n, .int .u64 x] w fun e w' => ∃ v', e = .returned v' ∧ Own w' w.heap.size 5 v' ((l ++ Pk.be x n).map B) ∧ Keep w w' := by
  obtain ⟨a0, n0, c0, rfl⟩ := hv.shape
  go_enter Try.func17, Try.ntmps17
  go_upto_region 1 with (fail)
  refine wp_region_seq ?_
  refine seqW_pure rfl ?_
  go_big_quiet_step (fail)
  refine seqW_on ?_
  refine seqW_gives (by kernel_rfl) ?_
  refine Gives.appendB (l := []) (k := l) elemB _ _ rfl rfl rfl (Own.nil w w.heap.size _) hv (by simp; omega) (Nat.le_refl _) ?_
  intro v1 w1 ho1 hgr
  have hgr1 : w.grownBy w1 none := hgr
  have hk1 : Keep w w1 := (Below.refl _ _).grown hgr1 (Nat.le_refl _) (fun j hj => by cases hj)
  clear hgr hgr1 hv
  rw [List.nil_append] at ho1
  simp only [Act.put, List.setIfInBounds_toArray, List.set_cons_zero, List.set_cons_succ]
  refine seqW_pure rfl ?_
  go_big_quiet_step (fail)
  refine seqW_on ?_
  refine seqW_done ?_
  go_wp2
  go_loopw [7, 8] (fun v i wr => ∃ j : Nat, j ≤ n ∧ i = .int .i64 ((n : Int) - 1 - j) ∧ Own wr w.heap.size 5 v ((l ++ (Pk.be x n).take j).map B) ∧ Keep w wr) (fun _ i _ => (intOf i + 1).toNat)
  case atStart => exact ⟨0, Nat.zero_le _, by simp, by simpa using ho1, hk1⟩
  case round =>
    obtain ⟨j, hj, rfl, ho, hk⟩ := hrel
    clear ho1 hk1
    by_cases hjn : j < n
    · go_upto_region 5 with (fail)
      refine wp_region_seq ?_
      iterate 6
        refine seqW_pure rfl ?_
        go_big_quiet_step (fail)
        refine seqW_on ?_
      rw [shr_byte x n j hjn hn hx]
      have hb := be_snoc x n j hjn
      generalize UInt8.ofNat (x / 256 ^ (n - 1 - j) % 256) = c at *
      refine seqW_gives (by kernel_rfl) ?_
      refine Gives.value (v := .slice (some ⟨wr.heap.size, 0, none⟩) 1 1) (w' := wr.alloc (.cells #[.int .u8 (c.toNat : Int)] 5)) (by go_simp) ?_
      simp only [Act.put, List.setIfInBounds_toArray, List.set_cons_zero, List.set_cons_succ]
      refine seqW_gives (by kernel_rfl) ?_
      refine Gives.appendB (l := l ++ (Pk.be x n).take j) (k := [c]) elemB _ _ rfl rfl rfl (ho.keep (Keep.alloc _ _)) (Sl.laid wr _ _ _ ([c].map B) 1 1 rfl rfl (by decide) (Nat.le_refl _)) (by simp; omega) (by have := hk.size; simp; omega) ?_
      intro v2 w2 ho2 hgr
      have hgr2 : (wr.alloc (.cells #[.int .u8 (c.toNat : Int)] 5)).grownBy w2 u7.ownBlock := hgr
      have hk2 : Keep w w2 := hk.trans (((Keep.alloc _ _).mono hk.size).trans ((ho.keep (Keep.alloc _ _)).below hgr2 (Nat.le_refl _) (by have := hk.size; simp; omega)))
      rw [List.append_assoc, ← hb] at ho2
      clear hgr hgr2 hb ho hk
      simp only [Act.put, List.setIfInBounds_toArray, List.set_cons_zero, List.set_cons_succ]
      refine seqW_pure rfl ?_
      go_big_quiet_step (fail)
      refine seqW_on ?_
      refine seqW_done ?_
      go_wp2
      go_roundw
      case rel => exact ⟨j + 1, by omega, by simp; omega, ho2, hk2⟩
      case measure => simp [intOf]; omega
    · have hj2 : j = n := by omega
      subst hj2
      go_wp2
      go_ret
      refine ⟨_, rfl, ?_, hk⟩
      rw [List.take_of_length_le (by rw [Pk.be_length]; exact Nat.le_refl _)] at ho
      exact ho

theorem be_one (x : Nat) (k : List UInt8) : Pk.be x 1 ++ k = UInt8.ofNat x :: k := by
  have : UInt8.ofNat (x % 256) = UInt8.ofNat x := UInt8.toNat_inj.1 (by simp)
  simp [Pk.be, this]

theorem put_at (v : Value) (l : List UInt8) (n : Nat) (x : Nat) (ni xi : Int) (w : World) (hni : ni = (n : Int)) (hxi : xi = (x : Int)) (hv : SlB w v l) (hn : n ≤ 8) (hx : x < 18446744073709551616) (hlen : l.length ≤ 100000000000000) :
    Calls Try.prog 17 #[v, .int .i64 ni, .int .u64 xi] w fun e w' => ∃ v', e = .returned v' ∧ Own w' w.heap.size 5 v' ((l ++ Pk.be x n).map B) ∧ Keep w w' := by
  subst hni hxi
  exact put_any v l n x w hv hn hx hlen

end Go.Proofs.Ythknhonpcmneaaa
