/- The walk of the law's example. -/
import Derived.Test.YtgpneahbeggbeaaOf
import Derived.Lib.SlBytesConst
namespace Go.Proofs.Ytgpneahbeggbeaa
open Go.RowKit

theorem fit_sum : Crc.sum [49, 50, 51, 52, 53, 54, 55, 56, 57] = 0xCBF43926#32 := by decide +kernel

theorem fit_cn : cn (Crc.sum ([[49, 50, 51, 52, 53, 54, 55, 56, 57]] : List (List UInt8)).flatten) = 3421780262 := by
  rw [show ([[49, 50, 51, 52, 53, 54, 55, 56, 57]] : List (List UInt8)).flatten = [49, 50, 51, 52, 53, 54, 55, 56, 57] from rfl, fit_sum]
  unfold cn
  rw [BitVec.toNat_ofNat]
  omega

theorem fit_parts (w : World) : SlBB ((w.alloc (.cells #[.int .u8 49, .int .u8 50, .int .u8 51, .int .u8 52, .int .u8 53, .int .u8 54, .int .u8 55, .int .u8 56, .int .u8 57] 5 (9, 10))).alloc
    (.cells #[.slice (some ⟨w.heap.size, 0, none⟩) 9 9] 22)) (.slice (some ⟨w.heap.size + 1, 0, none⟩) 1 1) [[49, 50, 51, 52, 53, 54, 55, 56, 57]] := by
  refine ⟨[.slice (some ⟨w.heap.size, 0, none⟩) 9 9], ?_, rfl, ?_⟩
  · exact Sl.of_block (cur := #[.slice (some ⟨w.heap.size, 0, none⟩) 9 9]) (e := 22) (fr := (0, 0)) (by have := heap_alloc_new (w.alloc (.cells #[.int .u8 49, .int .u8 50, .int .u8 51, .int .u8 52, .int .u8 53, .int .u8 54, .int .u8 55, .int .u8 56, .int .u8 57] 5 (9, 10))) (.cells #[.slice (some ⟨w.heap.size, 0, none⟩) 9 9] 22); simpa using this) _ 1 1 rfl rfl (by decide) (Nat.le_refl _)
  · intro i h1 h2
    have hi : i = 0 := by simp at h1; omega
    subst hi
    exact SlB.keep (Keep.alloc _ _) (Sl.laid w _ _ _ _ 9 9 rfl rfl (by decide) (Nat.le_refl _))

set_option maxHeartbeats 1000000 in
theorem fit_any (w : World) :
    Calls Try.prog 8 #[] w fun e w' => e = .returned (.bool true) ∧ Keep w w' := by
  have kc := fun (w : World) (C : Array Value) (n c : Nat) => Lib.run_convert_bytes_const (P := Try.prog) w 22 5 C n c Try.underlying22 Try.underlying5
  go_enter Try.func8, Try.ntmps8
  go_wp2_with fail
  refine (of_any _ _ _ (fit_parts w)).mono ?_
  rintro e w' ⟨rfl, rfl⟩
  rw [fit_cn]
  go_wp2
  go_ret
  exact ⟨rfl, (Keep.alloc _ _).trans' (Keep.alloc _ _)⟩
end Go.Proofs.Ytgpneahbeggbeaa
