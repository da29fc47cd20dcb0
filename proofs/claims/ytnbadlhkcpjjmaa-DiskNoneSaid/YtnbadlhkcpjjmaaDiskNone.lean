/- The walk of DiskNone. -/
import Derived.Test.YtnbadlhkcpjjmaaFit03
namespace Go.Proofs.Ytnbadlhkcpjjmaa
open Go Go.RowKit
attribute [local irreducible] Go.wpQuiet

theorem read_nil (r s : Int) (w : World) : Calls Try.prog 15 #[.pointer none, .int .i64 r, .int .i64 s] w fun e w' => e = .returned (.tuple #[.slice none 0 0, .int .i64 1]) ∧ w = w' := by
  go_enter Try.func15, Try.ntmps15
  go_wp2_with fail
  refine (at_nil r s w).mono ?_
  rintro e w' ⟨rfl, rfl⟩
  go_wp2
  exact bodyPost_ret (v := .tuple #[.slice none 0 0, .int .i64 1]) (by simp [results, Try.results15, go_sem]) rfl ⟨rfl, rfl⟩
theorem arm_nil (r n : Int) (w : World) : Calls Try.prog 19 #[.pointer none, .int .i64 r, .int .i64 n] w fun e w' => e = .returned (.tuple #[]) ∧ w = w' := by
  go_enter Try.func19, Try.ntmps19
  go_wp2_with fail
  refine (at_nil r 0 w).mono ?_
  rintro e w' ⟨rfl, rfl⟩
  go_wp2
  exact Go.Great.bodyPost_end0 rfl rfl ⟨rfl, rfl⟩
theorem write_nil (r s : Int) (v : Value) (w : World) : Calls Try.prog 13 #[.pointer none, .int .i64 r, .int .i64 s, .slice none 0 0] w fun e w' => e = .returned (.int .i64 1) ∧ w = w' := by
  go_enter Try.func13, Try.ntmps13
  go_wp2_with fail
  refine (at_nil r s w).mono ?_
  rintro e w' ⟨rfl, rfl⟩
  go_wp2
  go_ret
  exact ⟨rfl, rfl⟩
theorem barrier_nil (r : Int) (w : World) : Calls Try.prog 16 #[.pointer none, .int .i64 r] w fun e w' => e = .returned (.int .i64 1) ∧ w = w' := by
  go_enter Try.func16, Try.ntmps16
  go_wp2_with fail
  refine (at_nil r 0 w).mono ?_
  rintro e w' ⟨rfl, rfl⟩
  go_wp2
  go_ret
  exact ⟨rfl, rfl⟩
set_option maxRecDepth 100000 in
set_option maxHeartbeats 8000000 in
theorem diskNone_any (n s : Int) (w : World) (hn : -9223372036854775808 ≤ n ∧ n ≤ 9223372036854775807) (hs : -9223372036854775808 ≤ s ∧ s ≤ 9223372036854775807) : Calls Try.prog 10 #[.int .i64 n, .int .i64 s] w fun e w' => e = .returned (.bool true) ∧ Keep w w' := by
  go_enter Try.func10, Try.ntmps10
  go_wp2_with fail
  refine (fit_any w).mono ?_
  rintro e w1 ⟨rfl, k1⟩
  go_wp2_with fail
  generalize n.tmod 70 = N
  clear hn
  by_cases hN1 : N < 1
  · refine (new_bad N 3 w1 (.inl hN1)).mono ?_
    rintro e w9 ⟨rfl, rfl⟩
    by_cases hs3 : 100 ≤ s
    · go_wp2_with fail
      refine (new_bad 1 65537 w1 (by decide)).mono ?_
      rintro e w9 ⟨rfl, rfl⟩
      go_wp2_with fail
      refine (read_nil 0 0 w1).mono ?_
      rintro e w9 ⟨rfl, rfl⟩
      go_wp2_with fail
      refine (arm_nil 0 1 w1).mono ?_
      rintro e w9 ⟨rfl, rfl⟩
      go_wp2_with fail
      refine (crash_nil 1 w1).mono ?_
      rintro e w9 ⟨rfl, rfl⟩
      go_wp2_with fail
      refine (write_nil 0 0 (.slice none 0 0) w1).mono ?_
      rintro e w9 ⟨rfl, rfl⟩
      go_wp2_with fail
      refine (barrier_nil 0 w1).mono ?_
      rintro e w9 ⟨rfl, rfl⟩
      go_wp2_with fail
      refine (down_nil 0 w1).mono ?_
      rintro e w9 ⟨rfl, rfl⟩
      go_wp2_with fail
      refine (waits_nil 0 w1).mono ?_
      rintro e w9 ⟨rfl, rfl⟩
      go_wp2_with fail
      refine (writes_nil w1).mono ?_
      rintro e w9 ⟨rfl, rfl⟩
      go_wp2
      go_ret
      exact ⟨rfl, k1⟩
    by_cases hs1 : s < 1
    · go_wp2_with fail
      refine (new_bad 1 s w1 (.inr (.inr (.inl hs1)))).mono ?_
      rintro e w9 ⟨rfl, rfl⟩
      go_wp2_with fail
      refine (new_bad 1 65537 w1 (by decide)).mono ?_
      rintro e w9 ⟨rfl, rfl⟩
      go_wp2_with fail
      refine (read_nil 0 0 w1).mono ?_
      rintro e w9 ⟨rfl, rfl⟩
      go_wp2_with fail
      refine (arm_nil 0 1 w1).mono ?_
      rintro e w9 ⟨rfl, rfl⟩
      go_wp2_with fail
      refine (crash_nil 1 w1).mono ?_
      rintro e w9 ⟨rfl, rfl⟩
      go_wp2_with fail
      refine (write_nil 0 0 (.slice none 0 0) w1).mono ?_
      rintro e w9 ⟨rfl, rfl⟩
      go_wp2_with fail
      refine (barrier_nil 0 w1).mono ?_
      rintro e w9 ⟨rfl, rfl⟩
      go_wp2_with fail
      refine (down_nil 0 w1).mono ?_
      rintro e w9 ⟨rfl, rfl⟩
      go_wp2_with fail
      refine (waits_nil 0 w1).mono ?_
      rintro e w9 ⟨rfl, rfl⟩
      go_wp2_with fail
      refine (writes_nil w1).mono ?_
      rintro e w9 ⟨rfl, rfl⟩
      go_wp2
      go_ret
      exact ⟨rfl, k1⟩
    obtain ⟨z, rfl⟩ := Int.eq_ofNat_of_zero_le (show 0 ≤ s by omega)
    go_wp2_with fail
    refine (new_any 1 z w1 (by decide) (by decide) (by omega) (by omega)).mono ?_
    rintro e w8 ⟨p8, rfl, -, k8⟩
    go_wp2_with fail
    refine (new_bad 1 65537 w8 (by decide)).mono ?_
    rintro e w9 ⟨rfl, rfl⟩
    go_wp2_with fail
    refine (read_nil 0 0 w8).mono ?_
    rintro e w9 ⟨rfl, rfl⟩
    go_wp2_with fail
    refine (arm_nil 0 1 w8).mono ?_
    rintro e w9 ⟨rfl, rfl⟩
    go_wp2_with fail
    refine (crash_nil 1 w8).mono ?_
    rintro e w9 ⟨rfl, rfl⟩
    go_wp2_with fail
    refine (write_nil 0 0 (.slice none 0 0) w8).mono ?_
    rintro e w9 ⟨rfl, rfl⟩
    go_wp2_with fail
    refine (barrier_nil 0 w8).mono ?_
    rintro e w9 ⟨rfl, rfl⟩
    go_wp2_with fail
    refine (down_nil 0 w8).mono ?_
    rintro e w9 ⟨rfl, rfl⟩
    go_wp2_with fail
    refine (waits_nil 0 w8).mono ?_
    rintro e w9 ⟨rfl, rfl⟩
    go_wp2_with fail
    refine (writes_nil w8).mono ?_
    rintro e w9 ⟨rfl, rfl⟩
    go_wp2
    go_ret
    exact ⟨rfl, Keep.trans' (k1) k8⟩
  by_cases hN2 : 64 < N
  · refine (new_bad N 3 w1 (.inr (.inl hN2))).mono ?_
    rintro e w9 ⟨rfl, rfl⟩
    by_cases hs3 : 100 ≤ s
    · go_wp2_with fail
      refine (new_bad 1 65537 w1 (by decide)).mono ?_
      rintro e w9 ⟨rfl, rfl⟩
      go_wp2_with fail
      refine (read_nil 0 0 w1).mono ?_
      rintro e w9 ⟨rfl, rfl⟩
      go_wp2_with fail
      refine (arm_nil 0 1 w1).mono ?_
      rintro e w9 ⟨rfl, rfl⟩
      go_wp2_with fail
      refine (crash_nil 1 w1).mono ?_
      rintro e w9 ⟨rfl, rfl⟩
      go_wp2_with fail
      refine (write_nil 0 0 (.slice none 0 0) w1).mono ?_
      rintro e w9 ⟨rfl, rfl⟩
      go_wp2_with fail
      refine (barrier_nil 0 w1).mono ?_
      rintro e w9 ⟨rfl, rfl⟩
      go_wp2_with fail
      refine (down_nil 0 w1).mono ?_
      rintro e w9 ⟨rfl, rfl⟩
      go_wp2_with fail
      refine (waits_nil 0 w1).mono ?_
      rintro e w9 ⟨rfl, rfl⟩
      go_wp2_with fail
      refine (writes_nil w1).mono ?_
      rintro e w9 ⟨rfl, rfl⟩
      go_wp2
      go_ret
      exact ⟨rfl, k1⟩
    by_cases hs1 : s < 1
    · go_wp2_with fail
      refine (new_bad 1 s w1 (.inr (.inr (.inl hs1)))).mono ?_
      rintro e w9 ⟨rfl, rfl⟩
      go_wp2_with fail
      refine (new_bad 1 65537 w1 (by decide)).mono ?_
      rintro e w9 ⟨rfl, rfl⟩
      go_wp2_with fail
      refine (read_nil 0 0 w1).mono ?_
      rintro e w9 ⟨rfl, rfl⟩
      go_wp2_with fail
      refine (arm_nil 0 1 w1).mono ?_
      rintro e w9 ⟨rfl, rfl⟩
      go_wp2_with fail
      refine (crash_nil 1 w1).mono ?_
      rintro e w9 ⟨rfl, rfl⟩
      go_wp2_with fail
      refine (write_nil 0 0 (.slice none 0 0) w1).mono ?_
      rintro e w9 ⟨rfl, rfl⟩
      go_wp2_with fail
      refine (barrier_nil 0 w1).mono ?_
      rintro e w9 ⟨rfl, rfl⟩
      go_wp2_with fail
      refine (down_nil 0 w1).mono ?_
      rintro e w9 ⟨rfl, rfl⟩
      go_wp2_with fail
      refine (waits_nil 0 w1).mono ?_
      rintro e w9 ⟨rfl, rfl⟩
      go_wp2_with fail
      refine (writes_nil w1).mono ?_
      rintro e w9 ⟨rfl, rfl⟩
      go_wp2
      go_ret
      exact ⟨rfl, k1⟩
    obtain ⟨z, rfl⟩ := Int.eq_ofNat_of_zero_le (show 0 ≤ s by omega)
    go_wp2_with fail
    refine (new_any 1 z w1 (by decide) (by decide) (by omega) (by omega)).mono ?_
    rintro e w8 ⟨p8, rfl, -, k8⟩
    go_wp2_with fail
    refine (new_bad 1 65537 w8 (by decide)).mono ?_
    rintro e w9 ⟨rfl, rfl⟩
    go_wp2_with fail
    refine (read_nil 0 0 w8).mono ?_
    rintro e w9 ⟨rfl, rfl⟩
    go_wp2_with fail
    refine (arm_nil 0 1 w8).mono ?_
    rintro e w9 ⟨rfl, rfl⟩
    go_wp2_with fail
    refine (crash_nil 1 w8).mono ?_
    rintro e w9 ⟨rfl, rfl⟩
    go_wp2_with fail
    refine (write_nil 0 0 (.slice none 0 0) w8).mono ?_
    rintro e w9 ⟨rfl, rfl⟩
    go_wp2_with fail
    refine (barrier_nil 0 w8).mono ?_
    rintro e w9 ⟨rfl, rfl⟩
    go_wp2_with fail
    refine (down_nil 0 w8).mono ?_
    rintro e w9 ⟨rfl, rfl⟩
    go_wp2_with fail
    refine (waits_nil 0 w8).mono ?_
    rintro e w9 ⟨rfl, rfl⟩
    go_wp2_with fail
    refine (writes_nil w8).mono ?_
    rintro e w9 ⟨rfl, rfl⟩
    go_wp2
    go_ret
    exact ⟨rfl, Keep.trans' (k1) k8⟩
  obtain ⟨m, rfl⟩ := Int.eq_ofNat_of_zero_le (show 0 ≤ N by omega)
  refine (new_any m 3 w1 (by omega) (by omega) (by decide) (by decide)).mono ?_
  rintro e w2 ⟨p2, rfl, -, k2⟩
  by_cases hs3 : 100 ≤ s
  · go_wp2_with fail
    refine (new_bad 1 65537 w2 (by decide)).mono ?_
    rintro e w9 ⟨rfl, rfl⟩
    go_wp2_with fail
    refine (read_nil 0 0 w2).mono ?_
    rintro e w9 ⟨rfl, rfl⟩
    go_wp2_with fail
    refine (arm_nil 0 1 w2).mono ?_
    rintro e w9 ⟨rfl, rfl⟩
    go_wp2_with fail
    refine (crash_nil 1 w2).mono ?_
    rintro e w9 ⟨rfl, rfl⟩
    go_wp2_with fail
    refine (write_nil 0 0 (.slice none 0 0) w2).mono ?_
    rintro e w9 ⟨rfl, rfl⟩
    go_wp2_with fail
    refine (barrier_nil 0 w2).mono ?_
    rintro e w9 ⟨rfl, rfl⟩
    go_wp2_with fail
    refine (down_nil 0 w2).mono ?_
    rintro e w9 ⟨rfl, rfl⟩
    go_wp2_with fail
    refine (waits_nil 0 w2).mono ?_
    rintro e w9 ⟨rfl, rfl⟩
    go_wp2_with fail
    refine (writes_nil w2).mono ?_
    rintro e w9 ⟨rfl, rfl⟩
    go_wp2
    go_ret
    exact ⟨rfl, k1.trans' k2⟩
  by_cases hs1 : s < 1
  · go_wp2_with fail
    refine (new_bad 1 s w2 (.inr (.inr (.inl hs1)))).mono ?_
    rintro e w9 ⟨rfl, rfl⟩
    go_wp2_with fail
    refine (new_bad 1 65537 w2 (by decide)).mono ?_
    rintro e w9 ⟨rfl, rfl⟩
    go_wp2_with fail
    refine (read_nil 0 0 w2).mono ?_
    rintro e w9 ⟨rfl, rfl⟩
    go_wp2_with fail
    refine (arm_nil 0 1 w2).mono ?_
    rintro e w9 ⟨rfl, rfl⟩
    go_wp2_with fail
    refine (crash_nil 1 w2).mono ?_
    rintro e w9 ⟨rfl, rfl⟩
    go_wp2_with fail
    refine (write_nil 0 0 (.slice none 0 0) w2).mono ?_
    rintro e w9 ⟨rfl, rfl⟩
    go_wp2_with fail
    refine (barrier_nil 0 w2).mono ?_
    rintro e w9 ⟨rfl, rfl⟩
    go_wp2_with fail
    refine (down_nil 0 w2).mono ?_
    rintro e w9 ⟨rfl, rfl⟩
    go_wp2_with fail
    refine (waits_nil 0 w2).mono ?_
    rintro e w9 ⟨rfl, rfl⟩
    go_wp2_with fail
    refine (writes_nil w2).mono ?_
    rintro e w9 ⟨rfl, rfl⟩
    go_wp2
    go_ret
    exact ⟨rfl, k1.trans' k2⟩
  obtain ⟨z, rfl⟩ := Int.eq_ofNat_of_zero_le (show 0 ≤ s by omega)
  go_wp2_with fail
  refine (new_any 1 z w2 (by decide) (by decide) (by omega) (by omega)).mono ?_
  rintro e w8 ⟨p8, rfl, -, k8⟩
  go_wp2_with fail
  refine (new_bad 1 65537 w8 (by decide)).mono ?_
  rintro e w9 ⟨rfl, rfl⟩
  go_wp2_with fail
  refine (read_nil 0 0 w8).mono ?_
  rintro e w9 ⟨rfl, rfl⟩
  go_wp2_with fail
  refine (arm_nil 0 1 w8).mono ?_
  rintro e w9 ⟨rfl, rfl⟩
  go_wp2_with fail
  refine (crash_nil 1 w8).mono ?_
  rintro e w9 ⟨rfl, rfl⟩
  go_wp2_with fail
  refine (write_nil 0 0 (.slice none 0 0) w8).mono ?_
  rintro e w9 ⟨rfl, rfl⟩
  go_wp2_with fail
  refine (barrier_nil 0 w8).mono ?_
  rintro e w9 ⟨rfl, rfl⟩
  go_wp2_with fail
  refine (down_nil 0 w8).mono ?_
  rintro e w9 ⟨rfl, rfl⟩
  go_wp2_with fail
  refine (waits_nil 0 w8).mono ?_
  rintro e w9 ⟨rfl, rfl⟩
  go_wp2_with fail
  refine (writes_nil w8).mono ?_
  rintro e w9 ⟨rfl, rfl⟩
  go_wp2
  go_ret
  exact ⟨rfl, Keep.trans' (k1.trans' k2) k8⟩
end Go.Proofs.Ytnbadlhkcpjjmaa
