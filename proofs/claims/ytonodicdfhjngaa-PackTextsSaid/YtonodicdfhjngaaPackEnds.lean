/- The walk of PackEnds. -/
import Derived.Test.YtonodicdfhjngaaPackParts
import Derived.Test.YtonodicdfhjngaaOpen
namespace Go.Proofs.Ytonodicdfhjngaa
open Go.RowKit
attribute [local irreducible] Go.wpQuiet

theorem and7 (x : Int) : ∃ q : Nat, q < 8 ∧ Go.bits .and .i64 x 7 = (q : Int) := by
  have h : (BitVec.ofInt 64 x &&& 7#64).toNat ≤ 7 := by
    rw [BitVec.toNat_and]
    exact Nat.and_le_right
  refine ⟨(BitVec.ofInt 64 x &&& 7#64).toNat, by omega, ?_⟩
  show IntKind.i64.wrap (((BitVec.ofInt 64 x &&& BitVec.ofInt 64 7).toNat : Nat) : Int) = _
  rw [show (BitVec.ofInt 64 7 : BitVec 64) = 7#64 from rfl, IntKind.wrap_i64]
  omega

theorem take_bad_is (l : List UInt8) (n : Int) : Pk.take ⟨l, true⟩ n = ([], ⟨l, true⟩) := by
  unfold Pk.take
  rw [if_pos (.inl rfl)]
theorem numN_bad_is (l : List UInt8) : Pk.numN ⟨l, true⟩ 1 = (0, ⟨l, true⟩) := by
  unfold Pk.numN
  simp only [take_bad_is]
  rfl
theorem text_bad_is (l : List UInt8) : Pk.text ⟨l, true⟩ = ([], ⟨l, true⟩) := by
  unfold Pk.text
  simp only [numN_bad_is, take_bad_is]

theorem str_empty : strV [] = .string ⟨#[]⟩ := rfl

set_option maxHeartbeats 2000000 in
theorem packEnds_any (v : Value) (l : List UInt8) (n : Int) (ac : Option Addr) (nc cc : Nat) (w : World) (hv : SlB w v l) (hnc : nc ≤ maxLen) :
    Calls Try.prog 5 #[v, .int .i64 n, .slice ac nc cc] w fun e w' => e = .returned (.bool true) ∧ Keep w w' := by
  have hv0 := hv
  obtain ⟨a0, c0, rfl, hm, hcap, -⟩ := hv.form
  clear hv
  unfold maxLen at hm hnc
  obtain ⟨q, hq, hqe⟩ := and7 n
  by_cases hl : l.length ≤ 500
  rotate_left
  · have b1 : decide ((500 : Int) < (l.length : Int)) = true := decide_eq_true (by omega)
    go_enter Try.func5, Try.ntmps5
    go_wp2_with fail
    refine (fit_any w).mono ?_
    rintro e w1 ⟨rfl, hk1⟩
    go_wp2
    go_ret
    exact ⟨rfl, hk1⟩
  have b1 : decide ((500 : Int) < (l.length : Int)) = false := decide_eq_false (by omega)
  by_cases hn1 : nc ≤ 100
  rotate_left
  · have b2 : decide ((100 : Int) < (nc : Int)) = true := decide_eq_true (by omega)
    go_enter Try.func5, Try.ntmps5
    go_wp2_with fail
    refine (fit_any w).mono ?_
    rintro e w1 ⟨rfl, hk1⟩
    go_wp2
    go_ret
    exact ⟨rfl, hk1⟩
  have b2 : decide ((100 : Int) < (nc : Int)) = false := decide_eq_false (by omega)
  go_enter Try.func5, Try.ntmps5
  go_wp2_with fail
  refine (fit_any w).mono ?_
  rintro e w1 ⟨rfl, hk1⟩
  go_wp2_with fail
  refine (new_any _ l w1 (hv0.keep hk1)).mono ?_
  rintro e w2 ⟨rfl, hr2, hk2, -⟩
  go_wp2_with fail
  refine (take_bad _ _ _ w2 hr2 (.inr (.inr (by simp; omega)))).mono ?_
  rintro e w3 ⟨rfl, hb3, hr3⟩
  clear hr2 hqe
  simp only at hr3
  go_wp2_with fail
  refine (bad_any _ _ w3 hr3).mono ?_
  rintro e w' ⟨rfl, rfl⟩
  go_wp2_with fail
  refine (rest_any _ _ w3 hr3).mono ?_
  rintro e w' ⟨rfl, rfl⟩
  have hk3 : Keep w1 w3 := hk2.trans (hb3.below (Nat.le_refl _) hk2.size)
  have hz3 := hk3.size
  clear hb3 hk2 b1 b2
  obtain ⟨rb, hrb⟩ : ∃ rb, rb = w1.heap.size := ⟨_, rfl⟩
  unfold Keep at hk3
  rw [← hrb] at hr3 hk3 hz3 ⊢
  have HRB := Lib.hid hrb
  clear hrb
  go_wp2
  go_loopw [45] (fun i wr => ∃ j : Nat, j ≤ nc ∧ i = .int .i64 j ∧ Rd wr rb ⟨l, true⟩ ∧ Below rb w1 wr) (fun i _ => nc - (intOf i).toNat)
  case atStart => exact ⟨0, Nat.zero_le _, rfl, hr3, hk3⟩
  case round =>
    obtain ⟨j, hj, rfl, hr, hk⟩ := hrel
    clear hr3 hk3 hz3
    by_cases hjn : j < nc
    · have t4 := take_any rb ⟨l, true⟩ 0 wr hr (by simp; omega)
      rw [take_bad_is] at t4
      go_wp2_with fail
      refine t4.mono ?_
      rintro e w4 ⟨v4, rfl, ho4, hb4, hr4⟩
      clear t4 hr
      obtain ⟨a4, c4, rfl, -⟩ := ho4.slB.form
      clear ho4
      have t5 := num_any rb ⟨l, true⟩ 1 w4 hr4 (by simp; omega)
      rw [numN_bad_is] at t5
      go_wp2_with fail
      refine t5.mono ?_
      rintro e w5 ⟨rfl, hb5, hr5⟩
      clear t5 hr4
      have t6 := rtext_any rb ⟨l, true⟩ w5 hr5 (by simp; omega)
      rw [text_bad_is] at t6
      go_wp2_with fail
      refine t6.mono ?_
      rintro e w6 ⟨rfl, hb6, hr6⟩
      clear t6 hr5
      rw [str_empty]
      go_wp2_with fail
      refine (bad_any rb _ w6 hr6).mono ?_
      rintro e w' ⟨rfl, rfl⟩
      go_wp2_with fail
      refine (rest_any rb _ w6 hr6).mono ?_
      rintro e w' ⟨rfl, rfl⟩
      have hz := hk.size
      have hz1 : rb ≤ w1.heap.size := by rw [HRB.out]; exact Nat.le_refl _
      have hz4 := hb4.size
      have hz5 := hb5.size
      have hk6 : Below rb w1 w6 := hk.trans (((hb4.trans hb5).trans hb6).below (Nat.le_refl _) (by omega))
      clear hb4 hb5 hb6 hz hz1 hz4 hz5 hk
      go_wp2
      go_roundw
      case rel => exact ⟨j + 1, by omega, by go_num, hr6, hk6⟩
      case measure => simp [intOf]; omega
    · go_wp2
      go_ret
      exact ⟨rfl, hk1.trans (hk.mono (by rw [HRB.out]; exact hk1.size))⟩
end Go.Proofs.Ytonodicdfhjngaa
