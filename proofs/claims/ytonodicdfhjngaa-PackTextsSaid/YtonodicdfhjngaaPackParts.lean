/- The walk of PackParts. -/
import Derived.Test.YtonodicdfhjngaaFit02
namespace Go.Proofs.Ytonodicdfhjngaa
open Go.RowKit
attribute [local irreducible] Go.wpQuiet

theorem and3 (x : Int) : ∃ q : Nat, q < 4 ∧ Go.bits .and .i64 x 3 = (q : Int) := by
  have h : (BitVec.ofInt 64 x &&& 3#64).toNat ≤ 3 := by
    rw [BitVec.toNat_and]
    exact Nat.and_le_right
  refine ⟨(BitVec.ofInt 64 x &&& 3#64).toNat, by omega, ?_⟩
  show IntKind.i64.wrap (((BitVec.ofInt 64 x &&& BitVec.ofInt 64 3).toNat : Nat) : Int) = _
  rw [show (BitVec.ofInt 64 3 : BitVec 64) = 3#64 from rfl, IntKind.wrap_i64]
  omega

theorem join_parts (A C W q : Nat) (hq : q ≤ 7) (hC : C < 256 ^ q) (hW : A * 256 ^ q + C = W) (hlt : W < 18446744073709551616) :
    (Go.bits .or .u64 (IntKind.u64.wrap ((A : Int) * 2 ^ (8 * q))) (C : Int) == (W : Int)) = true := by
  have hw : ∀ z : Int, IntKind.u64.wrap z = z % 18446744073709551616 := fun z => by simp [IntKind.wrap, IntKind.bits, IntKind.signed]
  have h256 : (2 : Nat) ^ (8 * q) = 256 ^ q := by rw [Nat.pow_mul]
  have hcast : ((A : Int) * 2 ^ (8 * q)) = ((A * 2 ^ (8 * q) : Nat) : Int) := by simp
  have hX : A * 2 ^ (8 * q) < 18446744073709551616 := by rw [h256]; omega
  rw [hcast, hw, Int.emod_eq_of_lt (by omega) (by omega)]
  have h := bits_join .u64 64 (by decide) (fun n h0 h1 => by rw [hw]; omega) (8 * q) ((A * 2 ^ (8 * q) : Nat) : Int) (C : Int) (by omega) (by
      have : (A * 2 ^ (8 * q)) % 2 ^ (8 * q) = 0 := Nat.mul_mod_left _ _
      exact_mod_cast this) (by have : A * 2 ^ (8 * q) < 2 ^ 64 := hX; exact_mod_cast this) (by omega) (by
      have : C < 2 ^ (8 * q) := by rw [h256]; exact hC
      exact_mod_cast this) (by
      have : C < 2 ^ 64 := by omega
      exact_mod_cast this)
  rw [h, beq_iff_eq]
  rw [h256]
  omega

set_option maxHeartbeats 1000000 in
theorem packParts_any (x : Nat) (n m : Int) (w : World) (hx : x < 18446744073709551616) :
    Calls Try.prog 3 #[.int .u64 x, .int .i64 n, .int .i64 m] w fun e w' => e = .returned (.bool true) ∧ Keep w w' := by
  obtain ⟨a, ha, hae⟩ := and3 n
  obtain ⟨c, hc, hce⟩ := and3 m
  go_enter Try.func3, Try.ntmps3
  go_wp2_with fail
  refine (fit_any w).mono ?_
  rintro e w1 ⟨rfl, hk1⟩
  go_wp2_with fail
  clear hae hce
  refine (put_at _ [] (a + 1 + (c + 1)) x _ _ w1 (by simp) rfl (SlB.nil w1) (by omega) hx (by simp)).mono ?_
  rintro e w2 ⟨v2, rfl, ho2, hk2⟩
  rw [List.nil_append] at ho2
  have hlen := Pk.be_length x (a + 1 + (c + 1))
  obtain ⟨g, c2, rfl, -, -⟩ := ho2.head (by rw [List.length_map, hlen]; omega)
  rw [List.length_map, hlen] at ho2 ⊢
  go_wp2_with fail
  refine (new_any _ _ w2 ho2.slB).mono ?_
  rintro e w3 ⟨rfl, hr3, hk3, hz3⟩
  go_wp2_with fail
  refine (new_any _ _ w3 (ho2.slB.keep hk3)).mono ?_
  rintro e w4 ⟨rfl, hs4, hk4, _⟩
  have hr4 : Rd w4 w2.heap.size ⟨Pk.be (x / 256 ^ (c + 1)) (a + 1) ++ Pk.be x (c + 1), false⟩ := by
    have := hr3.keep hk4
    rw [Pk.be_add] at this
    exact this
  clear ho2 hr3
  have hlt23 : w2.heap.size < w3.heap.size := by omega
  clear hz3
  go_wp2_with fail
  refine (num_any _ _ _ w4 hr4 (by simp [Pk.be_length]; omega)).mono ?_
  rintro e w5 ⟨rfl, hb5, hr5⟩
  rw [Pk.numN_front _ _ _ (by simp [Pk.be_length]) (by simp [Pk.be_length]) (by simp [Pk.be_length]; omega)] at hr5 ⊢
  rw [Pk.num_be _ _ (by omega)]
  simp only at hr5
  generalize hA : x / 256 ^ (c + 1) % 256 ^ (a + 1) = A
  have HA := Lib.hid hA
  clear hA
  have hs5 := hs4.but hb5 hr4 (by omega)
  clear hr4 hs4
  go_wp2_with fail
  have hr5' : Rd w5 w2.heap.size ⟨Pk.be x (c + 1) ++ [], false⟩ := by rw [List.append_nil]; exact hr5
  refine (num_any _ _ _ w5 hr5' (by simp [Pk.be_length]; omega)).mono ?_
  rintro e w6 ⟨rfl, hb6, hr6⟩
  rw [Pk.numN_front _ _ _ (by simp [Pk.be_length]) (by simp [Pk.be_length]) (by simp [Pk.be_length]; omega)] at hr6 ⊢
  rw [Pk.num_be _ _ (by omega)]
  simp only at hr6
  generalize hCe : x % 256 ^ (c + 1) = C
  have HCe := Lib.hid hCe
  clear hCe
  have hs6 := hs5.but hb6 hr5 (by omega)
  clear hr5 hr5' hs5
  have hC : C < 256 ^ (c + 1) := by rw [← HCe.out]; exact Nat.mod_lt _ (Nat.pos_of_ne_zero (by simp))
  have hW := Pk.parts x (a + 1) (c + 1)
  rw [HA.out, HCe.out] at hW
  have hWlt : x % 256 ^ (a + 1 + (c + 1)) < 18446744073709551616 := Nat.lt_of_le_of_lt (Nat.mod_le _ _) hx
  have hs6' : Rd w6 w3.heap.size ⟨Pk.be x (a + 1 + (c + 1)) ++ [], false⟩ := by rw [List.append_nil]; exact hs6
  have h3 := num_any _ _ ((a : Int) + 1 + (c + 1)) w6 hs6' (by simp [Pk.be_length]; omega)
  rw [Pk.numN_front _ _ _ (by simp [Pk.be_length]) (by simp [Pk.be_length]; omega) (by simp [Pk.be_length]; omega), Pk.num_be _ _ (by omega)] at h3
  generalize x % 256 ^ (a + 1 + (c + 1)) = W at *
  have hj := join_parts A C W (c + 1) (by omega) hC hW hWlt
  have hCl : C < 18446744073709551616 := by omega
  have hAl : A < 18446744073709551616 := by
    have : A * 1 ≤ A * 256 ^ (c + 1) := Nat.mul_le_mul_left _ (Nat.pos_of_ne_zero (by simp))
    omega
  have H3 := Lib.hid h3
  clear h3 hC
  have HW := Lib.hid hW
  clear hW
  go_wp2_with fail
  refine H3.out.mono ?_
  rintro e w7 ⟨rfl, hb7, hs7⟩
  have hr7 := hr6.but hb7 hs6 (by omega)
  clear hs6 hs6' hr6
  go_wp2_with fail
  refine (rest_any _ _ w7 hr7).mono ?_
  rintro e w' ⟨rfl, rfl⟩
  go_wp2_with fail
  refine (rest_any _ _ w7 hs7).mono ?_
  rintro e w' ⟨rfl, rfl⟩
  have hz2 := hk2.size
  have hz3 := hk3.size
  have hz4 := hk4.size
  have hz5 := hb5.size
  have hz6 := hb6.size
  have hk : Keep w1 w7 := ((((hk2.trans' hk3).trans' hk4).trans (hb5.below hz2 (by omega))).trans (hb6.below hz2 (by omega))).trans (hb7.below (by omega) (by omega))
  clear hz2 hz3 hz4 hz5 hz6 hk2 hk3 hk4 hb5 hb6 hb7
  go_wp2
  go_ret
  exact ⟨rfl, hk1.trans' hk⟩
end Go.Proofs.Ytonodicdfhjngaa
