/- The walk of PackBack. -/
import Derived.Test.YtonodicdfhjngaaPackEnds
namespace Go.Proofs.Ytonodicdfhjngaa
open Go.RowKit
attribute [local irreducible] Go.wpQuiet

theorem text_front (a b : List UInt8) (h : a.length ≤ 255) : Pk.text ⟨UInt8.ofNat a.length :: (a ++ b), false⟩ = (a, ⟨b, false⟩) := by
  have h1 : Pk.numN ⟨UInt8.ofNat a.length :: (a ++ b), false⟩ 1 = (a.length, ⟨a ++ b, false⟩) := by
    have := Pk.numN_front [UInt8.ofNat a.length] (a ++ b) 1 rfl (by simp) (by simp)
    rw [show Pk.num [UInt8.ofNat a.length] = a.length by
      rw [Pk.num_cons _ _ (by simp)]
      simp [Pk.num]
      omega] at this
    exact this
  unfold Pk.text
  simp only [h1]
  exact Pk.take_front a b _ rfl

theorem mask_low (x j : Nat) (hj : j ≤ 7) (hx : x < 18446744073709551616) : Go.bits .and .u64 (x : Int) (IntKind.u64.wrap (IntKind.u64.wrap (2 ^ (8 * j)) - 1)) = ((x % 256 ^ j : Nat) : Int) := by
  have hw : ∀ z : Int, IntKind.u64.wrap z = z % 18446744073709551616 := fun z => by simp [IntKind.wrap, IntKind.bits, IntKind.signed]
  have hp : (2 : Nat) ^ (8 * j) ≤ 2 ^ 56 := Nat.pow_le_pow_right (by decide) (by omega)
  have hp1 : 0 < (2 : Nat) ^ (8 * j) := Nat.two_pow_pos _
  have hcast : ((2 : Int) ^ (8 * j)) = ((2 ^ (8 * j) : Nat) : Int) := by simp
  have h1 : IntKind.u64.wrap (IntKind.u64.wrap (2 ^ (8 * j)) - 1) = 2 ^ (8 * j) - 1 := by
    rw [hw, hw, hcast]
    generalize 2 ^ (8 * j) = p at *
    omega
  rw [h1]
  have h := bits_mask .u64 64 (by decide) (fun n h0 h1 => by rw [hw]; omega) (8 * j) (by omega) (x : Int) (by omega) (by omega)
  rw [h, hcast, show (256 : Nat) ^ j = 2 ^ (8 * j) by rw [Nat.pow_mul]]
  simp

set_option maxRecDepth 100000 in
set_option maxHeartbeats 2000000 in
theorem packBack_any (v : Value) (l : List UInt8) (x : Nat) (s : List UInt8) (w : World) (hv : SlB w v l) (hx : x < 18446744073709551616) (hs : s.length ≤ 9223372036854775807) :
    Calls Try.prog 6 #[v, .int .u64 x, strV s] w fun e w' => e = .returned (.bool true) ∧ Keep w w' := by
  have hv0 := hv
  obtain ⟨a0, c0, rfl, hm, hcap, -⟩ := hv.form
  clear hv
  unfold maxLen at hm
  have hsz := size_str s
  unfold strV
  by_cases hl : l.length ≤ 200
  rotate_left
  · have b1 : decide ((200 : Int) < (l.length : Int)) = true := decide_eq_true (by omega)
    go_enter Try.func6, Try.ntmps6
    go_wp2_with fail
    refine (fit_any w).mono ?_
    rintro e w1 ⟨rfl, hk1⟩
    go_wp2
    go_ret
    exact ⟨rfl, hk1⟩
  have b1 : decide ((200 : Int) < (l.length : Int)) = false := decide_eq_false (by omega)
  by_cases hs1 : s.length ≤ 255
  rotate_left
  · have b2 : decide ((255 : Int) < (s.length : Int)) = true := decide_eq_true (by omega)
    go_enter Try.func6, Try.ntmps6
    go_wp2_with fail
    refine (fit_any w).mono ?_
    rintro e w1 ⟨rfl, hk1⟩
    go_wp2
    go_ret
    exact ⟨rfl, hk1⟩
  have b2 : decide ((255 : Int) < (s.length : Int)) = false := decide_eq_false (by omega)
  go_enter Try.func6, Try.ntmps6
  go_wp2_with fail
  refine (fit_any w).mono ?_
  rintro e w1 ⟨rfl, hk1⟩
  have hto := run_toString (P := Try.prog) Try.underlying24 Try.underlying5 Try.underlying9 (hv0.keep hk1)
  unfold strV at hto
  go_wp2
  clear hto
  obtain ⟨rb, hrb⟩ : ∃ rb, rb = w1.heap.size := ⟨_, rfl⟩
  have HRB := Lib.hid hrb
  clear hrb b1 b2
  go_loopw [8] (fun i wr => ∃ j : Nat, 1 ≤ j ∧ j ≤ 9 ∧ i = .int .i64 j ∧ Below w1.heap.size w1 wr) (fun i _ => 9 - (intOf i).toNat)
  case atStart => exact ⟨1, by omega, by omega, rfl, Below.refl _ _⟩
  case round =>
    obtain ⟨j, hj1, hj, rfl, hk⟩ := hrel
    by_cases hjn : j ≤ 8
    · have hvr := hv0.keep (Keep.trans' hk1 hk)
      go_wp2_with fail
      refine (put_any _ l j x wr hvr hjn hx (by omega)).mono ?_
      rintro e w2 ⟨v2, rfl, ho2, hk2⟩
      go_wp2_with fail
      refine (text_any v2 _ s w2 ho2.slB (by omega) (by simp [Pk.be_length]; omega)).mono ?_
      rintro e w3 ⟨v3, rfl, ho3, hk3⟩
      clear ho2
      have hlen3 : (l ++ Pk.be x j ++ UInt8.ofNat s.length :: s).length = l.length + j + 1 + s.length := by simp [Pk.be_length]; omega
      obtain ⟨g3, c3, rfl, -, -⟩ := ho3.head (by rw [List.length_map, hlen3]; omega)
      rw [List.length_map, hlen3] at ho3 ⊢
      go_wp2_with fail
      refine (new_any _ _ w3 ho3.slB).mono ?_
      rintro e w4 ⟨rfl, hr4, hk4, -⟩
      have hk5 : Below w1.heap.size w1 w4 := Keep.trans' hk (Keep.trans' (Keep.trans' hk2 hk3) hk4)
      have hz4 := hk5.size
      have hz3 : w1.heap.size ≤ w3.heap.size := (Keep.trans' hk (Keep.trans' hk2 hk3)).size
      clear ho3 hlen3 hk2 hk3 hk4 hk hvr
      generalize w3.heap.size = rd at *
      have hr4' : Rd w4 rd ⟨l ++ (Pk.be x j ++ UInt8.ofNat s.length :: s), false⟩ := by rw [← List.append_assoc]; exact hr4
      have t5 := take_any rd _ l.length w4 hr4' (by simp [Pk.be_length]; omega)
      rw [Pk.take_front l _ _ rfl] at t5
      have T5 := Lib.hid t5
      clear t5 hr4'
      by_cases hj8 : j < 8
      · have hmask := mask_low x j (by omega) hx
        have hwl : x % 256 ^ j < 18446744073709551616 := Nat.lt_of_le_of_lt (Nat.mod_le _ _) hx
        have NUM : ∀ W, Rd W rd ⟨Pk.be x j ++ (UInt8.ofNat s.length :: s), false⟩ → Calls Try.prog 11 #[.pointer (some ⟨rd, 0, none⟩), .int .i64 j] W fun e w' => e = .returned (.int .u64 ((x % 256 ^ j : Nat) : Int)) ∧ But W w' rd ∧ Rd w' rd ⟨UInt8.ofNat s.length :: s, false⟩ := by
          intro W hW
          have := num_any rd _ (j : Int) W hW (by simp [Pk.be_length]; omega)
          rw [Pk.numN_front _ _ _ (by simp [Pk.be_length]) (by simp [Pk.be_length]; omega) (by simp [Pk.be_length]; omega), Pk.num_be _ _ (by omega)] at this
          exact this
        have NUMH := Lib.hid NUM
        clear NUM
        generalize x % 256 ^ j = y at *
        go_wp2_with fail
        refine T5.out.mono ?_
        rintro e w5 ⟨v5, rfl, ho5, hb5, hr5⟩
        have hto := run_toString (P := Try.prog) Try.underlying24 Try.underlying5 Try.underlying9 ho5.slB
        unfold strV at hto
        clear ho5
        go_wp2_with fail
        clear hto
        refine (NUMH.out w5 hr5).mono ?_
        rintro e w6 ⟨rfl, hb6, hr6⟩
        go_wp2_with fail
        have t7 := rtext_any rd _ w6 hr6 (by simp; omega)
        rw [show UInt8.ofNat s.length :: s = UInt8.ofNat s.length :: (s ++ []) by simp, text_front s [] hs1] at t7
        refine t7.mono ?_
        rintro e w7 ⟨rfl, hb7, hr7⟩
        clear t7
        simp only at hr7
        unfold strV
        go_wp2_with fail
        refine (bad_any rd _ w7 hr7).mono ?_
        rintro e w' ⟨rfl, rfl⟩
        go_wp2_with fail
        refine (rest_any rd _ w7 hr7).mono ?_
        rintro e w' ⟨rfl, rfl⟩
        have hk7 : Below w1.heap.size w1 w7 := hk5.trans (((hb5.trans hb6).trans hb7).below hz3 hz4)
        have hto := run_toString (P := Try.prog) Try.underlying24 Try.underlying5 Try.underlying9 (hv0.keep (Keep.trans' hk1 hk7))
        unfold strV at hto
        clear hmask hb5 hb6 hb7 hr5 hr6 hr7 hr4 hk5 hz3 hz4
        go_wp2
        clear hto
        go_roundw
        case rel => exact ⟨j + 1, by omega, by omega, by go_num, hk7⟩
        case measure => simp [intOf]; omega
      · have hx8 : x % 256 ^ j = x := by
          have hj88 : j = 8 := by omega
          subst hj88
          exact Nat.mod_eq_of_lt hx
        have NUM : ∀ W, Rd W rd ⟨Pk.be x j ++ (UInt8.ofNat s.length :: s), false⟩ → Calls Try.prog 11 #[.pointer (some ⟨rd, 0, none⟩), .int .i64 j] W fun e w' => e = .returned (.int .u64 (x : Int)) ∧ But W w' rd ∧ Rd w' rd ⟨UInt8.ofNat s.length :: s, false⟩ := by
          intro W hW
          have := num_any rd _ (j : Int) W hW (by simp [Pk.be_length]; omega)
          rw [Pk.numN_front _ _ _ (by simp [Pk.be_length]) (by simp [Pk.be_length]; omega) (by simp [Pk.be_length]; omega), Pk.num_be _ _ (by omega)] at this
          rw [hx8] at this
          exact this
        have NUMH := Lib.hid NUM
        clear NUM
        have HX8 := Lib.hid hx8
        clear hx8
        go_wp2_with fail
        refine T5.out.mono ?_
        rintro e w5 ⟨v5, rfl, ho5, hb5, hr5⟩
        have hto := run_toString (P := Try.prog) Try.underlying24 Try.underlying5 Try.underlying9 ho5.slB
        unfold strV at hto
        clear ho5
        go_wp2_with fail
        clear hto
        refine (NUMH.out w5 hr5).mono ?_
        rintro e w6 ⟨rfl, hb6, hr6⟩
        go_wp2_with fail
        have t7 := rtext_any rd _ w6 hr6 (by simp; omega)
        rw [show UInt8.ofNat s.length :: s = UInt8.ofNat s.length :: (s ++ []) by simp, text_front s [] hs1] at t7
        refine t7.mono ?_
        rintro e w7 ⟨rfl, hb7, hr7⟩
        clear t7
        simp only at hr7
        unfold strV
        go_wp2_with fail
        refine (bad_any rd _ w7 hr7).mono ?_
        rintro e w' ⟨rfl, rfl⟩
        go_wp2_with fail
        refine (rest_any rd _ w7 hr7).mono ?_
        rintro e w' ⟨rfl, rfl⟩
        have hk7 : Below w1.heap.size w1 w7 := hk5.trans (((hb5.trans hb6).trans hb7).below hz3 hz4)
        have hto := run_toString (P := Try.prog) Try.underlying24 Try.underlying5 Try.underlying9 (hv0.keep (Keep.trans' hk1 hk7))
        unfold strV at hto
        clear hb5 hb6 hb7 hr5 hr6 hr7 hr4 hk5 hz3 hz4
        go_wp2
        clear hto
        go_roundw
        case rel => exact ⟨j + 1, by omega, by omega, by go_num, hk7⟩
        case measure => simp [intOf]; omega
    · go_wp2_with fail
      refine (bad_nil wr).mono ?_
      rintro e w' ⟨rfl, rfl⟩
      go_wp2_with fail
      refine (rest_nil wr).mono ?_
      rintro e w' ⟨rfl, rfl⟩
      go_wp2_with fail
      refine (take_nil 0 wr).mono ?_
      rintro e w' ⟨rfl, rfl⟩
      go_wp2_with fail
      refine (num_nil wr).mono ?_
      rintro e w' ⟨rfl, rfl⟩
      go_wp2_with fail
      refine (rtext_nil wr).mono ?_
      rintro e w' ⟨rfl, rfl⟩
      rw [str_empty]
      go_wp2
      go_ret
      exact ⟨rfl, Keep.trans' hk1 hk⟩
end Go.Proofs.Ytonodicdfhjngaa
