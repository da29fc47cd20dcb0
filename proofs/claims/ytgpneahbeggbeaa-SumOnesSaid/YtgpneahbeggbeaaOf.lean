/- The walk of the law's own sum, bit by bit. -/
import Derived.Test.YtgpneahbeggbeaaSum
namespace Go.Proofs.Ytgpneahbeggbeaa
open Go.RowKit

/-- the law's register behind i bits of b -/
def ser (c : BitVec 32) (b : UInt8) (i : Nat) : BitVec 32 := Crc.bits i (c ^^^ Crc.inj b) ^^^ (Crc.inj b >>> i)

theorem inj_shr (u : UInt8) (j : Nat) : ((u.toNat : Int) / 2 ^ j % 4294967296) = cn (Crc.inj u >>> j) := by
  have hu := u.toNat_lt
  unfold cn Crc.inj
  rw [BitVec.toNat_ushiftRight, BitVec.toNat_ofNat, Nat.mod_eq_of_lt (show u.toNat < 2 ^ 32 by omega), Nat.shiftRight_eq_div_pow]
  have h1 : ((u.toNat : Int) / 2 ^ j) = ((u.toNat / 2 ^ j : Nat) : Int) := by simp
  rw [h1]
  have h2 : u.toNat / 2 ^ j ≤ u.toNat := Nat.div_le_self _ _
  generalize u.toNat / 2 ^ j = q at *
  omega

theorem ser_cond (c : BitVec 32) (u : UInt8) (j : Nat) :
    (Go.bits .xor .u32 (Go.bits .and .u32 (cn (ser c u j)) 1) (Go.bits .and .u32 ((u.toNat : Int) / 2 ^ j % 4294967296) 1) == 1) = decide (Crc.bits j (c ^^^ Crc.inj u) &&& 1#32 = 1#32) := by
  rw [inj_shr, bv_and_one, bv_and_one]
  simp only [Crc.lsb, ser, BitVec.getLsbD_xor]
  cases (Crc.bits j (c ^^^ Crc.inj u)).getLsbD 0 <;> cases (Crc.inj u >>> j).getLsbD 0 <;> simp <;> decide

theorem ser_succ (c : BitVec 32) (u : UInt8) (j : Nat) :
    ser c u (j + 1) = if Crc.bits j (c ^^^ Crc.inj u) &&& 1#32 = 1#32 then (ser c u j >>> 1) ^^^ poly else ser c u j >>> 1 := by
  unfold ser
  rw [Crc.bits_succ, Crc.bit, BitVec.ushiftRight_xor_distrib, BitVec.shiftRight_add]
  split
  · rw [show (0xEDB88320#32 : BitVec 32) = poly from rfl]
    rw [BitVec.xor_assoc, BitVec.xor_comm poly, BitVec.xor_assoc]
  · rfl

theorem ser_end (c : BitVec 32) (u : UInt8) : ser c u 8 = Crc.byte c u := by
  unfold ser Crc.byte
  have : Crc.inj u >>> 8 = 0#32 := by
    have hu := u.toNat_lt
    apply BitVec.eq_of_toNat_eq
    rw [BitVec.toNat_ushiftRight, Crc.inj, BitVec.toNat_ofNat, Nat.shiftRight_eq_div_pow]
    simp
    omega
  rw [this]; simp

set_option maxHeartbeats 1000000 in
theorem law_of_any (v : Value) (l : List UInt8) (w : World) (hv : SlB w v l) :
    Calls Try.prog 10 #[v] w fun e w' => e = .returned (.int .u32 (cn (Crc.sum l))) ∧ w = w' := by
  obtain ⟨ao, cap, rfl, hm, hcap, hc⟩ := hv.form
  unfold maxLen at hm
  go_enter Try.func10, Try.ntmps10
  go_wp2
  go_loop [3, 10] (fun x i => ∃ k : Nat, k ≤ l.length ∧ i = .int .i64 k ∧ x = .int .u32 (cn (Crc.run Crc.ones (l.take k)))) (fun _ i => l.length - (intOf i).toNat)
  case atStart => exact ⟨0, by omega, rfl, rfl⟩
  case round =>
    obtain ⟨k, hk, rfl, rfl⟩ := hrel
    by_cases hk2 : k < l.length
    · obtain ⟨b, off, rfl, hcell⟩ := hc k hk2
      have hr := run_snoc Crc.ones l k hk2
      have HR := Lib.hid hr
      clear hr hc
      have hu := l[k].toNat_lt
      generalize l[k] = u at *
      generalize Crc.run Crc.ones (List.take k l) = c at *
      go_wp2
      go_loop [3, 14] (fun x i => ∃ j : Nat, j ≤ 8 ∧ i = .int .i64 j ∧ x = .int .u32 (cn (ser c u j))) (fun _ i => 8 - (intOf i).toNat)
      case atStart => exact ⟨0, by omega, rfl, by simp [ser, Crc.bits, BitVec.xor_assoc]⟩
      case round =>
        obtain ⟨j, hj, rfl, rfl⟩ := hrel
        have h0 := cn_lo (ser c u j)
        by_cases hj2 : j < 8
        · go_wp2
          · have hq : (Go.bits .xor .u32 (Go.bits .and .u32 (cn (ser c u j)) 1) (Go.bits .and .u32 ((u.toNat : Int) / 2 ^ j % 4294967296) 1) == 1) = true := by assumption
            rw [ser_cond, decide_eq_true_iff] at hq
            go_round
            case rel => exact ⟨j + 1, by omega, by go_num, by rw [ser_succ, if_pos hq, bv_shr, bv_xor_poly]⟩
            case measure => simp [intOf]; omega
          · have hq : (Go.bits .xor .u32 (Go.bits .and .u32 (cn (ser c u j)) 1) (Go.bits .and .u32 ((u.toNat : Int) / 2 ^ j % 4294967296) 1) == 1) = false := by assumption
            rw [ser_cond, decide_eq_false_iff_not] at hq
            go_round
            case rel => exact ⟨j + 1, by omega, by go_num, by rw [ser_succ, if_neg hq, bv_shr]⟩
            case measure => simp [intOf]; omega
        · have hj3 : j = 8 := by omega
          subst hj3
          go_wp2
          go_round
          case rel => exact ⟨k + 1, by omega, by go_num, by rw [HR.out, ser_end]⟩
          case measure => simp [intOf]; omega
    · have hk3 : k = l.length := by omega
      subst hk3
      have hx := unxor_u32 (Crc.run Crc.ones (l.take l.length))
      have HX := Lib.hid hx
      clear hx hc
      go_wp2
      go_ret
      exact ⟨ret_int (by rw [List.take_length] at HX; rw [HX.out]; rfl), rfl⟩
end Go.Proofs.Ytgpneahbeggbeaa
