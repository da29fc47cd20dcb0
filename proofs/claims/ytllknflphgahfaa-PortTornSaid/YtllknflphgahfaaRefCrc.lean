/- The walk of the reference's own sum, bit by bit. -/
import Derived.Test.YtllknflphgahfaaSum
namespace Go.Proofs.Ytllknflphgahfaa
open Go.RowKit

theorem cn_mod2 (d : BitVec 32) : cn d % 2 = if d &&& 1#32 = 1#32 then 1 else 0 := by
  have h := bv_and_one d
  rw [← h]
  have e : Go.bits .and .u32 (cn d) 1 = cn (d &&& 1#32) := by
    rw [bv_and_one]
    split
    · rename_i hd; rw [hd]; rfl
    · rename_i hd
      have : d &&& 1#32 = 0#32 := by
        apply BitVec.eq_of_getLsbD_eq
        intro i hi
        rw [Crc.lsb] at hd
        simp only [BitVec.getLsbD_and, BitVec.getLsbD_zero]
        cases i with
        | zero =>
          have hd' : d.getLsbD 0 = false := by simpa using hd
          rw [hd']; rfl
        | succ i =>
          have : (1#32 : BitVec 32).getLsbD (i + 1) = false := by
            rw [BitVec.getLsbD_one]; simp
          simp [this]
      rw [this]; rfl
  rw [e]
  unfold cn
  rw [BitVec.toNat_and]
  have : d.toNat &&& (1#32 : BitVec 32).toNat = d.toNat % 2 := by
    rw [show (1#32 : BitVec 32).toNat = 2 ^ 1 - 1 from rfl, Nat.and_two_pow_sub_one_eq_mod]
  rw [this]
  omega

theorem bv_tdiv (c : BitVec 32) : ((cn c).tdiv (2 : Int) : Int) % (4294967296 : Int) = cn (c >>> 1) := by
  rw [← bv_shr, Int.tdiv_eq_ediv_of_nonneg (cn_lo c)]
  have := cn_lo c
  have := cn_hi c
  omega
set_option maxHeartbeats 2000000 in
theorem refcrc_any (v : Value) (l : List UInt8) (w : World) (hv : SlB w v l) :
    Calls Try.prog 29 #[v] w fun e w' => e = .returned (.int .u32 (cn (Crc.sum l))) ∧ w = w' := by
  obtain ⟨ao, cap, rfl, hm, hcap, hc⟩ := hv.form
  unfold maxLen at hm
  go_enter Try.func29, Try.ntmps29
  go_wp2
  go_loop [3, 4] (fun x i => ∃ k : Nat, k ≤ l.length ∧ i = .int .i64 k ∧ x = .int .u32 (cn (Crc.run Crc.ones (l.take k)))) (fun _ i => l.length - (intOf i).toNat)
  case atStart => exact ⟨0, by omega, rfl, rfl⟩
  case round =>
    obtain ⟨k, hk, rfl, rfl⟩ := hrel
    by_cases hk2 : k < l.length
    · obtain ⟨b, off, rfl, hcell⟩ := hc k hk2
      have hr := run_snoc Crc.ones l k hk2
      have HR := Lib.hid hr
      clear hr hc
      have hu := l[k].toNat_lt
      generalize l[k] = u at *
      generalize Crc.run Crc.ones (List.take k l) = c at *
      have hx := bv_xor c u.toNat (by omega)
      go_wp2
      go_loop [3, 5] (fun x i => ∃ k : Nat, k ≤ 8 ∧ i = .int .i64 k ∧ ∃ d, x = .int .u32 (cn d) ∧ Hid (Crc.bits (8 - k) d = Crc.byte c u)) (fun _ i => 8 - (intOf i).toNat)
      case atStart => exact ⟨0, by omega, rfl, _, rfl, rfl⟩
      case round =>
        obtain ⟨j, hj, rfl, d, rfl, H⟩ := hrel
        clear hx
        have h1 := cn_mod2 d
        have h0 := cn_lo d
        by_cases hk8 : j < 8
        · have hbits : Crc.bits (8 - j) d = Crc.bits (8 - (j + 1)) (Crc.bit d) := by
            rw [show 8 - j = (8 - (j + 1)) + 1 by omega]; rfl
          have HB := Lib.hid hbits
          clear hbits
          by_cases hd : d &&& 1#32 = 1#32
          · rw [if_pos hd] at h1
            have h1b : (cn d % 2 == 1) = true := by rw [h1]; rfl
            have hdH := Lib.hid hd
            clear hd h1
            go_wp2
            go_round
            case rel =>
              refine ⟨j + 1, by omega, by go_num, Crc.bit d, ?_, ?_⟩
              · rw [bv_tdiv, bv_xor_poly, Crc.bit, if_pos hdH.out]; rfl
              · exact HB.out ▸ H
            case measure => simp [intOf]; omega
          · rw [if_neg hd] at h1
            have h1b : (cn d % 2 == 1) = false := by rw [h1]; rfl
            have hdH := Lib.hid hd
            clear hd h1
            go_wp2
            go_round
            case rel =>
              refine ⟨j + 1, by omega, by go_num, Crc.bit d, ?_, ?_⟩
              · rw [bv_tdiv, Crc.bit, if_neg hdH.out]
              · exact HB.out ▸ H
            case measure => simp [intOf]; omega
        · clear h1
          have hk' : j = 8 := by omega
          subst hk'
          go_wp2
          go_round
          case rel => exact ⟨k + 1, by omega, by go_num, by rw [HR.out, ← H.out]; rfl⟩
          case measure => simp [intOf]; omega
    · have hk3 : k = l.length := by omega
      subst hk3
      have hx := unxor_u32 (Crc.run Crc.ones (l.take l.length))
      have HX := Lib.hid hx
      clear hx hc
      go_wp2
      go_ret
      exact ⟨ret_int (by rw [List.take_length] at HX; rw [HX.out]; rfl), rfl⟩
end Go.Proofs.Ytllknflphgahfaa
