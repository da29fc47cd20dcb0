/- The walk of sum.step. -/
import Derived.Test.YtllknflphgahfaaProg
import Derived.Test.YtllknflphgahfaaCrc
import Derived.WalkKit
import Derived.KernelRfl
import Derived.Lib.Hide
namespace Go.Proofs.Ytllknflphgahfaa
open Go.RowKit

/-- a register as Go's number -/
def cn (c : BitVec 32) : Int := (c.toNat : Int)
theorem cn_lo (c : BitVec 32) : 0 ≤ cn c := Int.natCast_nonneg _
theorem cn_hi (c : BitVec 32) : cn c < 4294967296 := by have := c.isLt; unfold cn; omega
theorem cn_inj {c d : BitVec 32} : cn c = cn d ↔ c = d := by
  unfold cn
  constructor
  · intro h; exact BitVec.eq_of_toNat_eq (by omega)
  · intro h; rw [h]

theorem bv_and_one (c : BitVec 32) : Go.bits .and .u32 (cn c) 1 = if c &&& 1#32 = 1#32 then 1 else 0 := by
  have h := (bits_nat .u32 32 (by decide) (fun n h0 h1 => by rw [IntKind.wrap_u32]; omega) c.toNat 1 c.isLt (by decide)).1
  have h2 : Go.bits .and .u32 (cn c) 1 = ((c.toNat &&& 1 : Nat) : Int) := by simpa [cn] using h
  rw [h2]
  split
  · rename_i h3
    have := congrArg BitVec.toNat h3
    simp only [BitVec.toNat_and, BitVec.toNat_ofNat] at this
    rw [show (1 % 2 ^ 32 : Nat) = 1 from rfl] at this
    rw [this]; rfl
  · rename_i h3
    have h4 : c.toNat &&& 1 ≠ 1 := fun h5 => h3 (BitVec.eq_of_toNat_eq (by simpa using h5))
    rw [Nat.and_one_is_mod] at h4 ⊢
    omega
theorem bv_xor (c : BitVec 32) (d : Nat) (hd : d < 4294967296) : Go.bits .xor .u32 (cn c) (d : Int) = cn (c ^^^ BitVec.ofNat 32 d) := by
  have h1 := c.isLt
  have h2 : ∀ (x y : Nat), x < 2 ^ 32 → y < 2 ^ 32 → (BitVec.ofNat 32 x ^^^ BitVec.ofNat 32 y).toNat = x ^^^ y := by
    intro x y hx hy
    rw [BitVec.toNat_xor, BitVec.toNat_ofNat, BitVec.toNat_ofNat, Nat.mod_eq_of_lt hx, Nat.mod_eq_of_lt hy]
  unfold cn
  simp only [Go.bits, BitVec.ofInt_natCast, IntKind.wrap_u32]
  show (((BitVec.ofNat 32 c.toNat ^^^ BitVec.ofNat 32 d).toNat : Nat) : Int) % 4294967296 = _
  rw [h2 _ _ h1 (by omega), BitVec.toNat_xor, BitVec.toNat_ofNat, Nat.mod_eq_of_lt (show d < 2 ^ 32 by omega)]
  have := Nat.xor_lt_two_pow (n := 32) h1 (show d < 2 ^ 32 by omega)
  omega
def poly : BitVec 32 := 0xEDB88320#32
theorem bv_xor_poly (c : BitVec 32) : Go.bits .xor .u32 (cn c) 3988292384 = cn (c ^^^ poly) := bv_xor c 3988292384 (by omega)
theorem bv_shr (c : BitVec 32) : cn c / (2 : Int) = cn (c >>> 1) := by
  simp [cn, BitVec.toNat_ushiftRight, Nat.shiftRight_eq_div_pow]

set_option maxHeartbeats 1000000 in
theorem step_any (c : BitVec 32) (b : UInt8) (w : World) :
    Calls Try.prog 30 #[.int .u32 (cn c), .int .u8 (b.toNat : Int)] w fun e w' => e = .returned (.int .u32 (cn (Crc.byte c b))) ∧ w = w' := by
  have hb := b.toNat_lt
  have hx := bv_xor c b.toNat (by omega)
  go_enter Try.func30, Try.ntmps30
  go_wp2
  go_loop [0, 9] (fun x i => ∃ k : Nat, k ≤ 8 ∧ i = .int .i64 k ∧ ∃ d, x = .int .u32 (cn d) ∧ Hid (Crc.bits (8 - k) d = Crc.byte c b)) (fun _ i => 8 - (intOf i).toNat)
  case atStart => exact ⟨0, by omega, rfl, _, rfl, rfl⟩
  case round =>
    obtain ⟨k, hk, rfl, d, rfl, H⟩ := hrel
    clear hx
    have h1 := bv_and_one d
    have h0 := cn_lo d
    by_cases hk8 : k < 8
    · have hbits : Crc.bits (8 - k) d = Crc.bits (8 - (k + 1)) (Crc.bit d) := by
        rw [show 8 - k = (8 - (k + 1)) + 1 by omega]; rfl
      have HB := Lib.hid hbits
      clear hbits
      by_cases hd : d &&& 1#32 = 1#32
      · rw [if_pos hd] at h1
        have h1b : (Go.bits .and .u32 (cn d) 1 == 1) = true := by rw [h1]; rfl
        have hdH := Lib.hid hd
        clear hd h1
        go_wp2
        go_round
        case rel =>
          refine ⟨k + 1, by omega, by go_num, Crc.bit d, ?_, ?_⟩
          · rw [bv_shr, bv_xor_poly, Crc.bit, if_pos hdH.out]; rfl
          · exact HB.out ▸ H
        case measure => simp [intOf]; omega
      · rw [if_neg hd] at h1
        have h1b : (Go.bits .and .u32 (cn d) 1 == 1) = false := by rw [h1]; rfl
        have hdH := Lib.hid hd
        clear hd h1
        go_wp2
        go_round
        case rel =>
          refine ⟨k + 1, by omega, by go_num, Crc.bit d, ?_, ?_⟩
          · rw [bv_shr, Crc.bit, if_neg hdH.out]
          · exact HB.out ▸ H
        case measure => simp [intOf]; omega
    · clear h1
      have hk' : k = 8 := by omega
      subst hk'
      go_wp2
      go_ret
      exact ⟨by rw [← H.out]; rfl, rfl⟩
end Go.Proofs.Ytllknflphgahfaa
