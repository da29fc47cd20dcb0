/- What a changed byte of rows that went out is: no walk. -/
import Derived.Test.YtllknflphgahfaaFit14
import Derived.Laws.Cover1
namespace Go.Proofs.Ytllknflphgahfaa
open Go Go.RowKit

theorem byte_xor (a b : UInt8) : Go.bits .xor .u8 (a.toNat : Int) (b.toNat : Int) = ((a ^^^ b).toNat : Int) := by
  have ha := a.toNat_lt
  have hb := b.toNat_lt
  simp only [Go.bits, BitVec.ofInt_natCast, IntKind.wrap_u8]
  show (((BitVec.ofNat 8 a.toNat ^^^ BitVec.ofNat 8 b.toNat).toNat : Nat) : Int) % 256 = _
  rw [BitVec.toNat_xor, BitVec.toNat_ofNat, BitVec.toNat_ofNat, Nat.mod_eq_of_lt ha, Nat.mod_eq_of_lt hb, UInt8.toNat_xor]
  have := Nat.xor_lt_two_pow (n := 8) ha hb
  omega
theorem tmod_lt (k : Int) (m : Int) (hm : 0 < m) : -m < k.tmod m ∧ k.tmod m < m := by
  rcases Int.le_total 0 k with h | h
  · rw [Int.tmod_eq_emod_of_nonneg h]
    have := Int.emod_lt_of_pos k hm
    have := Int.emod_nonneg k (by omega : m ≠ 0)
    omega
  · have e : k.tmod m = -((-k).tmod m) := by rw [Int.neg_tmod]; omega
    rw [e, Int.tmod_eq_emod_of_nonneg (by omega)]
    have := Int.emod_lt_of_pos (-k) hm
    have := Int.emod_nonneg (-k) (by omega : m ≠ 0)
    omega
/-- the index that the laws make of a number -/
theorem idx_at (c : Int) (n : Nat) (h0 : 0 < n) (hn : n ≤ 100000000) : ∃ k : Nat, k < n ∧ (wrap64 (c.tmod (n : Int) + (n : Int))).tmod (n : Int) = (k : Int) := by
  have h1 := tmod_lt c (n : Int) (by omega)
  generalize c.tmod (n : Int) = x at *
  have h2 : wrap64 (x + (n : Int)) = x + n := by unfold wrap64; omega
  rw [h2, Int.tmod_eq_emod_of_nonneg (by omega)]
  have h4 := Int.emod_lt_of_pos (x + (n : Int)) (by omega : (0 : Int) < (n : Int))
  have h5 := Int.emod_nonneg (x + (n : Int)) (by omega : (n : Int) ≠ 0)
  exact ⟨((x + (n : Int)) % (n : Int)).toNat, by omega, by omega⟩

theorem crcL_inj {a b : List UInt8} (h : crcL a = crcL b) : Crc.sum a = Crc.sum b := by
  have h1 := congrArg Pk.num h
  rw [num_crcL, num_crcL] at h1
  exact BitVec.eq_of_toNat_eq h1
theorem portL_of_take {l k : List Rw} (h : bodyL l = bodyL k) : portL l = portL k := by unfold portL; rw [h]
/-- one byte that is changed is told -/
theorem portDec_changed (l : List Rw) (i : Nat) (hi : i < (portL l).length) (x : UInt8) (hx : x ≠ (portL l)[i]) : portDec ((portL l).set i x) = ([], 9) := by
  rcases portDec_back ((portL l).set i x) with e | ⟨k, h1, h2, h3⟩
  · exact e
  · exfalso
    have hlen : (portL l).length = (portL k).length := by rw [← h3, List.length_set]
    have ht : ((portL l).set i x).take ((portL l).length - 4) = bodyL k := by rw [h3, hlen, portL_take]
    have hd : ((portL l).set i x).drop ((portL l).length - 4) = crcL (bodyL k) := by rw [h3, hlen, portL_drop]
    have h10 : 10 ≤ (portL l).length := by rw [portL_length]; omega
    by_cases hc : i < (portL l).length - 4
    · rw [List.take_set, portL_take] at ht
      rw [List.drop_set_of_lt hc, portL_drop] at hd
      have hs := crcL_inj hd
      rw [← ht] at hs
      have hb : (portL l).length - 4 = (bodyL l).length := by unfold portL; rw [List.length_append, crcL_length]; omega
      have hg : (portL l)[i] = (bodyL l)[i]'(by omega) := by unfold portL; exact List.getElem_append_left _
      exact Crc.sum_set_ne (bodyL l) i (by omega) x (by rw [← hg]; exact hx) hs.symm
    · rw [List.take_set_of_le (by omega), portL_take] at ht
      have hp := portL_of_take ht
      have h4 : ((portL l).set i x)[i]'(by rw [List.length_set]; exact hi) = x := List.getElem_set_self _
      have h5 : ((portL l).set i x)[i]'(by rw [List.length_set]; exact hi) = (portL l)[i] := by
        have h6 : (portL l).set i x = portL l := by rw [h3, hp]
        simp only [h6]
      exact hx (h4.symm.trans h5)
theorem xor_ne (a x : UInt8) (h : x ≠ 0) : a ^^^ x ≠ a := by
  intro e
  apply h
  have h1 : a ^^^ (a ^^^ x) = a ^^^ a := by rw [e]
  rw [← UInt8.xor_assoc, UInt8.xor_self, UInt8.zero_xor] at h1
  exact h1
/-- rows that rise come back -/
theorem portDec_ris (l : List Rw) (h : Rise l) (hl : l.length ≤ 30) : portDec (portL l) = (l, 0) := by
  rw [portDec_fwd l h (by omega), if_neg (by omega)]
theorem portL_le (l : List Rw) (h : Rise l) (hl : l.length ≤ 30) : (portL l).length ≤ 2000 := by
  have := rowsL_le l h.right
  rw [portL_length]
  omega
end Go.Proofs.Ytllknflphgahfaa
