/- Lines of the roll, plainly. -/
import Derived.Test.YthknhonpcmneaaaRollSettle
import Derived.Test.YthknhonpcmneaaaCrashL
import Derived.Test.YthknhonpcmneaaaPackB
namespace Go.Proofs.Ythknhonpcmneaaa
open Go Go.RowKit

theorem newD_rg (n s r : Nat) : (newD n s).rg r = emptyRg := by
  show ((List.replicate n emptyRg)[r]?).getD emptyRg = emptyRg
  rw [List.getElem?_replicate]
  split <;> rfl
theorem newD_read (n s r t : Nat) (hr : r < n) (ht : t < s) : (newD n s).read r t = z64 := by
  have h2 : (r + 1) * s ≤ n * s := Nat.mul_le_mul_right _ hr
  rw [Nat.add_mul, Nat.one_mul] at h2
  rw [Dk.read_eq, newD_rg]
  show (List.replicate (n * s) z64).getD (r * s + t) [] = z64
  rw [List.getD_eq_getElem?_getD, List.getElem?_replicate, if_pos (by omega)]
  rfl
theorem newD_size (n s : Nat) : (newD n s).size = s := rfl
theorem newD_regs (n s : Nat) : (newD n s).regs.length = n := by simp [newD]
theorem lineOf_pad (st ct : Nat) (hs : st ≤ 2) (hc : ct < 4294967296) : lineOf (pad (lineB st ct)) = (st, ct) := by
  have e : pad (lineB st ct) = Pk.be st 1 ++ (Pk.be ct 4 ++ List.replicate 59 0) := by unfold pad; rw [lineB_length]; unfold lineB; rw [List.append_assoc]
  unfold lineOf
  have h1 : Pk.numN ⟨Pk.be st 1 ++ (Pk.be ct 4 ++ List.replicate 59 0), false⟩ 1 = (st, ⟨Pk.be ct 4 ++ List.replicate 59 0, false⟩) := Pk.numN_fwd st 1 (by decide) (by omega) _
  have h2 : Pk.numN ⟨Pk.be ct 4 ++ List.replicate 59 0, false⟩ 4 = (ct, ⟨List.replicate 59 0, false⟩) := Pk.numN_fwd ct 4 (by decide) (by omega) _
  rw [e, h1]
  simp only
  rw [h2, if_pos hs]
theorem lineOf_zero : lineOf z64 = (0, 0) := by
  have e : z64 = pad (lineB 0 0) := by decide
  rw [e]
  exact lineOf_pad 0 0 (by decide) (by decide)
theorem crash_rg (d : Dk) (m i : Nat) : (d.crash m).rg i = (d.rg i).up := by
  unfold Dk.rg
  rw [crash_regs, List.getElem?_map]
  cases d.regs[i]? <;> rfl
theorem crash_calm (d : Dk) (m : Nat) (h : ∀ i, (d.rg i).waits = []) (r t : Nat) : (d.crash m).read r t = d.read r t := by
  rw [Dk.read_eq, Dk.read_eq, crash_rg, crash_size, crash_none d m h]
  show lastW [] t _ = lastW (d.rg r).waits t _
  rw [h r]
theorem Did.there {d d' : Dk} {r n q : Nat} {e : Int} {new : Nat → Option (List UInt8)} (h : Did d d' r new n e) (hq : q < d.regs.length) : q < d'.regs.length := by rw [h.regs]; exact hq
end Go.Proofs.Ythknhonpcmneaaa
