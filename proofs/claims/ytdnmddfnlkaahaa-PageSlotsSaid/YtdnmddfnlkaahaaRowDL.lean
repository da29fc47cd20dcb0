/- The plain law of a row's bytes. -/
import Derived.Test.YtdnmddfnlkaahaaRowD
namespace Go.Proofs.Ytdnmddfnlkaahaa

theorem Rw.slot_eq (r : Rw) : r.slot = [1, UInt8.ofNat r.t.toNat, UInt8.ofNat r.k.length] ++ ((r.k ++ List.replicate (15 - r.k.length) 0) ++ ([UInt8.ofNat r.v.length] ++ (r.v ++ List.replicate (21 - r.v.length) 0))) := by
  simp [Rw.slot]
theorem Rw.of_slot (r : Rw) (h : r.right = true) : Rw.of r.slot = r := by
  obtain ⟨h1, h2, h3, h4⟩ := r.right_iff.1 h
  have e1 : r.slot.getD 1 0 = UInt8.ofNat r.t.toNat := by simp [Rw.slot]
  have e2 : r.slot.getD 2 0 = UInt8.ofNat r.k.length := by simp [Rw.slot]
  have d3 : r.slot.drop 3 = (r.k ++ List.replicate (15 - r.k.length) 0) ++ ([UInt8.ofNat r.v.length] ++ (r.v ++ List.replicate (21 - r.v.length) 0)) := by
    rw [r.slot_eq]; rfl
  have l15 : (r.k ++ List.replicate (15 - r.k.length) 0).length = 15 := by simp; omega
  have d18 : r.slot.drop 18 = [UInt8.ofNat r.v.length] ++ (r.v ++ List.replicate (21 - r.v.length) 0) := by
    rw [show 18 = 3 + 15 from rfl, ← List.drop_drop, d3, List.drop_left' l15]
  have d19 : r.slot.drop 19 = r.v ++ List.replicate (21 - r.v.length) 0 := by
    rw [show 19 = 18 + 1 from rfl, ← List.drop_drop, d18]; rfl
  have e18 : r.slot.getD 18 0 = UInt8.ofNat r.v.length := by
    have : r.slot.getD 18 0 = (r.slot.drop 18).getD 0 0 := by simp [List.getD_eq_getElem?_getD]
    rw [this, d18]; rfl
  unfold Rw.of
  rw [e1, e2, e18, d3, d19]
  have n1 : (UInt8.ofNat r.t.toNat).toNat = r.t.toNat := by rw [UInt8.toNat_ofNat']; omega
  have n2 : (UInt8.ofNat r.k.length).toNat = r.k.length := by rw [UInt8.toNat_ofNat']; omega
  have n3 : (UInt8.ofNat r.v.length).toNat = r.v.length := by rw [UInt8.toNat_ofNat']; omega
  rw [n1, n2, n3, Nat.min_eq_left h3, Nat.min_eq_left h4, List.append_assoc, List.take_left' rfl, List.take_left' rfl, Int.toNat_of_nonneg h1]
theorem Rw.slot_inj {a b : Rw} (ha : a.right = true) (hb : b.right = true) (h : a.slot = b.slot) : a = b := by
  rw [← a.of_slot ha, h, b.of_slot hb]
theorem Rw.slot_ne_zero (r : Rw) : r.slot ≠ zB 40 := by
  intro h
  have := congrArg (fun l => l.getD 0 0) h
  simp [Rw.slot, zB] at this
theorem Rw.dec_slot (r : Rw) (h : r.right = true) : Rw.dec r.slot = (r, 0) := by
  unfold Rw.dec
  rw [if_neg (by rw [slot_length r h]; simp), if_neg r.slot_ne_zero, if_pos (by rw [r.of_slot h]; exact ⟨h, rfl⟩), r.of_slot h]
end Go.Proofs.Ytdnmddfnlkaahaa
