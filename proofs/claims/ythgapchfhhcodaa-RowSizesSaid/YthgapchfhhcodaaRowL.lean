/- The plain law of a row's bytes. -/
import Derived.Test.YthgapchfhhcodaaDecode
namespace Go.Proofs.Ythgapchfhhcodaa

theorem Rw.enc_eq (r : Rw) : r.enc = [1, UInt8.ofNat r.t.toNat, UInt8.ofNat r.k.length] ++ ((r.k ++ List.replicate (15 - r.k.length) 0) ++ ([UInt8.ofNat r.v.length] ++ (r.v ++ List.replicate (21 - r.v.length) 0))) := by
  simp [Rw.enc]
theorem Rw.of_enc (r : Rw) (h : r.right = true) : Rw.of r.enc = r := by
  obtain ⟨h1, h2, h3, h4⟩ := r.right_iff.1 h
  have e1 : r.enc.getD 1 0 = UInt8.ofNat r.t.toNat := by simp [Rw.enc]
  have e2 : r.enc.getD 2 0 = UInt8.ofNat r.k.length := by simp [Rw.enc]
  have d3 : r.enc.drop 3 = (r.k ++ List.replicate (15 - r.k.length) 0) ++ ([UInt8.ofNat r.v.length] ++ (r.v ++ List.replicate (21 - r.v.length) 0)) := by
    rw [r.enc_eq]; rfl
  have l15 : (r.k ++ List.replicate (15 - r.k.length) 0).length = 15 := by simp; omega
  have d18 : r.enc.drop 18 = [UInt8.ofNat r.v.length] ++ (r.v ++ List.replicate (21 - r.v.length) 0) := by
    rw [show 18 = 3 + 15 from rfl, ← List.drop_drop, d3, List.drop_left' l15]
  have d19 : r.enc.drop 19 = r.v ++ List.replicate (21 - r.v.length) 0 := by
    rw [show 19 = 18 + 1 from rfl, ← List.drop_drop, d18]; rfl
  have e18 : r.enc.getD 18 0 = UInt8.ofNat r.v.length := by
    have : r.enc.getD 18 0 = (r.enc.drop 18).getD 0 0 := by simp [List.getD_eq_getElem?_getD]
    rw [this, d18]; rfl
  unfold Rw.of
  rw [e1, e2, e18, d3, d19]
  have n1 : (UInt8.ofNat r.t.toNat).toNat = r.t.toNat := by rw [UInt8.toNat_ofNat']; omega
  have n2 : (UInt8.ofNat r.k.length).toNat = r.k.length := by rw [UInt8.toNat_ofNat']; omega
  have n3 : (UInt8.ofNat r.v.length).toNat = r.v.length := by rw [UInt8.toNat_ofNat']; omega
  rw [n1, n2, n3, Nat.min_eq_left h3, Nat.min_eq_left h4, List.append_assoc, List.take_left' rfl, List.take_left' rfl, Int.toNat_of_nonneg h1]
theorem Rw.enc_inj {a b : Rw} (ha : a.right = true) (hb : b.right = true) (h : a.enc = b.enc) : a = b := by
  rw [← a.of_enc ha, h, b.of_enc hb]
theorem Rw.enc_ne_zero (r : Rw) : r.enc ≠ zB 40 := by
  intro h
  have := congrArg (fun l => l.getD 0 0) h
  simp [Rw.enc, zB] at this
theorem Rw.dec_enc (r : Rw) (h : r.right = true) : Rw.dec r.enc = (r, 0) := by
  unfold Rw.dec
  rw [if_neg (by rw [enc_length r h]; simp), if_neg r.enc_ne_zero, if_pos (by rw [r.of_enc h]; exact ⟨h, rfl⟩), r.of_enc h]
end Go.Proofs.Ythgapchfhhcodaa
