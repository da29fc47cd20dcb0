/- The walk of PortSums. -/
import Derived.Test.YtllknflphgahfaaPortL
namespace Go.Proofs.Ytllknflphgahfaa
open Go Go.RowKit
attribute [local irreducible] Go.wpQuiet


set_option maxRecDepth 100000 in
set_option maxHeartbeats 8000000 in
theorem portSums_any (v : Value) (l : List Rw) (at_ : Int) (x : UInt8) (w : World) (hL : SlR w v l) : Calls Try.prog 9 #[v, .int .i64 at_, .int .u8 (x.toNat : Int)] w fun e w' => e = .returned (.bool true) ∧ Keep w w' := by
  obtain ⟨la, lc, rfl, -, -⟩ := hL.form
  go_enter Try.func9, Try.ntmps9
  go_wp2_with fail
  refine (fit_any w).mono ?_
  rintro e w1 ⟨rfl, hk1⟩
  have hL1 := hL.keep hk1
  clear hL
  go_wp2_with fail
  refine (light_any _ l w1 hL1).mono ?_
  rintro e w2 ⟨b1, rfl, hb1, hk2⟩
  have hw2 := hk1.trans' hk2
  cases b1
  · go_wp2
    go_ret
    exact ⟨rfl, hw2⟩
  have H1 := Lib.hid (hb1 rfl)
  have hL2 := hL1.keep hk2
  clear hb1 hL1 hk1 hk2
  go_wp2_with fail
  refine (rising_any _ l w2 hL2 (by have := H1.out.1; omega)).mono ?_
  rintro e w3 ⟨v3, rfl, ls, hO3, hR3, h30, hk3⟩
  have hw3 := hw2.trans' hk3
  have hS3 := hO3.slr
  obtain ⟨a3, c3, rfl, -, -⟩ := hS3.form
  have HR := Lib.hid hR3
  clear hL2 hw2 hk3 hR3
  go_wp2_with fail
  refine (encode_any _ ls w3 hS3 HR.out.right (by omega)).mono ?_
  rintro e w4 ⟨v4, rfl, hO4, hk4⟩
  have hw4 := hw3.trans' hk4
  have hnw := hw3.size
  have hle := portL_le ls HR.out h30
  have h10 : 10 ≤ (portL ls).length := by rw [portL_length]; omega
  have HD := Lib.hid (portDec_ris ls HR.out h30)
  clear hO3 hS3 hw3 hk4
  obtain ⟨g4, cap4, rfl, hg4, -⟩ := hO4.head (by rw [List.length_map]; omega)
  rw [List.length_map] at hO4 ⊢
  obtain ⟨k, hkn, hke⟩ := idx_at at_ (portL ls).length (by omega) (by omega)
  have x0 := hO4.cellOf k (by rw [List.length_map]; exact hkn)
  rw [List.getElem_map] at x0
  have f0 := hO4.freeOf k
  have hS := hO4.stored k
  have hC := Lib.hid (portDec_changed ls k hkn)
  generalize hLL : portL ls = L at *
  have HL := Lib.hid hLL
  clear hLL
  have t9 : ((L.length : Int) == 0) = false := by rw [beq_eq_false_iff_ne]; omega
  have t10 : ¬ ((L.length : Int) < 10) := by omega
  have hk1 : (k : Int) < (L.length : Int) := by omega
  generalize hy : L[k]'hkn = y at *
  have HY := Lib.hid hy
  clear hy
  unfold B at x0
  have hxx := byte_xor y x
  go_upto_region 9 with (fail)
  have hb5 : SlB (w4.setCell ⟨g4, k, none⟩ (.int .u8 ((y.toNat ^^^ x.toNat : Nat) : Int))) (.slice (some ⟨g4, 0, none⟩) L.length cap4) (L.set k (y ^^^ x)) := by
    have h := hS (B (y ^^^ x))
    rw [← List.map_set] at h
    exact h.slB
  have hw5 : Keep w (w4.setCell ⟨g4, k, none⟩ (.int .u8 ((y.toNat ^^^ x.toNat : Nat) : Int))) := Keep.setCell hw4 (by simp only; omega) _
  clear hS hO4 x0 f0 hw4 hxx hke t9
  generalize w4.setCell ⟨g4, k, none⟩ (.int .u8 ((y.toNat ^^^ x.toNat : Nat) : Int)) = w5 at *
  go_wp2_with fail
  refine (decode_any _ (L.set k (y ^^^ x)) w5 hb5 (by rw [List.length_set]; omega)).mono ?_
  rintro e w6 ⟨v6, rfl, hS6, hk6⟩
  have hw6 := hw5.trans' hk6
  clear hb5 hw5 hk6
  obtain ⟨a6, c6, rfl, -, -⟩ := hS6.form
  by_cases hx : x = 0
  · subst hx
    have e0 : L.set k (y ^^^ 0) = L := by rw [UInt8.xor_zero, ← HY.out]; exact List.set_getElem_self _
    rw [e0, HD.out]
    clear hS6 e0
    go_wp2
    go_ret
    exact ⟨by first | rfl | simp, hw6⟩
  · have e9 := hC.out (y ^^^ x) (xor_ne y x hx)
    rw [e9]
    have tx : ((x.toNat : Int) == 0) = false := by
      rw [beq_eq_false_iff_ne]
      intro h
      exact hx (UInt8.toNat_inj.1 (by simpa using h))
    clear hS6 e9 hx
    go_wp2
    go_ret
    exact ⟨by first | rfl | simp, hw6⟩
end Go.Proofs.Ytllknflphgahfaa
