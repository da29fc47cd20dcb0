/- The walks of the record law's example and of its small words. -/
import Derived.Test.YtlihieefjlpadaaRecEnc
import Derived.Test.YtlihieefjlpadaaRecDec
namespace Go.Proofs.Ytlihieefjlpadaa
open Go Go.RowKit
attribute [local irreducible] Go.wpQuiet

def Rc.one : Rc := ⟨1, 0, 0, 0, [], [], [], []⟩
theorem one_dec : decOut Rc.one.enc = (Rc.one, 11, true) := by
  have h := dec_enc Rc.one (by decide) (by simp [Rc.one]) []
  rw [List.append_nil] at h
  unfold decOut
  rw [h]
  rfl

set_option maxRecDepth 100000 in
set_option maxHeartbeats 4000000 in
theorem fit_any (w : World) : Calls Try.prog 10 #[] w fun e w' => e = .returned (.bool true) ∧ Keep w w' := by
  have hE := encode_any Rc.one (.slice none 0 0) w (Rc.right.fits (by decide) (by simp [Rc.one])) (Own.nil w 0 46).sl
  have HL : Hid (Rc.one.enc.length = 11) := Lib.hid (by rw [enc_length]; rfl)
  have HD := Lib.hid one_dec
  generalize Rc.one.enc = l at *
  unfold Rc.val Rc.one at hE
  go_enter Try.func10, Try.ntmps10
  go_wp2_with fail
  refine hE.mono ?_
  rintro e w1 ⟨v, rfl, hO, hk1⟩
  have hB := hO.slB
  obtain ⟨a1, c1, rfl, -, -, -⟩ := hB.form
  clear hE hO
  go_wp2_with fail
  refine (decode_any _ l w1 hB (by rw [HL.out]; omega)).mono ?_
  rintro e w2 ⟨dv, rfl, hd, hk2⟩
  rw [HD.out] at hd ⊢
  obtain ⟨ad, nd, cd, rfl⟩ := Sl.shape hd
  unfold Rc.val Rc.one
  rw [HL.out]
  go_wp2
  go_ret
  exact ⟨rfl, (hk1.trans' hk2).trans' (Keep.alloc _ _)⟩

set_option maxHeartbeats 1000000 in
theorem light_any (r : Rc) (dv : Value) (w : World) (hd : SlU w dv r.dirty) : Calls Try.prog 11 #[r.val dv] w fun e w' => (∃ b, e = .returned (.bool b)) ∧ Keep w w' := by
  obtain ⟨da, dc, rfl, hm, hc, -⟩ := hd.form
  unfold Rc.val
  go_enter Try.func11, Try.ntmps11
  go_wp2
  all_goals (go_ret; exact ⟨⟨_, rfl⟩, Keep.alloc _ _⟩)

set_option maxHeartbeats 1000000 in
theorem ok_any (n a b : Int) (w : World) : Calls Try.prog 20 #[.int .i64 n, .int .i64 a, .int .i64 b] w fun e w' => e = .returned (.bool (decide (a ≤ n) && decide (n ≤ b))) ∧ w = w' := by
  go_enter Try.func20, Try.ntmps20
  go_wp2
  all_goals (go_ret; exact ⟨ret_bool (Bool.eq_iff_iff.2 (by simp; omega)), rfl⟩)
set_option maxHeartbeats 1000000 in
theorem half_any (s : List UInt8) (w : World) : Calls Try.prog 21 #[.string ⟨s.toArray⟩] w fun e w' => e = .returned (.bool (half s)) ∧ w = w' := by
  have hs := size_str s
  have hh : half s = (s.length == 0 || s.length == 40) := rfl
  rw [hh]
  clear hh
  go_enter Try.func21, Try.ntmps21
  cases s with
  | nil =>
    go_wp2
    go_ret
    exact ⟨rfl, rfl⟩
  | cons c t =>
    by_cases h : (c :: t).length = 40
    · have t1 : (((c :: t).length : Int) == 40) = true := by rw [beq_iff_eq]; omega
      rw [show ((c :: t).length == 40) = true by rw [beq_iff_eq]; exact h]
      go_wp2
      go_ret
      exact ⟨ret_bool (by simp), rfl⟩
    · have t1 : (((c :: t).length : Int) == 40) = false := by rw [beq_eq_false_iff_ne]; omega
      rw [show ((c :: t).length == 40) = false by rw [beq_eq_false_iff_ne]; exact h]
      go_wp2
      go_ret
      exact ⟨ret_bool (by simp; simp at h; omega), rfl⟩

set_option maxRecDepth 100000 in
set_option maxHeartbeats 4000000 in
theorem right_law_any (r : Rc) (dv : Value) (w : World) (hd : SlU w dv r.dirty) : Calls Try.prog 13 #[r.val dv] w fun e w' => e = .returned (.bool r.right) ∧ Keep w w' := by
  have hR := r.right_iff
  have hA := RcAt.laid w r dv
  have hk0 := Keep.alloc w (.cells #[.int .i64 r.kind, .int .i64 r.txn, .int .i64 r.page, .int .i64 r.slot, .string ⟨r.before.toArray⟩, .string ⟨r.after.toArray⟩, .string ⟨r.image.toArray⟩, dv] 24)
  obtain ⟨da, dc, rfl, hm, hc, -⟩ := hd.form
  unfold maxLen at hm
  unfold Rc.val
  obtain ⟨k, t, p, s, b, a, i, d⟩ := r
  generalize Rc.right ⟨k, t, p, s, b, a, i, d⟩ = R at *
  simp only at *
  have HR := Lib.hid hR
  clear hR hd
  go_enter Try.func13, Try.ntmps13
  go_wp2_with fail
  generalize w.alloc (.cells #[.int .i64 k, .int .i64 t, .int .i64 p, .int .i64 s, .string ⟨b.toArray⟩, .string ⟨a.toArray⟩, .string ⟨i.toArray⟩, .slice da d.length dc] 24) = w0 at *
  obtain ⟨c0, c1, c2, c3, c4, c5, c6, c7⟩ := hA.cells
  simp only at c0 c1 c2 c3 c4 c5 c6 c7
  refine (ok_any k 1 7 _).mono ?_
  rintro e w' ⟨rfl, rfl⟩
  have Hk : (decide (1 ≤ k) && decide (k ≤ 7)) = true ↔ 1 ≤ k ∧ k ≤ 7 := by simp
  cases hk : (decide ((1 : Int) ≤ k) && decide (k ≤ 7))
  · rw [hk] at Hk
    simp only [Bool.false_eq_true, false_iff] at Hk
    go_wp2
    go_ret
    exact ⟨ret_bool (Eq.symm (by rw [Bool.eq_false_iff]; intro h; have := HR.out.1 h; omega)), hk0⟩
  rw [hk] at Hk
  simp only [true_iff] at Hk
  clear hk
  go_wp2_with fail
  refine (ok_any t 0 255 _).mono ?_
  rintro e w' ⟨rfl, rfl⟩
  have Ht : (decide (0 ≤ t) && decide (t ≤ 255)) = true ↔ 0 ≤ t ∧ t ≤ 255 := by simp
  cases ht : (decide ((0 : Int) ≤ t) && decide (t ≤ 255))
  · rw [ht] at Ht
    simp only [Bool.false_eq_true, false_iff] at Ht
    go_wp2
    go_ret
    exact ⟨ret_bool (Eq.symm (by rw [Bool.eq_false_iff]; intro h; have := HR.out.1 h; omega)), hk0⟩
  rw [ht] at Ht
  simp only [true_iff] at Ht
  clear ht
  go_wp2_with fail
  refine (ok_any p 0 5 _).mono ?_
  rintro e w' ⟨rfl, rfl⟩
  have Hp : (decide (0 ≤ p) && decide (p ≤ 5)) = true ↔ 0 ≤ p ∧ p ≤ 5 := by simp
  cases hp : (decide ((0 : Int) ≤ p) && decide (p ≤ 5))
  · rw [hp] at Hp
    simp only [Bool.false_eq_true, false_iff] at Hp
    go_wp2
    go_ret
    exact ⟨ret_bool (Eq.symm (by rw [Bool.eq_false_iff]; intro h; have := HR.out.1 h; omega)), hk0⟩
  rw [hp] at Hp
  simp only [true_iff] at Hp
  clear hp
  go_wp2_with fail
  refine (ok_any s 0 4 _).mono ?_
  rintro e w' ⟨rfl, rfl⟩
  have Hs : (decide (0 ≤ s) && decide (s ≤ 4)) = true ↔ 0 ≤ s ∧ s ≤ 4 := by simp
  cases hs : (decide ((0 : Int) ≤ s) && decide (s ≤ 4))
  · rw [hs] at Hs
    simp only [Bool.false_eq_true, false_iff] at Hs
    go_wp2
    go_ret
    exact ⟨ret_bool (Eq.symm (by rw [Bool.eq_false_iff]; intro h; have := HR.out.1 h; omega)), hk0⟩
  rw [hs] at Hs
  simp only [true_iff] at Hs
  clear hs
  go_wp2_with fail
  refine (half_any b _).mono ?_
  rintro e w' ⟨rfl, rfl⟩
  have Hb := half_iff b
  cases hb : half b
  · rw [hb] at Hb
    simp only [Bool.false_eq_true, false_iff] at Hb
    go_wp2
    go_ret
    exact ⟨ret_bool (Eq.symm (by rw [Bool.eq_false_iff]; intro h; have := HR.out.1 h; omega)), hk0⟩
  rw [hb] at Hb
  simp only [true_iff] at Hb
  clear hb
  go_wp2_with fail
  refine (half_any a _).mono ?_
  rintro e w' ⟨rfl, rfl⟩
  have Ha := half_iff a
  cases ha : half a
  · rw [ha] at Ha
    simp only [Bool.false_eq_true, false_iff] at Ha
    go_wp2
    go_ret
    exact ⟨ret_bool (Eq.symm (by rw [Bool.eq_false_iff]; intro h; have := HR.out.1 h; omega)), hk0⟩
  rw [ha] at Ha
  simp only [true_iff] at Ha
  clear ha
  cases i with
  | nil =>
    have hi0 : ([] : List UInt8).length = 0 := rfl
    by_cases hd0 : d.length = 0
    · have t1 : ((d.length : Int) == 0) = true := by rw [beq_iff_eq]; omega
      go_wp2
      go_ret
      exact ⟨ret_bool (Eq.symm (HR.out.2 (by omega))), hk0⟩
    have t1 : ((d.length : Int) == 0) = false := by rw [beq_eq_false_iff_ne]; omega
    by_cases hk7 : k = 7
    · have t2 : (k == 7) = true := by rw [beq_iff_eq]; omega
      by_cases hd6 : d.length = 6
      · have t3 : ((d.length : Int) == 6) = true := by rw [beq_iff_eq]; omega
        go_wp2
        go_ret
        exact ⟨ret_bool (Eq.symm (HR.out.2 (by omega))), hk0⟩
      · have t3 : ((d.length : Int) == 6) = false := by rw [beq_eq_false_iff_ne]; omega
        go_wp2
        go_ret
        exact ⟨ret_bool (Eq.symm (by rw [Bool.eq_false_iff]; intro h; have := HR.out.1 h; omega)), hk0⟩
    · have t2 : (k == 7) = false := by rw [beq_eq_false_iff_ne]; omega
      go_wp2
      go_ret
      exact ⟨ret_bool (Eq.symm (by rw [Bool.eq_false_iff]; intro h; have := HR.out.1 h; omega)), hk0⟩
  | cons c i =>
    have hic : (c :: i).length = i.length + 1 := rfl
    by_cases hi : (c :: i).length = 256
    · have t5 : (((i.length : Int) + 1) == 256) = true := by rw [beq_iff_eq]; omega
      by_cases hd0 : d.length = 0
      · have t1 : ((d.length : Int) == 0) = true := by rw [beq_iff_eq]; omega
        go_wp2
        go_ret
        exact ⟨ret_bool (Eq.symm (HR.out.2 (by omega))), hk0⟩
      have t1 : ((d.length : Int) == 0) = false := by rw [beq_eq_false_iff_ne]; omega
      by_cases hk7 : k = 7
      · have t2 : (k == 7) = true := by rw [beq_iff_eq]; omega
        by_cases hd6 : d.length = 6
        · have t3 : ((d.length : Int) == 6) = true := by rw [beq_iff_eq]; omega
          go_wp2
          go_ret
          exact ⟨ret_bool (Eq.symm (HR.out.2 (by omega))), hk0⟩
        · have t3 : ((d.length : Int) == 6) = false := by rw [beq_eq_false_iff_ne]; omega
          go_wp2
          go_ret
          exact ⟨ret_bool (Eq.symm (by rw [Bool.eq_false_iff]; intro h; have := HR.out.1 h; omega)), hk0⟩
      · have t2 : (k == 7) = false := by rw [beq_eq_false_iff_ne]; omega
        go_wp2
        go_ret
        exact ⟨ret_bool (Eq.symm (by rw [Bool.eq_false_iff]; intro h; have := HR.out.1 h; omega)), hk0⟩
    · have t5 : (((i.length : Int) + 1) == 256) = false := by rw [beq_eq_false_iff_ne]; omega
      go_wp2
      go_ret
      exact ⟨ret_bool (Eq.symm (by rw [Bool.eq_false_iff]; intro h; have := HR.out.1 h; omega)), hk0⟩
end Go.Proofs.Ytlihieefjlpadaa
