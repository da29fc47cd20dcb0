/- The walk of RowOrder. -/
import Derived.Test.YthgapchfhhcodaaFit04
namespace Go.Proofs.Ythgapchfhhcodaa
open Go.RowKit
attribute [local irreducible] Go.wpQuiet

set_option maxHeartbeats 2000000 in
theorem rowOrder_any (a b : Rw) (w : World) :
    Calls Try.prog 8 #[a.val, b.val] w fun e w' => e = .returned (.bool true) ∧ Keep w w' := by
  have haa := Rw.less_irrefl a
  have hlt := Lib.hid (Rw.less_asymm a b)
  have hle : a.less b = (decide (a.t < b.t) || (a.t == b.t && Op.bytesLess a.k b.k)) := rfl
  obtain ⟨w0, hw0, hk0, hA, hB⟩ := RwAt.two w a b
  have L1 := Lib.hid (light_any a)
  have L2 := Lib.hid (light_any b)
  have La := Lib.hid (less_any a a)
  have Lab := Lib.hid (less_any a b)
  have Lba := Lib.hid (less_any b a)
  unfold Rw.val strV at *
  generalize a.less b = x at *
  generalize b.less a = y at *
  have HLE := Lib.hid hle
  have HAA := Lib.hid haa
  have HW0 := Lib.hid hw0
  clear haa hle hw0
  go_enter Try.func8, Try.ntmps8
  go_wp2_with fail
  rw [← HW0.out]
  refine (fit_any w0).mono ?_
  rintro e w1 ⟨rfl, hk1⟩
  obtain ⟨a0, a1, a2⟩ := hA.keep hk1
  obtain ⟨b0, b1, b2⟩ := hB.keep hk1
  go_wp2_with fail
  refine (L1.out w1).mono ?_
  rintro e w2 ⟨⟨bx, rfl⟩, hk2⟩
  clear a0 a1 a2 b0 b1 b2
  have hk2' := hk1.trans' hk2
  obtain ⟨a0, a1, a2⟩ := hA.keep hk2'
  obtain ⟨b0, b1, b2⟩ := hB.keep hk2'
  cases bx
  · go_wp2
    go_ret
    exact ⟨rfl, hk0.trans' hk2'⟩
  go_wp2_with fail
  refine (L2.out w2).mono ?_
  rintro e w3 ⟨⟨bx, rfl⟩, hk⟩
  have hk3' := hk2'.trans' hk
  clear hk a0 a1 a2 b0 b1 b2
  obtain ⟨a0, a1, a2⟩ := hA.keep hk3'
  obtain ⟨b0, b1, b2⟩ := hB.keep hk3'
  cases bx
  · go_wp2
    go_ret
    exact ⟨rfl, hk0.trans' hk3'⟩
  clear L1 L2
  have hle := HLE.out
  rcases Int.lt_trichotomy a.t b.t with h | h | h
  · have t1 : decide (a.t < b.t) = true := decide_eq_true h
    have hx : x = true := by rw [hle, t1]; rfl
    have hy := hlt.out hx
    subst hx hy
    clear hle h HLE hlt
    go_wp2_with fail
    refine (Lab.out w3).mono ?_
    rintro e w4 ⟨rfl, hk⟩
    have hk4' := hk3'.trans' hk
    clear hk a0 a1 a2 b0 b1 b2
    obtain ⟨a0, a1, a2⟩ := hA.keep hk4'
    obtain ⟨b0, b1, b2⟩ := hB.keep hk4'
    go_wp2_with fail
    refine (Lab.out w4).mono ?_
    rintro e w5 ⟨rfl, hk⟩
    have hk5' := hk4'.trans' hk
    clear hk a0 a1 a2 b0 b1 b2
    obtain ⟨a0, a1, a2⟩ := hA.keep hk5'
    obtain ⟨b0, b1, b2⟩ := hB.keep hk5'
    go_wp2_with fail
    refine (Lba.out w5).mono ?_
    rintro e w6 ⟨rfl, hk⟩
    have hk6' := hk5'.trans' hk
    clear hk a0 a1 a2 b0 b1 b2
    obtain ⟨a0, a1, a2⟩ := hA.keep hk6'
    obtain ⟨b0, b1, b2⟩ := hB.keep hk6'
    go_wp2_with fail
    refine (La.out w6).mono ?_
    rintro e w7 ⟨rfl, hk⟩
    have hk7' := hk6'.trans' hk
    clear hk a0 a1 a2 b0 b1 b2
    obtain ⟨a0, a1, a2⟩ := hA.keep hk7'
    obtain ⟨b0, b1, b2⟩ := hB.keep hk7'
    rw [HAA.out]
    go_wp2
    go_ret
    exact ⟨rfl, hk0.trans' hk7'⟩
  · have t1 : decide (a.t < b.t) = false := decide_eq_false (by omega)
    have t2 : (a.t == b.t) = true := beq_iff_eq.2 h
    have hx : Op.bytesLess a.k b.k = x := by rw [hle, t1, t2]; simp
    clear hle h HLE
    cases x
    · clear hlt
      go_wp2_with fail
      refine (Lab.out w3).mono ?_
      rintro e w4 ⟨rfl, hk⟩
      have hk4' := hk3'.trans' hk
      clear hk a0 a1 a2 b0 b1 b2
      obtain ⟨a0, a1, a2⟩ := hA.keep hk4'
      obtain ⟨b0, b1, b2⟩ := hB.keep hk4'
      go_wp2_with fail
      refine (Lab.out w4).mono ?_
      rintro e w5 ⟨rfl, hk⟩
      have hk5' := hk4'.trans' hk
      clear hk a0 a1 a2 b0 b1 b2
      obtain ⟨a0, a1, a2⟩ := hA.keep hk5'
      obtain ⟨b0, b1, b2⟩ := hB.keep hk5'
      go_wp2_with fail
      refine (La.out w5).mono ?_
      rintro e w6 ⟨rfl, hk⟩
      have hk6' := hk5'.trans' hk
      clear hk a0 a1 a2 b0 b1 b2
      obtain ⟨a0, a1, a2⟩ := hA.keep hk6'
      obtain ⟨b0, b1, b2⟩ := hB.keep hk6'
      rw [HAA.out]
      go_wp2
      go_ret
      exact ⟨rfl, hk0.trans' hk6'⟩
    · have hy := hlt.out rfl
      subst hy
      clear hlt
      go_wp2_with fail
      refine (Lab.out w3).mono ?_
      rintro e w4 ⟨rfl, hk⟩
      have hk4' := hk3'.trans' hk
      clear hk a0 a1 a2 b0 b1 b2
      obtain ⟨a0, a1, a2⟩ := hA.keep hk4'
      obtain ⟨b0, b1, b2⟩ := hB.keep hk4'
      go_wp2_with fail
      refine (Lab.out w4).mono ?_
      rintro e w5 ⟨rfl, hk⟩
      have hk5' := hk4'.trans' hk
      clear hk a0 a1 a2 b0 b1 b2
      obtain ⟨a0, a1, a2⟩ := hA.keep hk5'
      obtain ⟨b0, b1, b2⟩ := hB.keep hk5'
      go_wp2_with fail
      refine (Lba.out w5).mono ?_
      rintro e w6 ⟨rfl, hk⟩
      have hk6' := hk5'.trans' hk
      clear hk a0 a1 a2 b0 b1 b2
      obtain ⟨a0, a1, a2⟩ := hA.keep hk6'
      obtain ⟨b0, b1, b2⟩ := hB.keep hk6'
      go_wp2_with fail
      refine (La.out w6).mono ?_
      rintro e w7 ⟨rfl, hk⟩
      have hk7' := hk6'.trans' hk
      clear hk a0 a1 a2 b0 b1 b2
      obtain ⟨a0, a1, a2⟩ := hA.keep hk7'
      obtain ⟨b0, b1, b2⟩ := hB.keep hk7'
      rw [HAA.out]
      go_wp2
      go_ret
      exact ⟨rfl, hk0.trans' hk7'⟩
  · have t1 : decide (a.t < b.t) = false := decide_eq_false (by omega)
    have t2 : (a.t == b.t) = false := beq_eq_false_iff_ne.2 (by omega)
    have hx : x = false := by rw [hle, t1, t2]; rfl
    subst hx
    clear hle h HLE hlt
    go_wp2_with fail
    refine (Lab.out w3).mono ?_
    rintro e w4 ⟨rfl, hk⟩
    have hk4' := hk3'.trans' hk
    clear hk a0 a1 a2 b0 b1 b2
    obtain ⟨a0, a1, a2⟩ := hA.keep hk4'
    obtain ⟨b0, b1, b2⟩ := hB.keep hk4'
    go_wp2_with fail
    refine (Lab.out w4).mono ?_
    rintro e w5 ⟨rfl, hk⟩
    have hk5' := hk4'.trans' hk
    clear hk a0 a1 a2 b0 b1 b2
    obtain ⟨a0, a1, a2⟩ := hA.keep hk5'
    obtain ⟨b0, b1, b2⟩ := hB.keep hk5'
    go_wp2_with fail
    refine (La.out w5).mono ?_
    rintro e w6 ⟨rfl, hk⟩
    have hk6' := hk5'.trans' hk
    clear hk a0 a1 a2 b0 b1 b2
    obtain ⟨a0, a1, a2⟩ := hA.keep hk6'
    obtain ⟨b0, b1, b2⟩ := hB.keep hk6'
    rw [HAA.out]
    go_wp2
    go_ret
    exact ⟨rfl, hk0.trans' hk6'⟩
end Go.Proofs.Ythgapchfhhcodaa
