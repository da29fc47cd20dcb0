/- The walk of RowApart. -/
import Derived.Test.YthgapchfhhcodaaFit04
import Derived.Test.YthgapchfhhcodaaRowL
namespace Go.Proofs.Ythgapchfhhcodaa
open Go.RowKit
attribute [local irreducible] Go.wpQuiet

set_option maxHeartbeats 2000000 in
theorem rowApart_any (a b : Rw) (w : World) :
    Calls Try.prog 5 #[a.val, b.val] w fun e w' => e = .returned (.bool true) ∧ Keep w w' := by
  obtain ⟨w0, hw0, hk0, hA, hB⟩ := RwAt.two w a b
  have L1 := Lib.hid (light_any a)
  have L2 := Lib.hid (light_any b)
  have R1 := Lib.hid (right_law_any a)
  have R2 := Lib.hid (right_law_any b)
  have E1 := Lib.hid (encode_any a)
  have E2 := Lib.hid (encode_any b)
  unfold Rw.val strV at *
  have HW0 := Lib.hid hw0
  clear hw0
  go_enter Try.func5, Try.ntmps5
  go_wp2_with fail
  rw [← HW0.out]
  refine (fit_any w0).mono ?_
  rintro e w1 ⟨rfl, hk1'⟩
  obtain ⟨a0, a1, a2⟩ := hA.keep hk1'
  obtain ⟨b0, b1, b2⟩ := hB.keep hk1'
  go_wp2_with fail
  refine (L1.out w1).mono ?_
  rintro e w2 ⟨⟨bx, rfl⟩, hk⟩
  have hk2' := hk1'.trans' hk
  clear hk a0 a1 a2 b0 b1 b2
  obtain ⟨a0, a1, a2⟩ := hA.keep hk2'
  obtain ⟨b0, b1, b2⟩ := hB.keep hk2'
  cases bx
  · go_wp2
    go_ret
    exact ⟨rfl, hk0.trans' hk2'⟩
  go_wp2_with fail
  refine (L2.out w2).mono ?_
  rintro e w3 ⟨⟨bx, rfl⟩, hk⟩
  have hk3' := hk2'.trans' hk
  clear hk a0 a1 a2 b0 b1 b2
  obtain ⟨a0, a1, a2⟩ := hA.keep hk3'
  obtain ⟨b0, b1, b2⟩ := hB.keep hk3'
  cases bx
  · go_wp2
    go_ret
    exact ⟨rfl, hk0.trans' hk3'⟩
  go_wp2_with fail
  refine (R1.out w3).mono ?_
  rintro e w4 ⟨rfl, hk⟩
  have hk4' := hk3'.trans' hk
  clear hk a0 a1 a2 b0 b1 b2
  obtain ⟨a0, a1, a2⟩ := hA.keep hk4'
  obtain ⟨b0, b1, b2⟩ := hB.keep hk4'
  cases hra : a.right
  · go_wp2
    go_ret
    exact ⟨rfl, hk0.trans' hk4'⟩
  go_wp2_with fail
  refine (R2.out w4).mono ?_
  rintro e w5 ⟨rfl, hk⟩
  have hk5' := hk4'.trans' hk
  clear hk a0 a1 a2 b0 b1 b2
  obtain ⟨a0, a1, a2⟩ := hA.keep hk5'
  obtain ⟨b0, b1, b2⟩ := hB.keep hk5'
  cases hrb : b.right
  · go_wp2
    go_ret
    exact ⟨rfl, hk0.trans' hk5'⟩
  clear L1 L2 R1 R2
  go_wp2_with fail
  have hA5 := hA.keep hk5'
  have hB5 := hB.keep hk5'
  refine wp_region_dag' (C := fun w' => Keep w5 w') (R := Keep) [some (tV a.val), some (tB a.enc), some (tV b.val), some (tB b.enc), none, none] (by kernel_rfl) (by kernel_rfl) (Keep.refl w5).drew ?_
  refine dagT_told (by kernel_rfl) ?_ ?_
  · intro w9 hC hF
    obtain ⟨x0, x1, x2⟩ := hA5.keep hC
    refine Gives.value (v := a.val) (w' := w9) (by unfold Rw.val strV; go_simp) ?_
    exact ⟨hC, Keep.refl _, rfl⟩
  intro v w9 hC hF hv
  clear hC hF
  simp only [Act.put, List.setIfInBounds_toArray, List.set_cons_zero, List.set_cons_succ]
  obtain rfl := hv
  refine dagT_told (by kernel_rfl) ?_ ?_
  · intro w9 hC hF
    refine Gives.call (by (try unfold Rw.val strV); go_simp) (E1.out hra w9) ?_
    rintro e w' ⟨v', rfl, ho, hk⟩
    exact ⟨_, rfl, hC.trans' hk, hk, ho.slB⟩
  intro x w9 hC hF hx
  clear hC hF
  simp only [Act.put, List.setIfInBounds_toArray, List.set_cons_zero, List.set_cons_succ]
  obtain ⟨ax, nx, cx, rfl⟩ := SlB.shape hx
  refine dagT_told (by kernel_rfl) ?_ ?_
  · intro w9 hC hF
    obtain ⟨x0, x1, x2⟩ := hB5.keep hC
    refine Gives.value (v := b.val) (w' := w9) (by unfold Rw.val strV; go_simp) ?_
    exact ⟨hC, Keep.refl _, rfl⟩
  intro v w9 hC hF hv
  clear hC hF
  simp only [Act.put, List.setIfInBounds_toArray, List.set_cons_zero, List.set_cons_succ]
  obtain rfl := hv
  refine dagT_told (by kernel_rfl) ?_ ?_
  · intro w9 hC hF
    refine Gives.call (by (try unfold Rw.val strV); go_simp) (E2.out hrb w9) ?_
    rintro e w' ⟨v', rfl, ho, hk⟩
    exact ⟨_, rfl, hC.trans' hk, hk, ho.slB⟩
  intro y w9 hC hF hy
  clear hC hF
  simp only [Act.put, List.setIfInBounds_toArray, List.set_cons_zero, List.set_cons_succ]
  obtain ⟨ay, ny, cy, rfl⟩ := SlB.shape hy
  refine dagT_pure rfl ?_
  go_big_quiet_step (fail)
  refine dagT_on ?_
  refine dagT_pure rfl ?_
  go_big_quiet_step (fail)
  refine dagT_on ?_
  refine dagT_done ?_
  intro w6 hC hF
  have hx6 : SlB w6 _ a.enc := (hF 1).2.2.1 rfl
  have hy6 : SlB w6 _ b.enc := (hF 3).1 rfl
  have hk6' := hk5'.trans' hC
  obtain ⟨_, cx6, ex, _⟩ := hx6.form
  obtain ⟨_, cy6, ey, _⟩ := hy6.form
  simp only [Value.slice.injEq] at ex ey
  obtain ⟨-, hnx, -⟩ := ex
  obtain ⟨-, hny, -⟩ := ey
  rw [enc_length a hra] at hnx
  rw [enc_length b hrb] at hny
  subst hnx hny
  clear hF hx hy hC hA5 hB5 a0 a1 a2 b0 b1 b2
  have hA6 := hA.keep hk6'
  have hB6 := hB.keep hk6'
  clear E1 E2
  go_wp2_with fail
  by_cases hab : a = b
  · have c1 : (a.enc == b.enc) = true := beq_iff_eq.2 (by rw [hab])
    have c2 : (a.t == b.t && (a.k == b.k && a.v == b.v)) = true := by rw [hab]; simp
    refine wp_region_dag' (C := fun w' => Keep w6 w') (R := Keep) [none, none, none, none, none, none, none, none, none, none, some (tV (strV a.enc)), none, some (tV (strV b.enc)), none, some (tV a.val), some (tV b.val), none, none, none, none] (by kernel_rfl) (by kernel_rfl) (Keep.refl w6).drew ?_
    refine dagT_pure rfl ?_
    go_big_quiet_step (fail)
    refine dagT_on ?_
    refine dagT_pure rfl ?_
    go_big_quiet_step (fail)
    refine dagT_on ?_
    refine dagT_pure rfl ?_
    go_big_quiet_step (fail)
    refine dagT_on ?_
    refine dagT_pure rfl ?_
    go_big_quiet_step (fail)
    refine dagT_on ?_
    refine dagT_pure rfl ?_
    go_big_quiet_step (fail)
    refine dagT_on ?_
    refine dagT_pure rfl ?_
    go_big_quiet_step (fail)
    refine dagT_on ?_
    refine dagT_pure rfl ?_
    go_big_quiet_step (fail)
    refine dagT_on ?_
    refine dagT_pure rfl ?_
    go_big_quiet_step (fail)
    refine dagT_on ?_
    refine dagT_pure rfl ?_
    go_big_quiet_step (fail)
    refine dagT_on ?_
    refine dagT_pure rfl ?_
    go_big_quiet_step (fail)
    refine dagT_on ?_
    refine dagT_told (by kernel_rfl) ?_ ?_
    · intro w9 hC hF
      refine Gives.toStr Try.underlying26 Try.underlying5 Try.underlying9 _ rfl rfl (hx6.keep hC) ?_
      exact ⟨hC, Keep.refl _, rfl⟩
    intro v w9 hC hF hv
    clear hC hF
    simp only [Act.put, List.setIfInBounds_toArray, List.set_cons_zero, List.set_cons_succ]
    obtain rfl := hv
    refine dagT_pure rfl ?_
    go_big_quiet_step (fail)
    refine dagT_on ?_
    refine dagT_told (by kernel_rfl) ?_ ?_
    · intro w9 hC hF
      refine Gives.toStr Try.underlying26 Try.underlying5 Try.underlying9 _ rfl rfl (hy6.keep hC) ?_
      exact ⟨hC, Keep.refl _, rfl⟩
    intro v w9 hC hF hv
    clear hC hF
    simp only [Act.put, List.setIfInBounds_toArray, List.set_cons_zero, List.set_cons_succ]
    obtain rfl := hv
    unfold strV
    refine dagT_pure rfl ?_
    go_big_quiet_step (fail)
    refine dagT_on ?_
    refine dagT_told (by kernel_rfl) ?_ ?_
    · intro w9 hC hF
      obtain ⟨x0, x1, x2⟩ := hA6.keep hC
      refine Gives.value (v := a.val) (w' := w9) (by unfold Rw.val strV; go_simp) ?_
      exact ⟨hC, Keep.refl _, rfl⟩
    intro v w9 hC hF hv
    clear hC hF
    simp only [Act.put, List.setIfInBounds_toArray, List.set_cons_zero, List.set_cons_succ]
    obtain rfl := hv
    refine dagT_told (by kernel_rfl) ?_ ?_
    · intro w9 hC hF
      obtain ⟨x0, x1, x2⟩ := hB6.keep hC
      refine Gives.value (v := b.val) (w' := w9) (by unfold Rw.val strV; go_simp) ?_
      exact ⟨hC, Keep.refl _, rfl⟩
    intro v w9 hC hF hv
    clear hC hF
    simp only [Act.put, List.setIfInBounds_toArray, List.set_cons_zero, List.set_cons_succ]
    obtain rfl := hv
    unfold Rw.val strV
    refine dagT_pure rfl ?_
    go_big_quiet_step (fail)
    refine dagT_on ?_
    refine dagT_pure rfl ?_
    go_big_quiet_step (fail)
    refine dagT_on ?_
    refine dagT_pure rfl ?_
    go_big_quiet_step (fail)
    refine dagT_on ?_
    refine dagT_pure rfl ?_
    go_big_quiet_step (fail)
    refine dagT_on ?_
    refine dagT_done ?_
    intro w7 hC hF
    have hk7' := hk6'.trans' hC
    clear hF hC
    go_wp2
    go_ret
    exact ⟨rfl, hk0.trans' hk7'⟩
  · have c1 : (a.enc == b.enc) = false := beq_eq_false_iff_ne.2 (fun h => hab (Rw.enc_inj hra hrb h))
    by_cases ht : a.t = b.t
    · by_cases hkk : a.k = b.k
      · have hvv : ¬ a.v = b.v := fun h => hab (by cases a; cases b; simp_all)
        clear hab
        refine wp_region_dag' (C := fun w' => Keep w6 w') (R := Keep) [none, none, none, none, none, none, none, none, none, none, some (tV (strV a.enc)), none, some (tV (strV b.enc)), none, some (tV a.val), some (tV b.val), none, none, none, none] (by kernel_rfl) (by kernel_rfl) (Keep.refl w6).drew ?_
        refine dagT_pure rfl ?_
        go_big_quiet_step (fail)
        refine dagT_on ?_
        refine dagT_pure rfl ?_
        go_big_quiet_step (fail)
        refine dagT_on ?_
        refine dagT_pure rfl ?_
        go_big_quiet_step (fail)
        refine dagT_on ?_
        refine dagT_pure rfl ?_
        go_big_quiet_step (fail)
        refine dagT_on ?_
        refine dagT_pure rfl ?_
        go_big_quiet_step (fail)
        refine dagT_on ?_
        refine dagT_pure rfl ?_
        go_big_quiet_step (fail)
        refine dagT_on ?_
        refine dagT_pure rfl ?_
        go_big_quiet_step (fail)
        refine dagT_on ?_
        refine dagT_pure rfl ?_
        go_big_quiet_step (fail)
        refine dagT_on ?_
        refine dagT_pure rfl ?_
        go_big_quiet_step (fail)
        refine dagT_on ?_
        refine dagT_pure rfl ?_
        go_big_quiet_step (fail)
        refine dagT_on ?_
        refine dagT_told (by kernel_rfl) ?_ ?_
        · intro w9 hC hF
          refine Gives.toStr Try.underlying26 Try.underlying5 Try.underlying9 _ rfl rfl (hx6.keep hC) ?_
          exact ⟨hC, Keep.refl _, rfl⟩
        intro v w9 hC hF hv
        clear hC hF
        simp only [Act.put, List.setIfInBounds_toArray, List.set_cons_zero, List.set_cons_succ]
        obtain rfl := hv
        refine dagT_pure rfl ?_
        go_big_quiet_step (fail)
        refine dagT_on ?_
        refine dagT_told (by kernel_rfl) ?_ ?_
        · intro w9 hC hF
          refine Gives.toStr Try.underlying26 Try.underlying5 Try.underlying9 _ rfl rfl (hy6.keep hC) ?_
          exact ⟨hC, Keep.refl _, rfl⟩
        intro v w9 hC hF hv
        clear hC hF
        simp only [Act.put, List.setIfInBounds_toArray, List.set_cons_zero, List.set_cons_succ]
        obtain rfl := hv
        unfold strV
        refine dagT_pure rfl ?_
        go_big_quiet_step (fail)
        refine dagT_on ?_
        refine dagT_told (by kernel_rfl) ?_ ?_
        · intro w9 hC hF
          obtain ⟨x0, x1, x2⟩ := hA6.keep hC
          refine Gives.value (v := a.val) (w' := w9) (by unfold Rw.val strV; go_simp) ?_
          exact ⟨hC, Keep.refl _, rfl⟩
        intro v w9 hC hF hv
        clear hC hF
        simp only [Act.put, List.setIfInBounds_toArray, List.set_cons_zero, List.set_cons_succ]
        obtain rfl := hv
        refine dagT_told (by kernel_rfl) ?_ ?_
        · intro w9 hC hF
          obtain ⟨x0, x1, x2⟩ := hB6.keep hC
          refine Gives.value (v := b.val) (w' := w9) (by unfold Rw.val strV; go_simp) ?_
          exact ⟨hC, Keep.refl _, rfl⟩
        intro v w9 hC hF hv
        clear hC hF
        simp only [Act.put, List.setIfInBounds_toArray, List.set_cons_zero, List.set_cons_succ]
        obtain rfl := hv
        unfold Rw.val strV
        refine dagT_pure rfl ?_
        go_big_quiet_step (fail)
        refine dagT_on ?_
        refine dagT_pure rfl ?_
        go_big_quiet_step (fail)
        refine dagT_on ?_
        refine dagT_pure rfl ?_
        go_big_quiet_step (fail)
        refine dagT_on ?_
        refine dagT_pure rfl ?_
        go_big_quiet_step (fail)
        refine dagT_on ?_
        refine dagT_done ?_
        intro w7 hC hF
        have hk7' := hk6'.trans' hC
        clear hF hC
        go_wp2
        go_ret
        exact ⟨rfl, hk0.trans' hk7'⟩
      · clear hab
        refine wp_region_dag' (C := fun w' => Keep w6 w') (R := Keep) [none, none, none, none, none, none, none, none, none, none, some (tV (strV a.enc)), none, some (tV (strV b.enc)), none, some (tV a.val), some (tV b.val), none, none, none, none] (by kernel_rfl) (by kernel_rfl) (Keep.refl w6).drew ?_
        refine dagT_pure rfl ?_
        go_big_quiet_step (fail)
        refine dagT_on ?_
        refine dagT_pure rfl ?_
        go_big_quiet_step (fail)
        refine dagT_on ?_
        refine dagT_pure rfl ?_
        go_big_quiet_step (fail)
        refine dagT_on ?_
        refine dagT_pure rfl ?_
        go_big_quiet_step (fail)
        refine dagT_on ?_
        refine dagT_pure rfl ?_
        go_big_quiet_step (fail)
        refine dagT_on ?_
        refine dagT_pure rfl ?_
        go_big_quiet_step (fail)
        refine dagT_on ?_
        refine dagT_pure rfl ?_
        go_big_quiet_step (fail)
        refine dagT_on ?_
        refine dagT_pure rfl ?_
        go_big_quiet_step (fail)
        refine dagT_on ?_
        refine dagT_pure rfl ?_
        go_big_quiet_step (fail)
        refine dagT_on ?_
        refine dagT_pure rfl ?_
        go_big_quiet_step (fail)
        refine dagT_on ?_
        refine dagT_told (by kernel_rfl) ?_ ?_
        · intro w9 hC hF
          refine Gives.toStr Try.underlying26 Try.underlying5 Try.underlying9 _ rfl rfl (hx6.keep hC) ?_
          exact ⟨hC, Keep.refl _, rfl⟩
        intro v w9 hC hF hv
        clear hC hF
        simp only [Act.put, List.setIfInBounds_toArray, List.set_cons_zero, List.set_cons_succ]
        obtain rfl := hv
        refine dagT_pure rfl ?_
        go_big_quiet_step (fail)
        refine dagT_on ?_
        refine dagT_told (by kernel_rfl) ?_ ?_
        · intro w9 hC hF
          refine Gives.toStr Try.underlying26 Try.underlying5 Try.underlying9 _ rfl rfl (hy6.keep hC) ?_
          exact ⟨hC, Keep.refl _, rfl⟩
        intro v w9 hC hF hv
        clear hC hF
        simp only [Act.put, List.setIfInBounds_toArray, List.set_cons_zero, List.set_cons_succ]
        obtain rfl := hv
        unfold strV
        refine dagT_pure rfl ?_
        go_big_quiet_step (fail)
        refine dagT_on ?_
        refine dagT_told (by kernel_rfl) ?_ ?_
        · intro w9 hC hF
          obtain ⟨x0, x1, x2⟩ := hA6.keep hC
          refine Gives.value (v := a.val) (w' := w9) (by unfold Rw.val strV; go_simp) ?_
          exact ⟨hC, Keep.refl _, rfl⟩
        intro v w9 hC hF hv
        clear hC hF
        simp only [Act.put, List.setIfInBounds_toArray, List.set_cons_zero, List.set_cons_succ]
        obtain rfl := hv
        refine dagT_told (by kernel_rfl) ?_ ?_
        · intro w9 hC hF
          obtain ⟨x0, x1, x2⟩ := hB6.keep hC
          refine Gives.value (v := b.val) (w' := w9) (by unfold Rw.val strV; go_simp) ?_
          exact ⟨hC, Keep.refl _, rfl⟩
        intro v w9 hC hF hv
        clear hC hF
        simp only [Act.put, List.setIfInBounds_toArray, List.set_cons_zero, List.set_cons_succ]
        obtain rfl := hv
        unfold Rw.val strV
        refine dagT_pure rfl ?_
        go_big_quiet_step (fail)
        refine dagT_on ?_
        refine dagT_pure rfl ?_
        go_big_quiet_step (fail)
        refine dagT_on ?_
        refine dagT_pure rfl ?_
        go_big_quiet_step (fail)
        refine dagT_on ?_
        refine dagT_pure rfl ?_
        go_big_quiet_step (fail)
        refine dagT_on ?_
        refine dagT_done ?_
        intro w7 hC hF
        have hk7' := hk6'.trans' hC
        clear hF hC
        go_wp2
        go_ret
        exact ⟨rfl, hk0.trans' hk7'⟩
    · clear hab
      refine wp_region_dag' (C := fun w' => Keep w6 w') (R := Keep) [none, none, none, none, none, none, none, none, none, none, some (tV (strV a.enc)), none, some (tV (strV b.enc)), none, some (tV a.val), some (tV b.val), none, none, none, none] (by kernel_rfl) (by kernel_rfl) (Keep.refl w6).drew ?_
      refine dagT_pure rfl ?_
      go_big_quiet_step (fail)
      refine dagT_on ?_
      refine dagT_pure rfl ?_
      go_big_quiet_step (fail)
      refine dagT_on ?_
      refine dagT_pure rfl ?_
      go_big_quiet_step (fail)
      refine dagT_on ?_
      refine dagT_pure rfl ?_
      go_big_quiet_step (fail)
      refine dagT_on ?_
      refine dagT_pure rfl ?_
      go_big_quiet_step (fail)
      refine dagT_on ?_
      refine dagT_pure rfl ?_
      go_big_quiet_step (fail)
      refine dagT_on ?_
      refine dagT_pure rfl ?_
      go_big_quiet_step (fail)
      refine dagT_on ?_
      refine dagT_pure rfl ?_
      go_big_quiet_step (fail)
      refine dagT_on ?_
      refine dagT_pure rfl ?_
      go_big_quiet_step (fail)
      refine dagT_on ?_
      refine dagT_pure rfl ?_
      go_big_quiet_step (fail)
      refine dagT_on ?_
      refine dagT_told (by kernel_rfl) ?_ ?_
      · intro w9 hC hF
        refine Gives.toStr Try.underlying26 Try.underlying5 Try.underlying9 _ rfl rfl (hx6.keep hC) ?_
        exact ⟨hC, Keep.refl _, rfl⟩
      intro v w9 hC hF hv
      clear hC hF
      simp only [Act.put, List.setIfInBounds_toArray, List.set_cons_zero, List.set_cons_succ]
      obtain rfl := hv
      refine dagT_pure rfl ?_
      go_big_quiet_step (fail)
      refine dagT_on ?_
      refine dagT_told (by kernel_rfl) ?_ ?_
      · intro w9 hC hF
        refine Gives.toStr Try.underlying26 Try.underlying5 Try.underlying9 _ rfl rfl (hy6.keep hC) ?_
        exact ⟨hC, Keep.refl _, rfl⟩
      intro v w9 hC hF hv
      clear hC hF
      simp only [Act.put, List.setIfInBounds_toArray, List.set_cons_zero, List.set_cons_succ]
      obtain rfl := hv
      unfold strV
      refine dagT_pure rfl ?_
      go_big_quiet_step (fail)
      refine dagT_on ?_
      refine dagT_told (by kernel_rfl) ?_ ?_
      · intro w9 hC hF
        obtain ⟨x0, x1, x2⟩ := hA6.keep hC
        refine Gives.value (v := a.val) (w' := w9) (by unfold Rw.val strV; go_simp) ?_
        exact ⟨hC, Keep.refl _, rfl⟩
      intro v w9 hC hF hv
      clear hC hF
      simp only [Act.put, List.setIfInBounds_toArray, List.set_cons_zero, List.set_cons_succ]
      obtain rfl := hv
      refine dagT_told (by kernel_rfl) ?_ ?_
      · intro w9 hC hF
        obtain ⟨x0, x1, x2⟩ := hB6.keep hC
        refine Gives.value (v := b.val) (w' := w9) (by unfold Rw.val strV; go_simp) ?_
        exact ⟨hC, Keep.refl _, rfl⟩
      intro v w9 hC hF hv
      clear hC hF
      simp only [Act.put, List.setIfInBounds_toArray, List.set_cons_zero, List.set_cons_succ]
      obtain rfl := hv
      unfold Rw.val strV
      refine dagT_pure rfl ?_
      go_big_quiet_step (fail)
      refine dagT_on ?_
      refine dagT_pure rfl ?_
      go_big_quiet_step (fail)
      refine dagT_on ?_
      refine dagT_pure rfl ?_
      go_big_quiet_step (fail)
      refine dagT_on ?_
      refine dagT_pure rfl ?_
      go_big_quiet_step (fail)
      refine dagT_on ?_
      refine dagT_done ?_
      intro w7 hC hF
      have hk7' := hk6'.trans' hC
      clear hF hC
      go_wp2
      go_ret
      exact ⟨rfl, hk0.trans' hk7'⟩
end Go.Proofs.Ythgapchfhhcodaa
