/- The walk of PortApart. -/
import Derived.Test.YtllknflphgahfaaPortL
namespace Go.Proofs.Ytllknflphgahfaa
open Go Go.RowKit
attribute [local irreducible] Go.wpQuiet

theorem rw_ext {r z : Rw} (h0 : r.t = z.t) (h1 : r.k = z.k) (h2 : r.v = z.v) : r = z := by
  cases r; cases z; simp_all
theorem eqTake_succ {a b : List Rw} (j : Nat) (h1 : j < a.length) (h2 : j < b.length) : a.take (j + 1) = b.take (j + 1) ↔ a.take j = b.take j ∧ a[j] = b[j] := by
  rw [take_succ_getElem a j h1, take_succ_getElem b j h2]
  constructor
  · intro h
    have := List.append_inj h (by simp; omega)
    exact ⟨this.1, by simpa using this.2⟩
  · rintro ⟨e1, e2⟩
    rw [e1, e2]
theorem portL_inj {a b : List Rw} (ha : Rise a) (hb : Rise b) (h1 : a.length ≤ 30) (h2 : b.length ≤ 30) : portL a = portL b ↔ a = b := by
  constructor
  · intro h
    have e1 := portDec_ris a ha h1
    rw [h, portDec_ris b hb h2] at e1
    exact (Prod.mk.inj e1).1.symm
  · rintro rfl; rfl
theorem same_end {a b : List Rw} (M : Nat) (hM : M = min a.length b.length) : (a.length = b.length ∧ a.take M = b.take M) ↔ a = b := by
  constructor
  · rintro ⟨h1, h2⟩
    have : M = a.length := by omega
    rw [this, List.take_length, h1, List.take_length] at h2
    exact h2
  · rintro rfl; exact ⟨rfl, rfl⟩

set_option maxRecDepth 100000 in
set_option maxHeartbeats 8000000 in
theorem portApart_any (v u : Value) (l k : List Rw) (w : World) (hL : SlR w v l) (hK : SlR w u k) : Calls Try.prog 7 #[v, u] w fun e w' => e = .returned (.bool true) ∧ Keep w w' := by
  obtain ⟨la, lc, rfl, -, -⟩ := hL.form
  obtain ⟨ka, kc, rfl, -, -⟩ := hK.form
  go_enter Try.func7, Try.ntmps7
  go_wp2_with fail
  refine (fit_any w).mono ?_
  rintro e w1 ⟨rfl, hk1⟩
  have hL1 := hL.keep hk1
  have hK1 := hK.keep hk1
  clear hL hK
  go_wp2_with fail
  refine (light_any _ l w1 hL1).mono ?_
  rintro e w2 ⟨b1, rfl, hb1, hk2⟩
  have hw2 := hk1.trans' hk2
  have hL2 := hL1.keep hk2
  have hK2 := hK1.keep hk2
  cases b1
  · go_wp2
    go_ret
    exact ⟨rfl, hw2⟩
  have H1 := Lib.hid (hb1 rfl)
  clear hb1 hL1 hK1 hk1 hk2
  go_wp2_with fail
  refine (light_any _ k w2 hK2).mono ?_
  rintro e w3 ⟨b2, rfl, hb2, hk3⟩
  have hw3 := hw2.trans' hk3
  have hL3 := hL2.keep hk3
  have hK3 := hK2.keep hk3
  cases b2
  · go_wp2
    go_ret
    exact ⟨rfl, hw3⟩
  have H2 := Lib.hid (hb2 rfl)
  clear hb2 hL2 hK2 hk3 hw2
  go_wp2_with fail
  refine (rising_any _ l w3 hL3 (by have := H1.out.1; omega)).mono ?_
  rintro e w4 ⟨v4, rfl, a, hO4, hRa, ha30, hk4⟩
  have hw4 := hw3.trans' hk4
  have hS4 := hO4.slr
  have hK4 := hK3.keep hk4
  obtain ⟨a4, c4, rfl, -, -⟩ := hS4.form
  clear hL3 hK3 hw3 hk4 hO4
  go_wp2_with fail
  refine (rising_any _ k w4 hK4 (by have := H2.out.1; omega)).mono ?_
  rintro e w5 ⟨v5, rfl, b, hO5, hRb, hb30, hk5⟩
  have hw5 := hw4.trans' hk5
  have hT5 := hO5.slr
  have hS5 := hS4.keep hk5
  obtain ⟨a5, c5, rfl, -, -⟩ := hT5.form
  clear hS4 hK4 hw4 hk5 hO5
  have HA := Lib.hid hRa
  have HB := Lib.hid hRb
  clear hRa hRb
  go_wp2_with fail
  refine (encode_any _ a w5 hS5 HA.out.right (by omega)).mono ?_
  rintro e w6 ⟨v6, rfl, hO6, hk6⟩
  have hw6 := hw5.trans' hk6
  have hS6 := hS5.keep hk6
  have hT6 := hT5.keep hk6
  have hE6 := hO6.slB
  obtain ⟨a6, c6, rfl, -, -, -⟩ := hE6.form
  clear hS5 hT5 hw5 hk6 hO6
  go_wp2_with fail
  refine (encode_any _ b w6 hT6 HB.out.right (by omega)).mono ?_
  rintro e w7 ⟨v7, rfl, hO7, hk7⟩
  have hw7 := hw6.trans' hk7
  have hS7 := hS6.keep hk7
  have hT7 := hT6.keep hk7
  have hE7 := hE6.keep hk7
  have hF7 := hO7.slB
  obtain ⟨a7, c7, rfl, -, -, -⟩ := hF7.form
  clear hS6 hT6 hE6 hw6 hk7 hO7
  have HIJ := Lib.hid (portL_inj HA.out HB.out ha30 hb30)
  generalize portL a = A at *
  generalize portL b = Z at *
  obtain ⟨M, hM⟩ : ∃ M, M = min a.length b.length := ⟨_, rfl⟩
  have HM := Lib.hid hM
  have hm1 : min (a.length : Int) (b.length : Int) = (M : Int) := by omega
  clear hM hm1
  go_upto_region 8 with (fail)
  refine wp_region_seq ?_
  refine seqW_pure rfl ?_
  go_big_quiet_step (fail)
  refine seqW_on ?_
  refine seqW_pure rfl ?_
  go_big_quiet_step (fail)
  refine seqW_on ?_
  refine seqW_pure rfl ?_
  go_big_quiet_step (fail)
  refine seqW_on ?_
  refine seqW_pure rfl ?_
  go_big_quiet_step (fail)
  refine seqW_on ?_
  refine seqW_gives (by kernel_rfl) ?_
  refine Gives.value (v := .int .i64 (M : Int)) (w' := w7) (by
    rcases Nat.lt_or_ge b.length a.length with h | h
    · have e : (M : Int) = (b.length : Int) := by have := HM.out; omega
      rw [e]
      go_simp
    · have e : (M : Int) = (a.length : Int) := by have := HM.out; omega
      rw [e]
      have h2 : ¬ (b.length < a.length) := by omega
      clear h
      go_simp) ?_
  simp only [Act.put, List.setIfInBounds_toArray, List.set_cons_zero, List.set_cons_succ]
  refine seqW_pure rfl ?_
  go_big_quiet_step (fail)
  refine seqW_on ?_
  refine seqW_done ?_
  have hst : ((a.length : Int) == (b.length : Int)) = decide (a.length = b.length ∧ a.take 0 = b.take 0) := by
    rw [Bool.eq_iff_iff, beq_iff_eq, decide_eq_true_eq]
    simp only [List.take_zero, and_true]
    omega
  rw [hst]
  clear hst
  go_wp2
  go_loopw [7, 37] (fun sv i wr => ∃ j : Nat, j ≤ M ∧ i = .int .i64 j ∧ sv = .bool (decide (a.length = b.length ∧ a.take j = b.take j)) ∧ Keep w7 wr) (fun _ i _ => M - (intOf i).toNat)
  case atStart => exact ⟨0, Nat.zero_le _, rfl, rfl, Keep.refl _⟩
  case round =>
    obtain ⟨j, hj, rfl, rfl, hk⟩ := hrel
    by_cases hjn : j < M
    rotate_left
    · have hjd : ¬ ((j : Int) < (M : Int)) := by omega
      have hjm : j = M := by omega
      have hse := same_end (a := a) (b := b) M HM.out
      have hsx : decide (a.length = b.length ∧ a.take j = b.take j) = decide (A = Z) := by
        rw [hjm]
        exact decide_eq_decide.2 (hse.trans HIJ.out.symm)
      rw [hsx]
      have hE := hE7.keep hk
      have hF := hF7.keep hk
      have hw8 := hw7.trans' hk
      have to1 := run_toString (P := Try.prog) Try.underlying26 Try.underlying5 Try.underlying9 hE
      have to2 := run_toString (P := Try.prog) Try.underlying26 Try.underlying5 Try.underlying9 hF
      unfold strV at to1 to2
      clear hjn hjm hse hsx hE7 hF7 hS7 hT7 hw7 hk hE hF
      go_wp2
      go_ret
      exact ⟨ret_bool (by by_cases h : A = Z <;> simp [h]), hw8⟩
    have hjd : (j : Int) < (M : Int) := by omega
    have hja : j < a.length := by have := HM.out; omega
    have hjb : j < b.length := by have := HM.out; omega
    have hja' : (j : Int) < (a.length : Int) := by omega
    have hjb' : (j : Int) < (b.length : Int) := by omega
    have hES := Lib.hid (eqTake_succ (a := a) (b := b) j hja hjb)
    obtain ⟨ba, offa, rfl, x0, x1, x2⟩ := (hS7.keep hk).elem j hja
    obtain ⟨bb, offb, rfl, y0, y1, y2⟩ := (hT7.keep hk).elem j hjb
    generalize a[j]'hja = r at *
    generalize b[j]'hjb = z at *
    by_cases hsame : a.length = b.length ∧ a.take j = b.take j
    rotate_left
    · rw [decide_eq_false hsame]
      have HN := Lib.hid hsame
      clear hsame
      go_upto_region 11 with (fail)
      refine wp_region_dag' (C := fun w' => Keep wr w') (R := Keep) [none, none, none, none, none, none, none, none, none, none, none, none, none]
        (by kernel_rfl) (by kernel_rfl) (Keep.refl wr).drew ?_
      refine dagT_pure rfl ?_
      go_big_quiet_step (fail)
      refine dagT_on ?_
      refine dagT_pure rfl ?_
      go_big_quiet_step (fail)
      refine dagT_on ?_
      refine dagT_skip (by kernel_rfl) ?_
      simp only [Act.put, List.setIfInBounds_toArray, List.set_cons_zero, List.set_cons_succ]
      refine dagT_skip (by kernel_rfl) ?_
      simp only [Act.put, List.setIfInBounds_toArray, List.set_cons_zero, List.set_cons_succ]
      refine dagT_skip (by kernel_rfl) ?_
      simp only [Act.put, List.setIfInBounds_toArray, List.set_cons_zero, List.set_cons_succ]
      refine dagT_skip (by kernel_rfl) ?_
      simp only [Act.put, List.setIfInBounds_toArray, List.set_cons_zero, List.set_cons_succ]
      refine dagT_skip (by kernel_rfl) ?_
      simp only [Act.put, List.setIfInBounds_toArray, List.set_cons_zero, List.set_cons_succ]
      refine dagT_skip (by kernel_rfl) ?_
      simp only [Act.put, List.setIfInBounds_toArray, List.set_cons_zero, List.set_cons_succ]
      refine dagT_skip (by kernel_rfl) ?_
      simp only [Act.put, List.setIfInBounds_toArray, List.set_cons_zero, List.set_cons_succ]
      refine dagT_skip (by kernel_rfl) ?_
      simp only [Act.put, List.setIfInBounds_toArray, List.set_cons_zero, List.set_cons_succ]
      refine dagT_skip (by kernel_rfl) ?_
      simp only [Act.put, List.setIfInBounds_toArray, List.set_cons_zero, List.set_cons_succ]
      refine dagT_pure rfl ?_
      go_big_quiet_step (fail)
      refine dagT_on ?_
      refine dagT_pure rfl ?_
      go_big_quiet_step (fail)
      refine dagT_on ?_
      refine dagT_done fun w2 hC hF => ?_
      clear hF
      go_wp2
      go_roundw
      case rel => exact ⟨j + 1, by omega, by go_num, by rw [decide_eq_false]; intro h; exact HN.out ⟨h.1, (hES.out.1 h.2).1⟩, hk.trans' hC⟩
      case measure => simp [intOf]; omega
    rw [decide_eq_true hsame]
    have HS := Lib.hid hsame
    clear hsame
    go_upto_region 11 with (fail)
    refine wp_region_dag' (C := fun w' => Keep wr w') (R := Keep) [none, none, none, none, none, some (tV (.agg #[.int .i64 r.t, .string ⟨r.k.toArray⟩, .string ⟨r.v.toArray⟩])), none, none, none, some (tV (.agg #[.int .i64 z.t, .string ⟨z.k.toArray⟩, .string ⟨z.v.toArray⟩])), some (tV (.bool (decide (r = z)))), none, none]
      (by kernel_rfl) (by kernel_rfl) (Keep.refl wr).drew ?_
    refine dagT_pure rfl ?_
    go_big_quiet_step (fail)
    refine dagT_on ?_
    refine dagT_pure rfl ?_
    go_big_quiet_step (fail)
    refine dagT_on ?_
    refine dagT_pure rfl ?_
    go_big_quiet_step (fail)
    refine dagT_on ?_
    refine dagT_pure rfl ?_
    go_big_quiet_step (fail)
    refine dagT_on ?_
    refine dagT_pure rfl ?_
    go_big_quiet_step (fail)
    refine dagT_on ?_
    refine dagT_told (by kernel_rfl) ?_ ?_
    · intro w2 hC hF
      have a0 := (hC.cell (World.block_lt_of_cell? _ _ x0)).trans x0
      have a1 := (hC.cell (World.block_lt_of_cell? _ _ x1)).trans x1
      have a2 := (hC.cell (World.block_lt_of_cell? _ _ x2)).trans x2
      exact Gives.value (v := .agg #[.int .i64 r.t, .string ⟨r.k.toArray⟩, .string ⟨r.v.toArray⟩]) (w' := w2) (by go_simp) ⟨hC, Keep.refl _, rfl⟩
    intro vv w2 hC hF hvv
    clear hC hF
    obtain rfl := hvv
    simp only [Act.put, List.setIfInBounds_toArray, List.set_cons_zero, List.set_cons_succ]
    refine dagT_pure rfl ?_
    go_big_quiet_step (fail)
    refine dagT_on ?_
    refine dagT_pure rfl ?_
    go_big_quiet_step (fail)
    refine dagT_on ?_
    refine dagT_pure rfl ?_
    go_big_quiet_step (fail)
    refine dagT_on ?_
    refine dagT_told (by kernel_rfl) ?_ ?_
    · intro w2 hC hF
      have a0 := (hC.cell (World.block_lt_of_cell? _ _ y0)).trans y0
      have a1 := (hC.cell (World.block_lt_of_cell? _ _ y1)).trans y1
      have a2 := (hC.cell (World.block_lt_of_cell? _ _ y2)).trans y2
      exact Gives.value (v := .agg #[.int .i64 z.t, .string ⟨z.k.toArray⟩, .string ⟨z.v.toArray⟩]) (w' := w2) (by go_simp) ⟨hC, Keep.refl _, rfl⟩
    intro vv w2 hC hF hvv
    clear hC hF
    obtain rfl := hvv
    simp only [Act.put, List.setIfInBounds_toArray, List.set_cons_zero, List.set_cons_succ]
    refine dagT_told (by kernel_rfl) ?_ ?_
    · intro w2 hC hF
      by_cases h0 : r.t = z.t
      · by_cases h1 : r.k = z.k
        · by_cases h2 : r.v = z.v
          · have e : r = z := rw_ext h0 h1 h2
            exact Gives.value (v := .bool (decide (r = z))) (w' := w2) (by rw [decide_eq_true e]; clear e; go_simp) ⟨hC, Keep.refl _, rfl⟩
          · exact Gives.value (v := .bool (decide (r = z))) (w' := w2) (by rw [decide_eq_false (show ¬ (r = z) from fun e => h2 (by rw [e]))]; go_simp) ⟨hC, Keep.refl _, rfl⟩
        · exact Gives.value (v := .bool (decide (r = z))) (w' := w2) (by rw [decide_eq_false (show ¬ (r = z) from fun e => h1 (by rw [e]))]; go_simp) ⟨hC, Keep.refl _, rfl⟩
      · exact Gives.value (v := .bool (decide (r = z))) (w' := w2) (by rw [decide_eq_false (show ¬ (r = z) from fun e => h0 (by rw [e]))]; go_simp) ⟨hC, Keep.refl _, rfl⟩
    intro vv w2 hC hF hvv
    clear hC hF
    obtain rfl := hvv
    simp only [Act.put, List.setIfInBounds_toArray, List.set_cons_zero, List.set_cons_succ]
    refine dagT_pure rfl ?_
    go_big_quiet_step (fail)
    refine dagT_on ?_
    refine dagT_pure rfl ?_
    go_big_quiet_step (fail)
    refine dagT_on ?_
    refine dagT_done fun w2 hC hF => ?_
    clear hF x0 x1 x2 y0 y1 y2
    go_wp2
    go_roundw
    case rel => exact ⟨j + 1, by omega, by go_num, by rw [decide_eq_decide.2 (show r = z ↔ (a.length = b.length ∧ a.take (j + 1) = b.take (j + 1)) from ⟨fun h => ⟨HS.out.1, hES.out.2 ⟨HS.out.2, h⟩⟩, fun h => (hES.out.1 h.2).2⟩)], hk.trans' hC⟩
    case measure => simp [intOf]; omega
end Go.Proofs.Ytllknflphgahfaa
