/- The walk of PortWrong. -/
import Derived.Test.YtllknflphgahfaaPortW
namespace Go.Proofs.Ytllknflphgahfaa
open Go Go.RowKit
attribute [local irreducible] Go.wpQuiet


set_option maxRecDepth 100000 in
set_option maxHeartbeats 8000000 in
theorem portWrong_any (v : Value) (l : List Rw) (n : Int) (w : World) (hL : SlR w v l) : Calls Try.prog 5 #[v, .int .i64 n] w fun e w' => e = .returned (.bool true) ∧ Keep w w' := by
  obtain ⟨la, lc, rfl, -, -⟩ := hL.form
  go_enter Try.func5, Try.ntmps5
  go_wp2_with fail
  refine (fit_any w).mono ?_
  rintro e w1 ⟨rfl, hk1⟩
  have hL1 := hL.keep hk1
  clear hL
  go_wp2_with fail
  refine (light_any _ l w1 hL1).mono ?_
  rintro e w2 ⟨b1, rfl, hb1, hk2⟩
  have hw2 := hk1.trans' hk2
  cases b1
  · go_wp2
    go_ret
    exact ⟨rfl, hw2⟩
  have H1 := Lib.hid (hb1 rfl)
  have hL2 := hL1.keep hk2
  clear hb1 hL1 hk1 hk2
  go_wp2_with fail
  refine (rising_any _ l w2 hL2 (by have := H1.out.1; omega)).mono ?_
  rintro e w3 ⟨v3, rfl, ls, hO3, hR3, h30, hk3⟩
  have hw3 := hw2.trans' hk3
  have hw2x := hw2.size
  have hS3 := hO3.slr
  obtain ⟨a3, c3, rfl, -, -⟩ := hS3.form
  have HR := Lib.hid hR3
  clear hL2 hw2 hk3 hR3
  have hO := hO3.mono hw2x
  clear hO3 hS3
  obtain ⟨c15, hc15, he15⟩ := and_low n 15 4 rfl (by decide)
  have he15' : Go.bits .and .i64 n 15 = (c15 : Int) := he15
  clear he15
  go_wp2
  obtain ⟨N, hN⟩ : ∃ N, N = 31 + c15 := ⟨_, rfl⟩
  have hNe : (31 : Int) + (c15 : Int) = (N : Int) := by omega
  have hN1 : 30 < N := by omega
  have hN2 : N ≤ 46 := by omega
  rw [hNe]
  clear hNe hN he15' hc15
  go_loopw [5, 26] (fun o i wr => ∃ j : Nat, j ≤ N ∧ i = .int .i64 j ∧ OwnR wr w3.heap.size o (manyR j) ∧ Keep w3 wr) (fun _ i _ => N - (intOf i).toNat)
  case atStart => exact ⟨0, Nat.zero_le _, rfl, OwnR.nil _ _, Keep.refl _⟩
  case round =>
    obtain ⟨j, hj, rfl, hM, hk⟩ := hrel
    obtain ⟨ma, mc, rfl, -, -⟩ := hM.slr.form
    rw [many_length] at hM ⊢
    by_cases hjn : j < N
    · have hjd : (j : Int) < (N : Int) := by omega
      have HMS := Lib.hid (many_succ j)
      go_upto_region 10 with (fail)
      refine wp_region_seq ?_
      refine seqW_pure rfl ?_
      go_big_quiet_step (fail)
      refine seqW_on ?_
      refine seqW_pure rfl ?_
      go_big_quiet_step (fail)
      refine seqW_on ?_
      refine seqW_pure rfl ?_
      go_big_quiet_step (fail)
      refine seqW_on ?_
      refine seqW_gives (by kernel_rfl) ?_
      refine Gives.value (v := .slice (some ⟨wr.heap.size, 0, none⟩) 1 1) (w' := wr.alloc (.cells #[.int .u8 (j : Int)] 5)) (by go_simp) ?_
      have hb1 := laid_lt wr 5 (0, 0) j (by omega)
      have hka := Keep.alloc wr (.cells #[.int .u8 (j : Int)] 5)
      have hM1 := hM.keep hka
      have hk1 := hk.trans' hka
      clear hM hk hka
      generalize wr.alloc (.cells #[.int .u8 (j : Int)] 5) = y1 at *
      simp only [Act.put, List.setIfInBounds_toArray, List.set_cons_zero, List.set_cons_succ]
      refine seqW_gives (by kernel_rfl) ?_
      refine Gives.toStr Try.underlying26 Try.underlying5 Try.underlying9 _ rfl rfl hb1 ?_
      unfold strV
      simp only [Act.put, List.setIfInBounds_toArray, List.set_cons_zero, List.set_cons_succ]
      refine seqW_pure rfl ?_
      go_big_quiet_step (fail)
      refine seqW_on ?_
      refine seqW_gives (by kernel_rfl) ?_
      refine Gives.value (v := .slice (some ⟨y1.heap.size, 0, none⟩) 1 1) (w' := y1.alloc (.cells #[.int .i64 0, .string ⟨[UInt8.ofNat j].toArray⟩, .string ⟨[].toArray⟩] 32)) (by go_simp) ?_
      have hSl : SlR (y1.alloc (.cells #[.int .i64 0, .string ⟨[UInt8.ofNat j].toArray⟩, .string ⟨[].toArray⟩] 32)) (.slice (some ⟨y1.heap.size, 0, none⟩) 1 1) [mkR j] := SlR.laid (w := y1) (mkR j)
      have hkb := Keep.alloc y1 (.cells #[.int .i64 0, .string ⟨[UInt8.ofNat j].toArray⟩, .string ⟨[].toArray⟩] 32)
      have hM2 := hM1.keep hkb
      have hk2 := hk1.trans' hkb
      clear hM1 hk1 hkb hb1
      generalize y1.alloc (.cells #[.int .i64 0, .string ⟨[UInt8.ofNat j].toArray⟩, .string ⟨[].toArray⟩] 32) = y2 at *
      simp only [Act.put, List.setIfInBounds_toArray, List.set_cons_zero, List.set_cons_succ]
      refine seqW_gives (by kernel_rfl) ?_
      refine Gives.appendR _ _ rfl rfl rfl hM2 hSl (by rw [many_length]; simp; omega) hk2.size ?_
      intro v' w' hM3 hgr
      have hk3 : Keep w3 w' := hk2.grown hgr hk2.size (fun j hj => (hM2.lt j hj).1)
      rw [← HMS.out] at hM3
      clear hgr hM2 hSl hk2
      simp only [Act.put, List.setIfInBounds_toArray, List.set_cons_zero, List.set_cons_succ]
      refine seqW_pure rfl ?_
      go_big_quiet_step (fail)
      refine seqW_on ?_
      refine seqW_done ?_
      go_wp2
      go_roundw
      case rel => exact ⟨j + 1, by omega, by go_num, hM3, hk3⟩
      case measure => simp [intOf]; omega
    have hjd : ¬ ((j : Int) < (N : Int)) := by omega
    have hjN : j = N := by omega
    subst hjN
    have hOr := hO.keep hk
    have hwr := hw3.trans' hk
    have HMD := Lib.hid (many_dec j hN1 (by omega))
    have hfm : (rowsL (manyR j)).length ≤ 600 * 46 := by
      have h := fits_rows (manyR j) fun r hr => Rw.fits_of ((many_rise j (by omega)).right r hr)
      rw [many_length] at h
      omega
    have hMl := many_length j
    have hpl := portL_length (manyR j)
    have hMs := hM.slr
    clear hO hw3 hk hjn hM
    generalize manyR j = MR at *
    go_wp2_with fail
    refine (refbytes_any _ MR wr hMs (by omega) (by omega)).mono ?_
    rintro e w5 ⟨v5, rfl, hO5, hk5⟩
    have hb5 := hO5.slB
    have hO6 := hOr.keep hk5
    have hw5 := hwr.trans' hk5
    clear hMs hO5 hOr hwr hk5
    go_wp2_with fail
    refine (decode_any _ (portL MR) w5 hb5 (by omega)).mono ?_
    rintro e w6 ⟨v6, rfl, -, hk6⟩
    rw [HMD.out]
    have hO7 := hO6.keep hk6
    have hw6 := hw5.trans' hk6
    clear hb5 hO6 hw5 hk6 hfm hMl hpl
    simp only
    by_cases h2 : ls.length < 2
    · have t2 : (ls.length : Int) < 2 := by omega
      clear h2
      go_wp2
      go_ret
      exact ⟨rfl, hw6⟩
    have t2 : ¬ ((ls.length : Int) < 2) := by omega
    obtain ⟨c31, hc31, he31⟩ := and_low n 31 5 rfl (by decide)
    have he31' : Go.bits .and .i64 n 31 = (c31 : Int) := he31
    obtain ⟨k, hk⟩ : ∃ k, k = c31 % (ls.length - 1) := ⟨_, rfl⟩
    have hkl : k < ls.length - 1 := by rw [hk]; exact Nat.mod_lt _ (by omega)
    have hkm : (c31 : Int).tmod ((ls.length : Int) - 1) = (k : Int) := by
      rw [Int.tmod_eq_emod_of_nonneg (by omega), hk, Int.natCast_emod]
      congr 1
      omega
    have t3 : ((ls.length : Int) - 1 == 0) = false := by rw [beq_eq_false_iff_ne]; omega
    obtain ⟨g, cap, e7, hg7, -⟩ := hO7.head (by omega)
    cases e7
    clear he31 hk
    have hk1 : k + 1 < ls.length := by omega
    have hki : (k : Int) + 1 < (ls.length : Int) := by omega
    have hkj : (k : Int) < (ls.length : Int) := by omega
    have HNR := Lib.hid (portDec_not _ (swap_fits ls (fun r hr => Rw.fits_of (HR.out.right r hr)) k hk1) (by simp; omega) (swap_not ls HR.out k hk1))
    have HFL := Lib.hid (fits_rows _ (swap_fits ls (fun r hr => Rw.fits_of (HR.out.right r hr)) k hk1))
    have hSL : ((ls.set k ls[k + 1]).set (k + 1) ls[k]).length = ls.length := by simp
    have HSL := Lib.hid hSL
    generalize hz : ls[k + 1]'hk1 = z at *
    have HZ := Lib.hid hz
    have hk0 : k < ls.length := by omega
    generalize hr : ls[k]'hk0 = r at *
    have HRR := Lib.hid hr
    clear hz hr hSL
    go_upto_region 18 with (fail)
    clear hkm t3 he31'
    refine wp_region_ordI [none, none, none, none, none, none, none, none, none, some (oV (.agg #[.int .i64 z.t, .string ⟨z.k.toArray⟩, .string ⟨z.v.toArray⟩])), none, none, none, some (oV (.agg #[.int .i64 r.t, .string ⟨r.k.toArray⟩, .string ⟨r.v.toArray⟩])), none, some (oHasR (.slice (some ⟨g, 0, none⟩) ls.length c3) w.heap.size ((ls).set (k) z)), none, some (oHasR (.slice (some ⟨g, 0, none⟩) ls.length c3) w.heap.size ((ls.set (k) z).set (k + 1) r))]
      41472 #[0, 0, 0, 0, 0, 0, 0, 0, 0, 0, 0, 0, 0, 0, 0, 262144, 0, 32768] (w.heap.size) ((oHasR (.slice (some ⟨g, 0, none⟩) ls.length c3) w.heap.size ls).φ (.bool true)) (fun w' => Keep w w') (by kernel_rfl) (by kernel_rfl) (by kernel_rfl) (hw6.drew) ((oHasR (.slice (some ⟨g, 0, none⟩) ls.length c3) w.heap.size ls).st (.bool true)) (⟨hO7, fun _ _ _ _ => trivial⟩) ?_
    refine ordT_pure rfl ?_
    go_big_quiet_step (fail)
    refine ordT_on ?_
    refine ordT_pure rfl ?_
    go_big_quiet_step (fail)
    refine ordT_on ?_
    refine ordT_pure rfl ?_
    go_big_quiet_step (fail)
    refine ordT_on ?_
    refine ordT_pure rfl ?_
    go_big_quiet_step (fail)
    refine ordT_on ?_
    refine ordT_pure rfl ?_
    go_big_quiet_step (fail)
    refine ordT_on ?_
    refine ordT_pure rfl ?_
    go_big_quiet_step (fail)
    refine ordT_on ?_
    refine ordT_pure rfl ?_
    go_big_quiet_step (fail)
    refine ordT_on ?_
    refine ordT_pure rfl ?_
    go_big_quiet_step (fail)
    refine ordT_on ?_
    refine ordT_pure rfl ?_
    go_big_quiet_step (fail)
    refine ordT_on ?_
    refine ordT_read (by kernel_rfl) (fun w2 own hC hF => ?_) ?_
    · have h2 := ((hF 18 (by kernel_rfl)) rfl)
      obtain ⟨a0, a1, a2⟩ := h2.1.cell3 (k + 1) (by omega)
      rw [HZ.out] at a0 a1 a2
      go_simp
    simp only [Act.put, List.setIfInBounds_toArray, List.set_cons_zero, List.set_cons_succ]
    refine ordT_pure rfl ?_
    go_big_quiet_step (fail)
    refine ordT_on ?_
    refine ordT_pure rfl ?_
    go_big_quiet_step (fail)
    refine ordT_on ?_
    refine ordT_pure rfl ?_
    go_big_quiet_step (fail)
    refine ordT_on ?_
    refine ordT_read (by kernel_rfl) (fun w2 own hC hF => ?_) ?_
    · have h2 := (((hF 18 (by kernel_rfl)).2 rfl) rfl)
      obtain ⟨a0, a1, a2⟩ := h2.1.cell3 (k) (by omega)
      rw [HRR.out] at a0 a1 a2
      go_simp
    simp only [Act.put, List.setIfInBounds_toArray, List.set_cons_zero, List.set_cons_succ]
    refine ordT_pure rfl ?_
    go_big_quiet_step (fail)
    refine ordT_on ?_
    refine ordT_told (by kernel_rfl) (told_storeR g ls.length c3 (ls) (k) z (by first | omega | (simp; omega)) keepS (fun w2 x0 x1 x2 n0 n1 n2 f0 f1 f2 => by unfold laidRw; go_simp) fun w2 own hC hF => ?_) ?_
    · have h2 := ((((hF 18 (by kernel_rfl)).2 rfl).2 rfl) rfl)
      exact own_conR h2 rfl
    rintro _ w_ own_ - -
    simp only [Act.put, List.setIfInBounds_toArray, List.set_cons_zero, List.set_cons_succ]
    refine ordT_pure rfl ?_
    go_big_quiet_step (fail)
    refine ordT_on ?_
    refine ordT_told (by kernel_rfl) (told_storeR g ls.length c3 (ls.set (k) z) (k + 1) r (by first | omega | (simp; omega)) keepS (fun w2 x0 x1 x2 n0 n1 n2 f0 f1 f2 => by unfold laidRw; go_simp) fun w2 own hC hF => ?_) ?_
    · have h2 := ((hF 15 (by kernel_rfl)).1 rfl)
      exact own_conR h2 rfl
    rintro _ w_ own_ - -
    simp only [Act.put, List.setIfInBounds_toArray, List.set_cons_zero, List.set_cons_succ]
    refine ordT_done fun w2 own hC hF => ?_
    have hO8 := ((hF 17).1 rfl).1
    clear hF hO7 hw6 hkj hki
    have hS8 := hO8.slr
    have hF8 := HFL.out
    rw [HSL.out] at hF8
    have hpl := portL_length ((ls.set k z).set (k + 1) r)
    generalize hLX : (ls.set k z).set (k + 1) r = LX at *
    have hlx : LX.length ≤ 30 := by rw [HSL.out]; omega
    clear hLX hO8
    go_wp2_with fail
    refine (refbytes_any _ LX w2 hS8 (by omega) (by omega)).mono ?_
    rintro e y5 ⟨v5', rfl, hO5, hk5⟩
    have hb5 := hO5.slB
    have hw7 := hC.trans' hk5
    clear hO5 hS8 hk5 hC
    go_wp2_with fail
    refine (decode_any _ (portL LX) y5 hb5 (by omega)).mono ?_
    rintro e y6 ⟨v6', rfl, -, hk6⟩
    rw [HNR.out]
    have hw8 := hw7.trans' hk6
    clear hb5 hw7 hk6 hF8 hpl hlx
    simp only
    go_wp2_with fail
    have hR4 : SlR (y6.alloc (.cells #[.int .i64 4, .string ⟨[].toArray⟩, .string ⟨[].toArray⟩] 32)) (.slice (some ⟨y6.heap.size, 0, none⟩) 1 1) [⟨4, [], []⟩] := SlR.laid (w := y6) ⟨4, [], []⟩
    have hka := Keep.alloc y6 (.cells #[.int .i64 4, .string ⟨[].toArray⟩, .string ⟨[].toArray⟩] 32)
    have hw9 := hw8.trans' hka
    refine (refbytes_any _ [⟨4, [], []⟩] _ hR4 (by decide) (by decide)).mono ?_
    rintro e y7 ⟨v7, rfl, hO7, hk7⟩
    have hb7 := hO7.slB
    have hw10 := hw9.trans' hk7
    clear hR4 hka hw8 hw9 hO7 hk7
    go_wp2_with fail
    refine (decode_any _ (portL [⟨4, [], []⟩]) y7 hb7 (by rw [portL_length]; decide)).mono ?_
    rintro e y8 ⟨v8, rfl, -, hk8⟩
    rw [table4_dec]
    have hw11 := hw10.trans' hk8
    clear hb7 hw10 hk8
    simp only
    go_wp2_with fail
    have hR5 : SlR (y8.alloc (.cells #[.int .i64 0, .string ⟨[48, 49, 50, 51, 52, 53, 54, 55, 56, 57, 97, 98, 99, 100, 101, 102].toArray⟩, .string ⟨[].toArray⟩] 32)) (.slice (some ⟨y8.heap.size, 0, none⟩) 1 1) [⟨0, [48, 49, 50, 51, 52, 53, 54, 55, 56, 57, 97, 98, 99, 100, 101, 102], []⟩] := SlR.laid (w := y8) ⟨0, [48, 49, 50, 51, 52, 53, 54, 55, 56, 57, 97, 98, 99, 100, 101, 102], []⟩
    have hkb := Keep.alloc y8 (.cells #[.int .i64 0, .string ⟨[48, 49, 50, 51, 52, 53, 54, 55, 56, 57, 97, 98, 99, 100, 101, 102].toArray⟩, .string ⟨[].toArray⟩] 32)
    have hw12 := hw11.trans' hkb
    refine (refbytes_any _ [⟨0, [48, 49, 50, 51, 52, 53, 54, 55, 56, 57, 97, 98, 99, 100, 101, 102], []⟩] _ hR5 (by decide) (by decide)).mono ?_
    rintro e y9 ⟨v9, rfl, hO9, hk9⟩
    have hb9 := hO9.slB
    have hw13 := hw12.trans' hk9
    clear hR5 hkb hw11 hw12 hO9 hk9
    go_wp2_with fail
    refine (decode_any _ (portL [⟨0, [48, 49, 50, 51, 52, 53, 54, 55, 56, 57, 97, 98, 99, 100, 101, 102], []⟩]) y9 hb9 (by rw [portL_length]; decide)).mono ?_
    rintro e y10 ⟨v10, rfl, -, hk10⟩
    rw [key16_dec]
    have hw14 := hw13.trans' hk10
    clear hb9 hw13 hk10
    simp only
    go_wp2
    go_ret
    exact ⟨rfl, hw14⟩
end Go.Proofs.Ytllknflphgahfaa
