/- The walk of PortBack. -/
import Derived.Test.YtllknflphgahfaaPortL
import Derived.Test.YtllknflphgahfaaRefBytes
namespace Go.Proofs.Ytllknflphgahfaa
open Go Go.RowKit
attribute [local irreducible] Go.wpQuiet


set_option maxRecDepth 100000 in
set_option maxHeartbeats 8000000 in
theorem portBack_any (v : Value) (l : List Rw) (w : World) (hL : SlR w v l) : Calls Try.prog 3 #[v] w fun e w' => e = .returned (.bool true) ∧ Keep w w' := by
  obtain ⟨la, lc, rfl, -, -⟩ := hL.form
  go_enter Try.func3, Try.ntmps3
  go_wp2_with fail
  refine (fit_any w).mono ?_
  rintro e w1 ⟨rfl, hk1⟩
  have hL1 := hL.keep hk1
  clear hL
  go_wp2_with fail
  refine (light_any _ l w1 hL1).mono ?_
  rintro e w2 ⟨b1, rfl, hb1, hk2⟩
  have hw2 := hk1.trans' hk2
  cases b1
  · go_wp2
    go_ret
    exact ⟨rfl, hw2⟩
  have H1 := Lib.hid (hb1 rfl)
  have hL2 := hL1.keep hk2
  clear hb1 hL1 hk1 hk2
  go_wp2_with fail
  refine (rising_any _ l w2 hL2 (by have := H1.out.1; omega)).mono ?_
  rintro e w3 ⟨v3, rfl, ls, hO3, hR3, h30, hk3⟩
  have hw3 := hw2.trans' hk3
  have hS3 := hO3.slr
  obtain ⟨a3, c3, rfl, -, -⟩ := hS3.form
  have HR := Lib.hid hR3
  clear hL2 hw2 hk3 hR3 hO3
  go_wp2_with fail
  refine (encode_any _ ls w3 hS3 HR.out.right (by omega)).mono ?_
  rintro e w4 ⟨v4, rfl, hO4, hk4⟩
  have hw4 := hw3.trans' hk4
  have hS4 := hS3.keep hk4
  have hE4 := hO4.slB
  have hle := portL_le ls HR.out h30
  have HRL := Lib.hid (rowsL_le ls HR.out.right)
  have HD := Lib.hid (portDec_ris ls HR.out h30)
  obtain ⟨a4, c4, rfl, -, -, -⟩ := hE4.form
  clear hS3 hw3 hk4 hO4
  generalize hLL : portL ls = L at *
  have HL := Lib.hid hLL
  clear hLL
  go_wp2_with fail
  refine (decode_any _ L w4 hE4 (by omega)).mono ?_
  rintro e w5 ⟨v5, rfl, hG5, hk5⟩
  rw [HD.out] at hG5 ⊢
  simp only at hG5 ⊢
  obtain ⟨a5, c5, rfl, -, -⟩ := hG5.form
  have hw5 := hw4.trans' hk5
  have hS5 := hS4.keep hk5
  have hE5 := hE4.keep hk5
  clear hS4 hw4 hk5 hE4
  go_upto_region 8 with (fail)
  refine wp_region_dag' (C := fun w' => Keep w5 w') (R := Keep) [none, some (tV (.string ⟨(L).toArray⟩)), none, some (tB L), some (tV (.string ⟨(L).toArray⟩)), none, none, none, none, none, none, none, none, none, none, none, none]
    (by kernel_rfl) (by kernel_rfl) (Keep.refl w5).drew ?_
  refine dagT_pure rfl ?_
  go_big_quiet_step (fail)
  refine dagT_on ?_
  refine dagT_told (by kernel_rfl) ?_ ?_
  · intro w2 hC hF
    have hto := run_toString (P := Try.prog) Try.underlying26 Try.underlying5 Try.underlying9 (hE5.keep hC)
    unfold strV at hto
    exact Gives.value (v := .string ⟨(L).toArray⟩) (w' := w2) (by go_simp) ⟨hC, Keep.refl _, rfl⟩
  intro vv w2 hC hF hvv
  clear hC hF
  obtain rfl := hvv
  simp only [Act.put, List.setIfInBounds_toArray, List.set_cons_zero, List.set_cons_succ]
  refine dagT_pure rfl ?_
  go_big_quiet_step (fail)
  refine dagT_on ?_
  refine dagT_told (by kernel_rfl) ?_ ?_
  · intro w2 hC hF
    refine Gives.call (by go_simp) (refbytes_any _ ls w2 (hS5.keep hC) (by omega) (by have := HRL.out; omega)) ?_
    rintro e w' ⟨v', rfl, hO, hk⟩
    exact ⟨_, rfl, hC.trans' hk, hk, (by rw [← HL.out]; exact hO.slB)⟩
  intro b3 w2 hC hF hb3
  clear hC hF
  obtain ⟨ab3, nb3, cb3, rfl⟩ := SlB.shape hb3
  simp only [Act.put, List.setIfInBounds_toArray, List.set_cons_zero, List.set_cons_succ]
  refine dagT_told (by kernel_rfl) ?_ ?_
  · intro w2 hC hF
    have hto := run_toString (P := Try.prog) Try.underlying26 Try.underlying5 Try.underlying9 (((hF 3 (by kernel_rfl)).1 rfl))
    unfold strV at hto
    exact Gives.value (v := .string ⟨(L).toArray⟩) (w' := w2) (by go_simp) ⟨hC, Keep.refl _, rfl⟩
  intro vv w2 hC hF hvv
  clear hC hF
  obtain rfl := hvv
  simp only [Act.put, List.setIfInBounds_toArray, List.set_cons_zero, List.set_cons_succ]
  refine dagT_pure rfl ?_
  go_big_quiet_step (fail)
  refine dagT_on ?_
  refine dagT_pure rfl ?_
  go_big_quiet_step (fail)
  refine dagT_on ?_
  refine dagT_pure rfl ?_
  go_big_quiet_step (fail)
  refine dagT_on ?_
  refine dagT_pure rfl ?_
  go_big_quiet_step (fail)
  refine dagT_on ?_
  refine dagT_pure rfl ?_
  go_big_quiet_step (fail)
  refine dagT_on ?_
  refine dagT_pure rfl ?_
  go_big_quiet_step (fail)
  refine dagT_on ?_
  refine dagT_pure rfl ?_
  go_big_quiet_step (fail)
  refine dagT_on ?_
  refine dagT_pure rfl ?_
  go_big_quiet_step (fail)
  refine dagT_on ?_
  refine dagT_pure rfl ?_
  go_big_quiet_step (fail)
  refine dagT_on ?_
  refine dagT_pure rfl ?_
  go_big_quiet_step (fail)
  refine dagT_on ?_
  refine dagT_pure rfl ?_
  go_big_quiet_step (fail)
  refine dagT_on ?_
  refine dagT_pure rfl ?_
  go_big_quiet_step (fail)
  refine dagT_on ?_
  refine dagT_done fun w2 hC hF => ?_
  clear hF
  have hS6 := hS5.keep hC
  have hG6 := hG5.keep hC
  have hw6 := hw5.trans' hC
  clear hS5 hG5 hE5 hw5 hC
  go_wp2
  go_loopw [40] (fun i wr => ∃ j : Nat, j ≤ ls.length ∧ i = .int .i64 j ∧ Keep w2 wr) (fun i _ => ls.length - (intOf i).toNat)
  case atStart => exact ⟨0, Nat.zero_le _, rfl, Keep.refl _⟩
  case round =>
    obtain ⟨j, hj, rfl, hk⟩ := hrel
    have hw7 := hw6.trans' hk
    by_cases hjn : j < ls.length
    rotate_left
    · have hjd : ¬ ((j : Int) < (ls.length : Int)) := by omega
      clear hjn
      go_wp2
      go_ret
      exact ⟨rfl, hw7⟩
    have hjl : (j : Int) < (ls.length : Int) := by omega
    obtain ⟨ba, offa, rfl, x0, x1, x2⟩ := (hG6.keep hk).elem j hjn
    obtain ⟨bb, offb, rfl, y0, y1, y2⟩ := (hS6.keep hk).elem j hjn
    generalize ls[j]'hjn = r at *
    go_upto_region 13 with (fail)
    refine wp_region_dag' (C := fun w' => Keep wr w') (R := Keep) [none, none, none, some (tV (.agg #[.int .i64 r.t, .string ⟨r.k.toArray⟩, .string ⟨r.v.toArray⟩])), none, none, none, some (tV (.agg #[.int .i64 r.t, .string ⟨r.k.toArray⟩, .string ⟨r.v.toArray⟩])), none]
      (by kernel_rfl) (by kernel_rfl) (Keep.refl wr).drew ?_
    refine dagT_pure rfl ?_
    go_big_quiet_step (fail)
    refine dagT_on ?_
    refine dagT_pure rfl ?_
    go_big_quiet_step (fail)
    refine dagT_on ?_
    refine dagT_pure rfl ?_
    go_big_quiet_step (fail)
    refine dagT_on ?_
    refine dagT_told (by kernel_rfl) ?_ ?_
    · intro w2 hC hF
      have a0 := (hC.cell (World.block_lt_of_cell? _ _ x0)).trans x0
      have a1 := (hC.cell (World.block_lt_of_cell? _ _ x1)).trans x1
      have a2 := (hC.cell (World.block_lt_of_cell? _ _ x2)).trans x2
      exact Gives.value (v := .agg #[.int .i64 r.t, .string ⟨r.k.toArray⟩, .string ⟨r.v.toArray⟩]) (w' := w2) (by go_simp) ⟨hC, Keep.refl _, rfl⟩
    intro vv w2 hC hF hvv
    clear hC hF
    obtain rfl := hvv
    simp only [Act.put, List.setIfInBounds_toArray, List.set_cons_zero, List.set_cons_succ]
    refine dagT_pure rfl ?_
    go_big_quiet_step (fail)
    refine dagT_on ?_
    refine dagT_pure rfl ?_
    go_big_quiet_step (fail)
    refine dagT_on ?_
    refine dagT_pure rfl ?_
    go_big_quiet_step (fail)
    refine dagT_on ?_
    refine dagT_told (by kernel_rfl) ?_ ?_
    · intro w2 hC hF
      have a0 := (hC.cell (World.block_lt_of_cell? _ _ y0)).trans y0
      have a1 := (hC.cell (World.block_lt_of_cell? _ _ y1)).trans y1
      have a2 := (hC.cell (World.block_lt_of_cell? _ _ y2)).trans y2
      exact Gives.value (v := .agg #[.int .i64 r.t, .string ⟨r.k.toArray⟩, .string ⟨r.v.toArray⟩]) (w' := w2) (by go_simp) ⟨hC, Keep.refl _, rfl⟩
    intro vv w2 hC hF hvv
    clear hC hF
    obtain rfl := hvv
    simp only [Act.put, List.setIfInBounds_toArray, List.set_cons_zero, List.set_cons_succ]
    refine dagT_pure rfl ?_
    go_big_quiet_step (fail)
    refine dagT_on ?_
    refine dagT_done fun w2 hC hF => ?_
    clear hF x0 x1 x2 y0 y1 y2
    go_wp2
    go_roundw
    case rel => exact ⟨j + 1, by omega, by go_num, hk.trans' hC⟩
    case measure => simp [intOf]; omega
end Go.Proofs.Ytllknflphgahfaa
