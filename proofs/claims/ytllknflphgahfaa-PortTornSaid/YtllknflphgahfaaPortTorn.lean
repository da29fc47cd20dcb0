/- The walk of PortTorn. -/
import Derived.Test.YtllknflphgahfaaPortT
import Derived.Test.YtllknflphgahfaaRefRows
namespace Go.Proofs.Ytllknflphgahfaa
open Go Go.RowKit
attribute [local irreducible] Go.wpQuiet


set_option maxRecDepth 100000 in
set_option maxHeartbeats 8000000 in
theorem portTorn_any (v u : Value) (l : List Rw) (cut : Int) (more : List UInt8) (w : World) (hL : SlR w v l) (hM0 : SlB w u more) : Calls Try.prog 8 #[v, .int .i64 cut, u] w fun e w' => e = .returned (.bool true) ∧ Keep w w' := by
  obtain ⟨la, lc, rfl, -, -⟩ := hL.form
  obtain ⟨am, cm, rfl, -, -, -⟩ := hM0.form
  go_enter Try.func8, Try.ntmps8
  go_wp2_with fail
  refine (fit_any w).mono ?_
  rintro e w1 ⟨rfl, hk1⟩
  have hL1 := hL.keep hk1
  have hM1 := hM0.keep hk1
  clear hL hM0
  go_wp2_with fail
  refine (light_any _ l w1 hL1).mono ?_
  rintro e w2 ⟨b1, rfl, hb1, hk2⟩
  have hw2 := hk1.trans' hk2
  cases b1
  · go_wp2
    go_ret
    exact ⟨rfl, hw2⟩
  have H1 := Lib.hid (hb1 rfl)
  have hL2 := hL1.keep hk2
  have hM2 := hM1.keep hk2
  clear hb1 hL1 hM1 hk1 hk2
  by_cases h100 : 100 < more.length
  · have t5 : (100 : Int) < (more.length : Int) := by omega
    clear h100
    go_wp2
    go_ret
    exact ⟨rfl, hw2⟩
  have t5 : ¬ ((100 : Int) < (more.length : Int)) := by omega
  go_wp2_with fail
  refine (rising_any _ l w2 hL2 (by have := H1.out.1; omega)).mono ?_
  rintro e w3 ⟨v3, rfl, ls, hO3, hR3, h30, hk3⟩
  have hw3 := hw2.trans' hk3
  have hS3 := hO3.slr
  obtain ⟨a3, c3, rfl, -, -⟩ := hS3.form
  have HR := Lib.hid hR3
  clear hL2 hw2 hR3
  go_wp2_with fail
  refine (encode_any _ ls w3 hS3 HR.out.right (by omega)).mono ?_
  rintro e w4 ⟨v4, rfl, hO4, hk4⟩
  have hw4 := hw3.trans' hk4
  have hnw := hw3.size
  have hle := portL_le ls HR.out h30
  have h10 : 10 ≤ (portL ls).length := by rw [portL_length]; omega
  have HD := Lib.hid (portDec_ris ls HR.out h30)
  have hM := (hM2.keep hk3).keep hk4
  clear hO3 hS3 hw3 hk4 hM2 hk3
  obtain ⟨g4, cap4, rfl, -, -⟩ := hO4.head (by rw [List.length_map]; omega)
  rw [List.length_map] at hO4 ⊢
  generalize hLL : portL ls = L at *
  have HL := Lib.hid hLL
  clear hLL
  have t10 : ¬ ((L.length : Int) < 10) := by omega
  obtain ⟨k, hkn, hke⟩ := idx_at cut L.length (by omega) (by omega)
  have t9 : ((L.length : Int) == 0) = false := by rw [beq_eq_false_iff_ne]; omega
  have hcc : L.length ≤ cap4 := by
    obtain ⟨a', c', e', -, hc', -⟩ := hO4.slB.form
    simp only [Value.slice.injEq] at e'
    omega
  have hE := hO4.slB
  have hw := hw4
  clear hO4 hw4 hnw
  go_upto_region 9 with (fail)
  clear hke t9
  have hfi := hE.first k (by omega)
  go_wp2_with fail
  refine (decode_any _ (L.take k) w4 hfi (by rw [List.length_take]; omega)).mono ?_
  rintro e w5 ⟨v5, rfl, -, hkC⟩
  replace hE := hE.keep hkC
  replace hM := hM.keep hkC
  replace hw := hw.trans' hkC
  clear hfi hkC
  generalize hpc : (portDec (L.take k)).2 = zc at *
  have HPC := Lib.hid hpc
  clear hpc
  generalize hpm : (portDec (L ++ more)).2 = zm at *
  have HPM := Lib.hid hpm
  clear hpm
  go_upto_region 10 with (fail)
  refine wp_region_seq ?_
  refine seqW_pure rfl ?_
  go_big_quiet_step (fail)
  refine seqW_on ?_
  refine seqW_gives (by kernel_rfl) ?_
  refine Gives.appendB elemB _ _ rfl rfl rfl (l := []) (k := L) (base := w5.heap.size) (Own.nil _ _ _) hE (by simp; omega) (Nat.le_refl _) ?_
  intro v1 x1 hO1 hgr
  have hkA : Keep w5 x1 := (Keep.refl _).grown hgr (Nat.le_refl _) (fun j hj => by cases hj)
  rw [List.nil_append] at hO1
  have hMA := hM.keep hkA
  have hs1 := hkA.size
  obtain ⟨a1, n1, c1, rfl⟩ := hO1.slB.shape
  clear hgr
  simp only [Act.put, List.setIfInBounds_toArray, List.set_cons_zero, List.set_cons_succ]
  refine seqW_pure rfl ?_
  go_big_quiet_step (fail)
  refine seqW_on ?_
  refine seqW_gives (by kernel_rfl) ?_
  refine Gives.appendB elemB _ _ rfl rfl rfl (l := L) (k := more) hO1 hMA (by omega) hs1 ?_
  intro v2 x2 hO2 hgr
  have hkB : Keep w5 x2 := hkA.trans ((Below.refl _ _).grown hgr hs1 (fun j hj => (World.ownsRow.lt hO1 j hj).1))
  replace hE := hE.keep hkB
  replace hM := hM.keep hkB
  replace hw := hw.trans' hkB
  have hX := hO2.slB
  obtain ⟨a2, n2, c2, rfl⟩ := hX.shape
  clear hgr hkB hkA hO1 hO2 hMA hs1
  simp only [Act.put, List.setIfInBounds_toArray, List.set_cons_zero, List.set_cons_succ]
  refine seqW_gives (by kernel_rfl) ?_
  refine Gives.call (by go_simp) (decode_any _ (L ++ more) x2 hX (by simp; omega)) ?_
  rintro e w6 ⟨v6, rfl, -, hkC⟩
  refine ⟨_, rfl, ?_⟩
  replace hE := hE.keep hkC
  replace hM := hM.keep hkC
  replace hw := hw.trans' hkC
  clear hX
  rw [HPM.out]
  clear hkC
  simp only [Act.put, List.setIfInBounds_toArray, List.set_cons_zero, List.set_cons_succ]
  refine seqW_pure rfl ?_
  go_big_quiet_step (fail)
  refine seqW_on ?_
  refine seqW_pure rfl ?_
  go_big_quiet_step (fail)
  refine seqW_on ?_
  refine seqW_pure rfl ?_
  go_big_quiet_step (fail)
  refine seqW_on ?_
  refine seqW_pure rfl ?_
  go_big_quiet_step (fail)
  refine seqW_on ?_
  refine seqW_pure rfl ?_
  go_big_quiet_step (fail)
  refine seqW_on ?_
  refine seqW_done ?_
  go_upto_region 11 with (fail)
  refine wp_region_seq ?_
  refine seqW_pure rfl ?_
  go_big_quiet_step (fail)
  refine seqW_on ?_
  refine seqW_gives (by kernel_rfl) ?_
  refine Gives.appendB elemB _ _ rfl rfl rfl (l := []) (k := L) (base := w6.heap.size) (Own.nil _ _ _) hE (by simp; omega) (Nat.le_refl _) ?_
  intro v1 x1 hO1 hgr
  have hkA : Keep w6 x1 := (Keep.refl _).grown hgr (Nat.le_refl _) (fun j hj => by cases hj)
  rw [List.nil_append] at hO1
  have hMA := hM.keep hkA
  have hs1 := hkA.size
  obtain ⟨a1, n1, c1, rfl⟩ := hO1.slB.shape
  clear hgr
  simp only [Act.put, List.setIfInBounds_toArray, List.set_cons_zero, List.set_cons_succ]
  refine seqW_pure rfl ?_
  go_big_quiet_step (fail)
  refine seqW_on ?_
  refine seqW_gives (by kernel_rfl) ?_
  refine Gives.appendB elemB _ _ rfl rfl rfl (l := L) (k := more) hO1 hMA (by omega) hs1 ?_
  intro v2 x2 hO2 hgr
  have hkB : Keep w6 x2 := hkA.trans ((Below.refl _ _).grown hgr hs1 (fun j hj => (World.ownsRow.lt hO1 j hj).1))
  replace hE := hE.keep hkB
  replace hM := hM.keep hkB
  replace hw := hw.trans' hkB
  have hX := hO2.slB
  obtain ⟨a2, n2, c2, rfl⟩ := hX.shape
  clear hgr hkB hkA hO1 hO2 hMA hs1
  simp only [Act.put, List.setIfInBounds_toArray, List.set_cons_zero, List.set_cons_succ]
  refine seqW_gives (by kernel_rfl) ?_
  refine Gives.call (by go_simp) (refrows_any _ (L ++ more) x2 hX (by simp; omega)) ?_
  rintro e w7 ⟨v7, rfl, -, hkC⟩
  refine ⟨_, rfl, ?_⟩
  replace hE := hE.keep hkC
  replace hM := hM.keep hkC
  replace hw := hw.trans' hkC
  clear hX
  rw [HPM.out]
  clear hkC
  simp only [Act.put, List.setIfInBounds_toArray, List.set_cons_zero, List.set_cons_succ]
  refine seqW_pure rfl ?_
  go_big_quiet_step (fail)
  refine seqW_on ?_
  refine seqW_pure rfl ?_
  go_big_quiet_step (fail)
  refine seqW_on ?_
  refine seqW_pure rfl ?_
  go_big_quiet_step (fail)
  refine seqW_on ?_
  refine seqW_pure rfl ?_
  go_big_quiet_step (fail)
  refine seqW_on ?_
  refine seqW_pure rfl ?_
  go_big_quiet_step (fail)
  refine seqW_on ?_
  refine seqW_done ?_
  have hfi := hE.first k (by omega)
  go_wp2_with fail
  refine (refrows_any _ (L.take k) w7 hfi (by rw [List.length_take]; omega)).mono ?_
  rintro e w8 ⟨v8, rfl, -, hkC⟩
  rw [HPC.out]
  replace hw := hw.trans' hkC
  clear hE hM hfi hkC
  have hz : more.length = 0 → zm = 0 := by
    intro h
    have hm0 : more = [] := List.eq_nil_of_length_eq_zero h
    rw [← HPM.out, hm0, List.append_nil, HD.out]
  by_cases hm : 0 < more.length
  · have tm : (0 : Int) < (more.length : Int) := by omega
    clear hz
    go_wp2
    go_ret
    exact ⟨by first | rfl | simp, hw⟩
  have tm : ¬ ((0 : Int) < (more.length : Int)) := by omega
  have hz0 := hz (by omega)
  subst hz0
  clear hz
  go_wp2
  go_ret
  exact ⟨by first | rfl | simp, hw⟩
end Go.Proofs.Ytllknflphgahfaa
