/- The walk of PageAny. -/
import Derived.Test.YtdnmddfnlkaahaaPageL
namespace Go.Proofs.Ytdnmddfnlkaahaa
open Go Go.RowKit
attribute [local irreducible] Go.wpQuiet

theorem free_blank : (Pg.blank 2 3).free [] = 0 := by decide
set_option maxRecDepth 100000 in
set_option maxHeartbeats 8000000 in
theorem pageAny_any (v : Value) (l : List Rw) (at_ : Int) (x : UInt8) (w : World) (hS : SlR w v l) : Calls Try.prog 10 #[v, .int .i64 at_, .int .u8 (x.toNat : Int)] w fun e w' => e = .returned (.bool true) ∧ Keep w w' := by
  obtain ⟨va, vc, rfl, -, -⟩ := hS.form
  have HFB := Lib.hid free_blank
  go_enter Try.func10, Try.ntmps10
  go_wp2_with fail
  refine (fit_any _).mono ?_
  rintro e w1 ⟨rfl, k1⟩
  go_wp2_with fail
  refine (light_any _ l w1 (hS.keep k1)).mono ?_
  rintro e w2 ⟨bb, rfl, -, kw2⟩
  have kw2 := k1.trans' kw2
  cases bb
  · go_wp2
    go_ret
    exact ⟨rfl, kw2⟩
  go_wp2_with fail
  refine (fill_any _ l 5 (2) (3) w2 (hS.keep kw2) (by first | assumption | decide)).mono ?_
  rintro e w3 ⟨p, g, gm, rfl, H⟩
  have htp : p.tenant = 2 := H.t.trans (by decide)
  have hnp : p.number = 3 := H.n.trans (by decide)
  have hP := H.at_
  have k3 := kw2.trans' H.k
  have hpok := hP.ok
  clear H
  go_upto_region 6 with (fail)
  refine wp_region_seq ?_
  refine seqW_pure rfl ?_
  go_big_quiet_step (fail)
  refine seqW_on ?_
  refine seqW_gives (by kernel_rfl) ?_
  refine Gives.value (v := .pointer (some ⟨g, 0, none⟩)) (w' := w3) (by go_simp) ?_
  simp only [Act.put, List.setIfInBounds_toArray, List.set_cons_zero, List.set_cons_succ]
  refine seqW_gives (by kernel_rfl) ?_
  refine Gives.loadBig bigP _ rfl (g := g) (off := 0) rfl p.cells hP.ok.cells (fun j v hj => cell_of hP.h _ v (by rw [Nat.zero_add]; exact hj)) ?_
  simp only [Act.put, List.setIfInBounds_toArray, List.set_cons_zero, List.set_cons_succ]
  refine seqW_gives (by kernel_rfl) ?_
  refine Gives.call (by first | (go_simp; done) | (go_simp; rfl)) (pencode_any p hP.ok (by rw [htp]; decide) (by rw [hnp]; decide) w3) ?_
  rintro e w4 ⟨v4, rfl, hOw4, kw4⟩
  refine ⟨_, rfl, ?_⟩
  simp only [Act.put, List.setIfInBounds_toArray, List.set_cons_zero, List.set_cons_succ]
  refine seqW_pure rfl ?_
  go_big_quiet_step (fail)
  refine seqW_on ?_
  refine seqW_done ?_
  have k4 := k3.trans' kw4
  have hel := hpok.enc
  obtain ⟨gb, cb, rfl, hgb, hgbl⟩ := hOw4.head (by rw [List.length_map, hel]; decide)
  rw [List.length_map, hel] at hOw4 ⊢
  obtain ⟨c, hc, hce⟩ := and_low at_ 255 8 rfl (by decide)
  have hce2 : Go.bits .and .i64 at_ 255 = (c : Int) := hce
  have x0 := hOw4.cellOf c (by rw [List.length_map, hel]; omega)
  rw [List.getElem_map] at x0
  have f0 := hOw4.freeOf c
  have hO5 := hOw4.stored c (B x)
  rw [← List.map_set] at hO5
  have k5 : Keep w (w4.setCell ⟨gb, c, none⟩ (B x)) := Keep.setCell k4 (Nat.le_trans k3.size hgb) _
  have hci : (c : Int) < 256 := by omega
  have hci2 : ¬ (256 : Int) ≤ (c : Int) := by omega
  have hel5 : (p.enc.set c x).length = 256 := by rw [List.length_set, hel]
  unfold B at x0
  generalize p.enc[c]'(by omega) = y at *
  clear hP kw4 k3
  go_upto_region 7 with (fail)
  refine wp_region_seq ?_
  refine seqW_pure rfl ?_
  go_big_quiet_step (fail)
  refine seqW_on ?_
  refine seqW_pure rfl ?_
  go_big_quiet_step (fail)
  refine seqW_on ?_
  refine seqW_gives (by kernel_rfl) ?_
  refine Gives.value (v := .int .i64 (c : Int)) (w' := w4) (by rw [← hce2]; go_simp) ?_
  simp only [Act.put, List.setIfInBounds_toArray, List.set_cons_zero, List.set_cons_succ]
  refine seqW_pure rfl ?_
  go_big_quiet_step (fail)
  refine seqW_on ?_
  refine seqW_gives (by kernel_rfl) ?_
  refine Gives.value (v := .pointer (some ⟨gb, c, none⟩)) (w' := w4) (by go_simp) ?_
  simp only [Act.put, List.setIfInBounds_toArray, List.set_cons_zero, List.set_cons_succ]
  refine seqW_gives (by kernel_rfl) ?_
  refine Gives.skip (w' := w4.setCell ⟨gb, c, none⟩ (.int .u8 (x.toNat : Int))) (by go_simp) ?_
  simp only [Act.put, List.setIfInBounds_toArray, List.set_cons_zero, List.set_cons_succ]
  refine seqW_done ?_
  have hb5 : SlB (w4.setCell ⟨gb, c, none⟩ (.int .u8 (x.toNat : Int))) (.slice (some ⟨gb, 0, none⟩) 256 cb) (p.enc.set c x) := hO5.slB
  have k5 : Keep w (w4.setCell ⟨gb, c, none⟩ (.int .u8 (x.toNat : Int))) := k5
  clear x0 f0 hOw4 hO5 hel
  generalize w4.setCell ⟨gb, c, none⟩ (.int .u8 (x.toNat : Int)) = w5 at *
  generalize p.enc.set c x = E at *
  go_upto_region 8 with (fail)
  refine wp_region_seq ?_
  refine seqW_pure rfl ?_
  go_big_quiet_step (fail)
  refine seqW_on ?_
  refine seqW_gives (by kernel_rfl) ?_
  refine Gives.call (by first | (go_simp; done) | (go_simp; rfl)) (pdecode_any _ (E) 2 3 w5 hb5 (by rw [hel5]; decide) (by decide) (by decide)) ?_
  rintro e w6 ⟨rfl, kw6⟩
  refine ⟨_, rfl, ?_⟩
  have hfitD := Pg.dec_fit (E) 2 3
  obtain ⟨D, hD⟩ : ∃ x, Pg.dec (E) 2 3 = x := ⟨_, rfl⟩
  rw [hD] at hfitD
  rw [hD]
  have HD := Lib.hid hD
  clear hD
  have hvD : D.1.val = .agg D.1.cells.toArray := rfl
  rw [hvD]
  clear hvD
  simp only [Act.put, List.setIfInBounds_toArray, List.set_cons_zero, List.set_cons_succ]
  refine seqW_pure rfl ?_
  go_big_quiet_step (fail)
  refine seqW_on ?_
  refine seqW_pure rfl ?_
  go_big_quiet_step (fail)
  refine seqW_on ?_
  refine seqW_pure rfl ?_
  go_big_quiet_step (fail)
  refine seqW_on ?_
  refine seqW_gives (by kernel_rfl) ?_
  refine Gives.allocBig bigP rfl ?_
  have hzgq : PgAt (w6.alloc (.cells Pg.zero.cells.toArray 36)) w6.heap.size Pg.zero := ⟨heap_alloc_new w6 _, Pg.zero_ok⟩
  have kagq := Keep.alloc w6 (.cells Pg.zero.cells.toArray 36)
  obtain ⟨gq, hegq⟩ : ∃ x, x = w6.heap.size := ⟨_, rfl⟩
  rw [← hegq] at hzgq
  rw [← hegq]
  generalize w6.alloc (.cells Pg.zero.cells.toArray 36) = wagq at *
  have hlgq : w6.heap.size ≤ gq := Nat.le_of_eq hegq.symm
  clear hegq
  simp only [Act.put, List.setIfInBounds_toArray, List.set_cons_zero, List.set_cons_succ]
  refine seqW_gives (by kernel_rfl) ?_
  refine Gives.storeBig bigP _ _ rfl (g := gq) (off := 0) rfl (D).1.cells rfl hzgq.h hfitD.cells (by rw [List.size_toArray, hzgq.ok.cells]; exact Nat.le_refl _) (Pg.cells_one _) ?_
  have hpgq := hzgq.over hfitD
  have hbgq := row_but wagq gq (Pg.zero.cells.toArray.toList.take 0 ++ (D).1.cells ++ Pg.zero.cells.toArray.toList.drop (0 + 203)).toArray
  generalize wagq.setRow gq (Pg.zero.cells.toArray.toList.take 0 ++ (D).1.cells ++ Pg.zero.cells.toArray.toList.drop (0 + 203)).toArray = w7 at *
  have kw7 : Keep w6 w7 := kagq.trans (But.below hbgq hlgq kagq.size)
  clear hzgq kagq hbgq
  simp only [Act.put, List.setIfInBounds_toArray, List.set_cons_zero, List.set_cons_succ]
  refine seqW_pure rfl ?_
  go_big_quiet_step (fail)
  refine seqW_on ?_
  refine seqW_done ?_
  have k7 := (k5.trans' kw6).trans' kw7
  have hb7 := hb5.keep (kw6.trans' kw7)
  clear hb5 kw6 kw7 k5
  go_upto_region 9 with (fail)
  refine wp_region_seq ?_
  refine seqW_gives (by kernel_rfl) ?_
  refine Gives.makeB elemB _ _ 256 rfl rfl rfl (by decide) ?_
  have hOz := Own.made w7 5 w.heap.size 256 k7.size (by decide)
  have kz := Keep.alloc w7 (.cells ((zB 256).map B).toArray 5)
  have hbz := hOz.slB
  generalize w7.alloc (.cells ((zB 256).map B).toArray 5) = w8 at *
  generalize w7.heap.size = gz0 at *
  simp only [Act.put, List.setIfInBounds_toArray, List.set_cons_zero, List.set_cons_succ]
  refine seqW_gives (by kernel_rfl) ?_
  refine Gives.call (by first | (go_simp; done) | (go_simp; rfl)) (pdecode_any _ (zB 256) 2 3 w8 hbz (by rw [zB_length]; decide) (by decide) (by decide)) ?_
  rintro e w9 ⟨rfl, kw9⟩
  refine ⟨_, rfl, ?_⟩
  have hfitZ := Pg.dec_fit (zB 256) 2 3
  obtain ⟨Z, hZ⟩ : ∃ x, Pg.dec (zB 256) 2 3 = x := ⟨_, rfl⟩
  rw [hZ] at hfitZ
  rw [hZ]
  have HZ := Lib.hid hZ
  clear hZ
  have hvZ : Z.1.val = .agg Z.1.cells.toArray := rfl
  rw [hvZ]
  clear hvZ
  simp only [Act.put, List.setIfInBounds_toArray, List.set_cons_zero, List.set_cons_succ]
  refine seqW_pure rfl ?_
  go_big_quiet_step (fail)
  refine seqW_on ?_
  refine seqW_pure rfl ?_
  go_big_quiet_step (fail)
  refine seqW_on ?_
  refine seqW_pure rfl ?_
  go_big_quiet_step (fail)
  refine seqW_on ?_
  refine seqW_gives (by kernel_rfl) ?_
  refine Gives.allocBig bigP rfl ?_
  have hzgz : PgAt (w9.alloc (.cells Pg.zero.cells.toArray 36)) w9.heap.size Pg.zero := ⟨heap_alloc_new w9 _, Pg.zero_ok⟩
  have kagz := Keep.alloc w9 (.cells Pg.zero.cells.toArray 36)
  obtain ⟨gz, hegz⟩ : ∃ x, x = w9.heap.size := ⟨_, rfl⟩
  rw [← hegz] at hzgz
  rw [← hegz]
  generalize w9.alloc (.cells Pg.zero.cells.toArray 36) = wagz at *
  have hlgz : w9.heap.size ≤ gz := Nat.le_of_eq hegz.symm
  clear hegz
  simp only [Act.put, List.setIfInBounds_toArray, List.set_cons_zero, List.set_cons_succ]
  refine seqW_gives (by kernel_rfl) ?_
  refine Gives.storeBig bigP _ _ rfl (g := gz) (off := 0) rfl (Z).1.cells rfl hzgz.h hfitZ.cells (by rw [List.size_toArray, hzgz.ok.cells]; exact Nat.le_refl _) (Pg.cells_one _) ?_
  have hpgz := hzgz.over hfitZ
  have hbgz := row_but wagz gz (Pg.zero.cells.toArray.toList.take 0 ++ (Z).1.cells ++ Pg.zero.cells.toArray.toList.drop (0 + 203)).toArray
  generalize wagz.setRow gz (Pg.zero.cells.toArray.toList.take 0 ++ (Z).1.cells ++ Pg.zero.cells.toArray.toList.drop (0 + 203)).toArray = w10 at *
  have kw10 : Keep w9 w10 := kagz.trans (But.below hbgz hlgz kagz.size)
  clear hzgz kagz hbgz
  simp only [Act.put, List.setIfInBounds_toArray, List.set_cons_zero, List.set_cons_succ]
  refine seqW_pure rfl ?_
  go_big_quiet_step (fail)
  refine seqW_on ?_
  refine seqW_done ?_
  have hZ : Z = (Pg.blank 2 3, 0) := HZ.out.symm.trans (Pg.dec_zeros 2 3)
  subst hZ
  have k10 := ((k7.trans' kz).trans' kw9).trans' kw10
  have hb10 := hb7.keep ((kz.trans' kw9).trans' kw10)
  have hq10 := hpgq.keep ((kz.trans' kw9).trans' kw10)
  clear hOz hbz kz kw9 kw10 hb7 hpgq k7 hfitZ
  go_wp2_with fail
  refine (free_any gz (Pg.blank 2 3) [] _ w10 hpgz (SlI.nil w10)).mono ?_
  rintro e w11 ⟨rfl, rfl⟩
  rw [HFB.out]
  have c0 : w10.cell? ⟨gz, 0, none⟩ = some (.int .u64 0) := hpgz.heads.1
  have c1 : w10.cell? ⟨gz, 1, none⟩ = some (.int .i64 2) := hpgz.heads.2.1
  have c2 : w10.cell? ⟨gz, 2, none⟩ = some (.int .i64 3) := hpgz.heads.2.2
  clear hpgz
  rcases Pg.dec_ok E 2 3 with hd | ⟨hd, hee, -⟩
  · have hDD : D = (Pg.zero, 11) := HD.out.symm.trans hd
    subst hDD
    clear hd HD
    go_upto_region 12 with (fail)
    refine wp_region_ord' [none, none, none, none, none, none, none, none, none, none, none, none, none, none, none]
      #[0, 0, 0, 0, 0, 0, 0, 0, 0, 0, 0, 0, 0, 0, 0] (w10.heap.size) (fun w' => Keep w10 w') (by kernel_rfl) (by kernel_rfl) (by kernel_rfl) ((Keep.refl w10).drew) ?_
    refine ordT_pure rfl ?_
    go_big_quiet_step (fail)
    refine ordT_on ?_
    refine ordT_pure rfl ?_
    go_big_quiet_step (fail)
    refine ordT_on ?_
    refine ordT_pure rfl ?_
    go_big_quiet_step (fail)
    refine ordT_on ?_
    refine ordT_skip (by kernel_rfl) ?_
    simp only [Act.put, List.setIfInBounds_toArray, List.set_cons_zero, List.set_cons_succ]
    refine ordT_skip (by kernel_rfl) ?_
    simp only [Act.put, List.setIfInBounds_toArray, List.set_cons_zero, List.set_cons_succ]
    refine ordT_skip (by kernel_rfl) ?_
    simp only [Act.put, List.setIfInBounds_toArray, List.set_cons_zero, List.set_cons_succ]
    refine ordT_skip (by kernel_rfl) ?_
    simp only [Act.put, List.setIfInBounds_toArray, List.set_cons_zero, List.set_cons_succ]
    refine ordT_skip (by kernel_rfl) ?_
    simp only [Act.put, List.setIfInBounds_toArray, List.set_cons_zero, List.set_cons_succ]
    refine ordT_skip (by kernel_rfl) ?_
    simp only [Act.put, List.setIfInBounds_toArray, List.set_cons_zero, List.set_cons_succ]
    refine ordT_skip (by kernel_rfl) ?_
    simp only [Act.put, List.setIfInBounds_toArray, List.set_cons_zero, List.set_cons_succ]
    refine ordT_skip (by kernel_rfl) ?_
    simp only [Act.put, List.setIfInBounds_toArray, List.set_cons_zero, List.set_cons_succ]
    refine ordT_skip (by kernel_rfl) ?_
    simp only [Act.put, List.setIfInBounds_toArray, List.set_cons_zero, List.set_cons_succ]
    refine ordT_skip (by kernel_rfl) ?_
    simp only [Act.put, List.setIfInBounds_toArray, List.set_cons_zero, List.set_cons_succ]
    refine ordT_pure rfl ?_
    go_big_quiet_step (fail)
    refine ordT_on ?_
    refine ordT_pure rfl ?_
    go_big_quiet_step (fail)
    refine ordT_on ?_
    refine ordT_done fun w12 own hC hF => ?_
    have kE := hC
    clear hF hC
    have kz := k10.trans' kE
    clear k10 kE hb10 hq10 c0 c1 c2
    go_wp2
    go_ret
    exact ⟨rfl, kz⟩
  have hDD : D = (Pg.of E 2 3, 0) := HD.out.symm.trans hd
  subst hDD
  have hten : (Pg.of E 2 3).tenant = 2 := rfl
  have hnum : (Pg.of E 2 3).number = 3 := rfl
  clear hd HD
  simp only at hq10 hfitD
  generalize Pg.of E 2 3 = Q at *
  have HEE := Lib.hid hee
  clear hee
  go_upto_region 12 with (fail)
  refine wp_region_ord' [none, none, none, none, none, none, some (oV (.agg Q.cells.toArray)), some (oB Q.enc), some (oV (strV (E))), none, some (oV (strV (E))), none, none, none, none]
    #[0, 0, 0, 0, 0, 0, 0, 0, 0, 0, 0, 0, 0, 0, 0] (w10.heap.size) (fun w' => Keep w10 w') (by kernel_rfl) (by kernel_rfl) (by kernel_rfl) ((Keep.refl w10).drew) ?_
  refine ordT_pure rfl ?_
  go_big_quiet_step (fail)
  refine ordT_on ?_
  refine ordT_pure rfl ?_
  go_big_quiet_step (fail)
  refine ordT_on ?_
  refine ordT_pure rfl ?_
  go_big_quiet_step (fail)
  refine ordT_on ?_
  refine ordT_pure rfl ?_
  go_big_quiet_step (fail)
  refine ordT_on ?_
  refine ordT_pure rfl ?_
  go_big_quiet_step (fail)
  refine ordT_on ?_
  refine ordT_pure rfl ?_
  go_big_quiet_step (fail)
  refine ordT_on ?_
  refine ordT_same (by kernel_rfl) (fun w2 hC => ?_) ?_
  · exact exec_loadBig bigP _ rfl rfl w2 Q.cells hfitD.cells (fun j v hj => cell_of (hq10.keep hC).h _ v (by rw [Nat.zero_add]; exact hj))
  simp only [Act.put, List.setIfInBounds_toArray, List.set_cons_zero, List.set_cons_succ]
  refine ordT_call (by kernel_rfl) keepK (fun w2 own hC hF => ?_) ?_
  · refine ⟨_, _, by first | (go_simp; done) | (go_simp; rfl), (pencode_any Q hfitD (by rw [hten]; decide) (by rw [hnum]; decide) w2).mono ?_⟩
    rintro e w' ⟨v, rfl, hO, hk⟩
    exact ⟨v, rfl, hk, fun S hS => ⟨hO.sl, fun _ => Own.inOf hO fun g hg => hS g (.inr (World.ownsRow.lt hO g hg).1)⟩⟩
  rintro x7 wx7 ownx7 hCx7 hx7
  obtain ⟨ax7, nx7, cx7, rfl⟩ := Sl.shape hx7.1
  simp only [Act.put, List.setIfInBounds_toArray, List.set_cons_zero, List.set_cons_succ]
  refine ordT_str Try.underlying38 Try.underlying5 Try.underlying9 _ rfl (bs := E) (by kernel_rfl) (fun w2 own hC hF => ?_) ?_
  · have hh := (((hF 7 rfl).1 rfl)).1
    rw [HEE.out] at hh
    exact hh
  simp only [Act.put, List.setIfInBounds_toArray, List.set_cons_zero, List.set_cons_succ]
  simp only [strV]
  refine ordT_pure rfl ?_
  go_big_quiet_step (fail)
  refine ordT_on ?_
  refine ordT_str Try.underlying38 Try.underlying5 Try.underlying9 _ rfl (bs := E) (by kernel_rfl) (fun w2 own hC hF => ?_) ?_
  · exact hb10.keep hC
  simp only [Act.put, List.setIfInBounds_toArray, List.set_cons_zero, List.set_cons_succ]
  simp only [strV]
  refine ordT_pure rfl ?_
  go_big_quiet_step (fail)
  refine ordT_on ?_
  refine ordT_pure rfl ?_
  go_big_quiet_step (fail)
  refine ordT_on ?_
  refine ordT_pure rfl ?_
  go_big_quiet_step (fail)
  refine ordT_on ?_
  refine ordT_pure rfl ?_
  go_big_quiet_step (fail)
  refine ordT_on ?_
  refine ordT_done fun w12 own hC hF => ?_
  have kE := hC
  clear hF hC hx7
  have kz := k10.trans' kE
  clear k10 kE hb10 hq10 c0 c1 c2
  go_wp2
  go_ret
  exact ⟨rfl, kz⟩
end Go.Proofs.Ytdnmddfnlkaahaa
