/- The walk of SumOnes. -/
import Derived.Test.YtgpneahbeggbeaaSumJoins
import Derived.Test.YtgpneahbeggbeaaTell
namespace Go.Proofs.Ytgpneahbeggbeaa
open Go.RowKit
attribute [local irreducible] Go.wpQuiet

theorem index3 (x y z : Value) (hx : x.oneCell' = true) (hy : y.oneCell' = true) (hz : z.oneCell' = true) (w : World) :
    (Instr.index 32 (.agg #[x, y, z]) (.int .i64 0)).run Try.prog w = .ok x w ∧ (Instr.index 32 (.agg #[x, y, z]) (.int .i64 1)).run Try.prog w = .ok y w ∧ (Instr.index 32 (.agg #[x, y, z]) (.int .i64 2)).run Try.prog w = .ok z w := by
  refine ⟨?_, ?_, ?_⟩ <;> kernel_rfl

set_option maxRecDepth 100000 in
set_option maxHeartbeats 2000000 in
theorem sumOnes_any (a b : UInt8) (v0 v1 v2 : Value) (l0 l1 l2 : List UInt8) (w : World) (h0 : SlB w v0 l0) (h1 : SlB w v1 l1) (h2 : SlB w v2 l2) :
    Calls Try.prog 7 #[.int .u8 (a.toNat : Int), .int .u8 (b.toNat : Int), .agg #[v0, v1, v2]] w fun e w' => e = .returned (.bool true) ∧ Keep w w' := by
  have g0 := h0
  have g1 := h1
  have g2 := h2
  obtain ⟨a0, c0, rfl, hm0, hcap0, -⟩ := h0.form
  obtain ⟨a1, c1, rfl, hm1, hcap1, -⟩ := h1.form
  obtain ⟨a2, c2, rfl, hm2, hcap2, -⟩ := h2.form
  clear h0 h1 h2
  unfold maxLen at hm0 hm1 hm2
  go_enter Try.func7, Try.ntmps7
  go_wp2_with fail
  have hb := heap_alloc_new w (.cells #[.slice a0 l0.length c0, .slice a1 l1.length c1, .slice a2 l2.length c2] 22)
  have d0 : (w.alloc (.cells #[.slice a0 l0.length c0, .slice a1 l1.length c1, .slice a2 l2.length c2] 32)).cell? ⟨w.heap.size, 0, none⟩ = some (.slice a0 l0.length c0) := by rw [cell_of_row _ _ _ _ _ _ (heap_alloc_new _ _)]; rfl
  have d1 : (w.alloc (.cells #[.slice a0 l0.length c0, .slice a1 l1.length c1, .slice a2 l2.length c2] 32)).cell? ⟨w.heap.size, 1, none⟩ = some (.slice a1 l1.length c1) := by rw [cell_of_row _ _ _ _ _ _ (heap_alloc_new _ _)]; rfl
  have d2 : (w.alloc (.cells #[.slice a0 l0.length c0, .slice a1 l1.length c1, .slice a2 l2.length c2] 32)).cell? ⟨w.heap.size, 2, none⟩ = some (.slice a2 l2.length c2) := by rw [cell_of_row _ _ _ _ _ _ (heap_alloc_new _ _)]; rfl
  have hk0 := Keep.alloc w (.cells #[.slice a0 l0.length c0, .slice a1 l1.length c1, .slice a2 l2.length c2] 32)
  generalize w.alloc (.cells #[.slice a0 l0.length c0, .slice a1 l1.length c1, .slice a2 l2.length c2] 32) = w0 at *
  clear hb
  refine (fit_any _).mono ?_
  rintro e w1 ⟨rfl, hk1⟩
  have e0 := (hk1.cell (World.block_lt_of_cell? w0 _ d0)).trans d0
  have e1 := (hk1.cell (World.block_lt_of_cell? w0 _ d1)).trans d1
  have e2 := (hk1.cell (World.block_lt_of_cell? w0 _ d2)).trans d2
  go_wp2
  have hix := index3 (.slice a0 l0.length c0) (.slice a1 l1.length c1) (.slice a2 l2.length c2) rfl rfl rfl w1
  obtain ⟨i0, i1, i2⟩ := hix
  go_loop [13] (fun i => ∃ j : Nat, j ≤ 3 ∧ i = .int .i64 j ∧ (0 < j → l0.length ≤ 100) ∧ (1 < j → l1.length ≤ 100) ∧ (2 < j → l2.length ≤ 100)) (fun i => 3 - (intOf i).toNat)
  case atStart => exact ⟨0, by omega, rfl, by omega, by omega, by omega⟩
  case round =>
    obtain ⟨j, hj, rfl, q0, q1, q2⟩ := hrel
    obtain rfl | rfl | rfl | rfl : j = 0 ∨ j = 1 ∨ j = 2 ∨ j = 3 := by omega
    · by_cases hq : l0.length ≤ 100
      · have t1 : decide ((100 : Int) < (l0.length : Int)) = false := decide_eq_false (by omega)
        go_wp2
        go_round
        case rel => exact ⟨1, by omega, rfl, by omega, by omega, by omega⟩
        case measure => simp [intOf]
      · have t1 : decide ((100 : Int) < (l0.length : Int)) = true := decide_eq_true (by omega)
        go_wp2
        go_ret
        exact ⟨rfl, hk0.trans' hk1⟩
    · by_cases hq : l1.length ≤ 100
      · have t1 : decide ((100 : Int) < (l1.length : Int)) = false := decide_eq_false (by omega)
        go_wp2
        go_round
        case rel => exact ⟨2, by omega, rfl, by omega, by omega, by omega⟩
        case measure => simp [intOf]
      · have t1 : decide ((100 : Int) < (l1.length : Int)) = true := decide_eq_true (by omega)
        go_wp2
        go_ret
        exact ⟨rfl, hk0.trans' hk1⟩
    · by_cases hq : l2.length ≤ 100
      · have t1 : decide ((100 : Int) < (l2.length : Int)) = false := decide_eq_false (by omega)
        go_wp2
        go_round
        case rel => exact ⟨3, by omega, rfl, by omega, by omega, by omega⟩
        case measure => simp [intOf]
      · have t1 : decide ((100 : Int) < (l2.length : Int)) = true := decide_eq_true (by omega)
        go_wp2
        go_ret
        exact ⟨rfl, hk0.trans' hk1⟩
    · have q0 := q0 (by omega)
      have q1 := q1 (by omega)
      have q2 := q2 (by omega)
      go_upto_region 9 with (fail)
      refine wp_region_ord' [none, some (oV (.slice a0 l0.length c0)), some (oOwn w1.heap.size 5 (l0.map B)), none, some (oV (.slice a1 l1.length c1)), some (oOwn w1.heap.size 5 (l0.map B ++ l1.map B)), none, some (oV (.slice a2 l2.length c2)), some (oOwn w1.heap.size 5 ((l0.map B ++ l1.map B) ++ l2.map B)), none]
        #[0, 0, 0, 0, 0, 4, 0, 0, 32, 0] w1.heap.size (fun w' => Keep w1 w') (by kernel_rfl) (by kernel_rfl) (by kernel_rfl) (Keep.refl w1).drew ?_
      have lt0 := World.block_lt_of_cell? w1 _ e0
      have lt1 := World.block_lt_of_cell? w1 _ e1
      have lt2 := World.block_lt_of_cell? w1 _ e2
      have hkk := hk0.trans' hk1
      refine ordT_pure rfl ?_
      go_big_quiet_step (fail)
      refine ordT_on ?_
      refine ordT_same (by kernel_rfl) (fun w2 hC => ?_) ?_
      · have := (hC.cell lt0).trans e0
        go_simp
      simp only [Act.put, List.setIfInBounds_toArray, List.set_cons_zero, List.set_cons_succ]
      refine ordT_told (by kernel_rfl) (told_append elemB _ _ rfl keepG (B_oneCell l0) (xs := []) (by unfold maxLen; simp; omega) (by simp; omega) fun w2 own hC hF => ?_) ?_
      · have h1 := (g0.keep hkk).keep hC
        exact ⟨⟨Own.nil _ _ _, fun g hg => by cases hg⟩, h1⟩
      rintro v3 w3 own3 - hv3
      simp only [Act.put, List.setIfInBounds_toArray, List.set_cons_zero, List.set_cons_succ]
      refine ordT_pure rfl ?_
      go_big_quiet_step (fail)
      refine ordT_on ?_
      refine ordT_same (by kernel_rfl) (fun w2 hC => ?_) ?_
      · have := (hC.cell lt1).trans e1
        go_simp
      simp only [Act.put, List.setIfInBounds_toArray, List.set_cons_zero, List.set_cons_succ]
      refine ordT_told (by kernel_rfl) (told_append elemB _ _ rfl keepG (B_oneCell l1) (xs := l0.map B) (by unfold maxLen; simp; omega) (by simp; omega) fun w2 own hC hF => ?_) ?_
      · have h1 := (g1.keep hkk).keep hC
        have h2 := ((hF 2 rfl).2 rfl).1 rfl
        exact ⟨⟨h2.1, con_own h2.1 h2.2 rfl⟩, h1⟩
      rintro v6 w6 own6 - hv6
      simp only [Act.put, List.setIfInBounds_toArray, List.set_cons_zero, List.set_cons_succ]
      refine ordT_pure rfl ?_
      go_big_quiet_step (fail)
      refine ordT_on ?_
      refine ordT_same (by kernel_rfl) (fun w2 hC => ?_) ?_
      · have := (hC.cell lt2).trans e2
        go_simp
      simp only [Act.put, List.setIfInBounds_toArray, List.set_cons_zero, List.set_cons_succ]
      refine ordT_told (by kernel_rfl) (told_append elemB _ _ rfl keepG (B_oneCell l2) (xs := l0.map B ++ l1.map B) (by unfold maxLen; simp; omega) (by simp; omega) fun w2 own hC hF => ?_) ?_
      · have h1 := (g2.keep hkk).keep hC
        have h2 := ((hF 5 rfl).2 rfl).1 rfl
        exact ⟨⟨h2.1, con_own h2.1 h2.2 rfl⟩, h1⟩
      rintro v9 w9 own9 - hv9
      simp only [Act.put, List.setIfInBounds_toArray, List.set_cons_zero, List.set_cons_succ]
      refine ordT_pure rfl ?_
      go_big_quiet_step (fail)
      refine ordT_on ?_
      refine ordT_done fun w2 own hC hF => ?_
      have hx0 := ((hF 8).1 rfl).1
      clear hF hv9 hv6 hv3
      have hx : SlB w2 v9 (l0 ++ l1 ++ l2) := by
        have := hx0.sl
        unfold SlB
        rw [List.map_append, List.map_append]
        exact this
      clear hx0
      obtain ⟨ax, nx, cx, rfl⟩ := hx.shape
      have k2 := hkk.trans' hC
      obtain ⟨s1, hs1⟩ : ∃ s, Hid (s = cn (Crc.sum [a])) := ⟨_, Lib.hid rfl⟩
      obtain ⟨s2, hs2⟩ : ∃ s, Hid (s = cn (Crc.sum [b])) := ⟨_, Lib.hid rfl⟩
      obtain ⟨s3, hs3⟩ : ∃ s, Hid (s = cn (Crc.sum (l0 ++ l1 ++ l2))) := ⟨_, Lib.hid rfl⟩
      have hab : ((s1 == s2) == ((a.toNat : Int) == (b.toNat : Int))) = true := by
        rw [hs1.out, hs2.out, beq_iff_eq, Bool.eq_iff_iff, beq_iff_eq, beq_iff_eq, cn_inj, Crc.sum_one]
        exact ⟨fun h => by rw [h], fun h => UInt8.toNat_inj.1 (by omega)⟩
      have u0 := (hC.cell lt0).trans e0
      have u1 := (hC.cell lt1).trans e1
      have u2 := (hC.cell lt2).trans e2
      have lu0 := World.block_lt_of_cell? w2 _ u0
      have lu1 := World.block_lt_of_cell? w2 _ u1
      have lu2 := World.block_lt_of_cell? w2 _ u2
      clear hC lt0 lt1 lt2 e0 e1 e2 i0 i1 i2 d0 d1 d2 hkk
      go_upto_region 10 with (fail)
      refine wp_region_ord' [none, some (oB [a]), some (oBB [[a]]), some (oV (.int .u32 s1)), none, some (oB [b]), some (oBB [[b]]), some (oV (.int .u32 s2)), none, none, none, none, none, none, none, some (oV (.slice a0 l0.length c0)), none, some (oV (.slice a1 l1.length c1)), none, some (oV (.slice a2 l2.length c2)), some (oBB [l0, l1, l2]), some (oV (.int .u32 s3)), none, some (oBB [l0 ++ l1 ++ l2]), some (oV (.int .u32 s3)), none, none, none, none, some (oV (.slice a0 l0.length c0)), none, some (oV (.slice a1 l1.length c1)), some (oOwn (w2.heap.size) 5 ([] ++ l1.map B)), none, some (oV (.slice a2 l2.length c2)), some (oOwn (w2.heap.size) 5 (([] ++ l1.map B) ++ l2.map B)), some (oBB [l0, l1 ++ l2]), some (oV (.int .u32 s3)), none, some (oV (.int .u32 s3)), none, none, none]
        #[0, 0, 2, 0, 0, 0, 32, 0, 0, 0, 0, 0, 0, 0, 0, 0, 0, 0, 0, 0, 0, 0, 0, 0, 0, 0, 0, 0, 0, 0, 0, 0, 0, 0, 0, 4294967296, 34359738368, 0, 0, 0, 0, 0, 0] (w2.heap.size) (fun w' => Keep w2 w') (by kernel_rfl) (by kernel_rfl) (by kernel_rfl) ((Keep.refl w2).drew) ?_
      refine ordT_pure rfl ?_
      go_big_quiet_step (fail)
      refine ordT_on ?_
      refine ordT_laid (fun w2 => .slice (some ⟨w2.heap.size, 0, none⟩) 1 1) (.cells #[.int .u8 (a.toNat : Int)] 5) (by kernel_rfl) keepK (fun w2 hC => by go_simp) (fun w2 own hC hF S hS => ?_) ?_
      · exact ⟨Sl.laid w2 _ _ _ [B a] 1 1 rfl rfl (by decide) (Nat.le_refl _), in_new hS⟩
      rintro x1 wx1 ownx1 - hx1
      obtain ⟨ax1, nx1, cx1, rfl⟩ := SlB.shape hx1.1
      simp only [Act.put, List.setIfInBounds_toArray, List.set_cons_zero, List.set_cons_succ]
      refine ordT_told (by kernel_rfl) (told_parts 22 [.slice ax1 nx1 cx1] [[a]] rfl (by simp) keepK (fun w2 hC => by go_simp) fun w2 own hC hF => ?_) ?_
      · have h0 := ((hF 1 rfl).1 rfl)
        exact parts1 (p := fun v l => SlB w2 v l ∧ (l.map B ≠ [] → In (Used _ _ own) v)) ⟨h0.1, in_fact h0.2 rfl⟩
      rintro x2 wx2 ownx2 - hx2
      obtain ⟨ax2, nx2, cx2, rfl⟩ := SlBB.shape hx2.bb
      simp only [Act.put, List.setIfInBounds_toArray, List.set_cons_zero, List.set_cons_succ]
      refine ordT_callV (by kernel_rfl) keepK (fun w2 own hC hF => ?_) ?_
      · have h2 := ((hF 2 rfl).1 rfl)
        refine ⟨_, _, by go_simp, (of_any _ [[a]] w2 h2.bb).mono ?_⟩
        rintro e w' ⟨rfl, rfl⟩
        exact ⟨by rw [hs1.out]; simp, Keep.refl _⟩
      simp only [Act.put, List.setIfInBounds_toArray, List.set_cons_zero, List.set_cons_succ]
      refine ordT_pure rfl ?_
      go_big_quiet_step (fail)
      refine ordT_on ?_
      refine ordT_laid (fun w2 => .slice (some ⟨w2.heap.size, 0, none⟩) 1 1) (.cells #[.int .u8 (b.toNat : Int)] 5) (by kernel_rfl) keepK (fun w2 hC => by go_simp) (fun w2 own hC hF S hS => ?_) ?_
      · exact ⟨Sl.laid w2 _ _ _ [B b] 1 1 rfl rfl (by decide) (Nat.le_refl _), in_new hS⟩
      rintro x5 wx5 ownx5 - hx5
      obtain ⟨ax5, nx5, cx5, rfl⟩ := SlB.shape hx5.1
      simp only [Act.put, List.setIfInBounds_toArray, List.set_cons_zero, List.set_cons_succ]
      refine ordT_told (by kernel_rfl) (told_parts 22 [.slice ax5 nx5 cx5] [[b]] rfl (by simp) keepK (fun w2 hC => by go_simp) fun w2 own hC hF => ?_) ?_
      · have h0 := ((hF 5 rfl).1 rfl)
        exact parts1 (p := fun v l => SlB w2 v l ∧ (l.map B ≠ [] → In (Used _ _ own) v)) ⟨h0.1, in_fact h0.2 rfl⟩
      rintro x6 wx6 ownx6 - hx6
      obtain ⟨ax6, nx6, cx6, rfl⟩ := SlBB.shape hx6.bb
      simp only [Act.put, List.setIfInBounds_toArray, List.set_cons_zero, List.set_cons_succ]
      refine ordT_callV (by kernel_rfl) keepK (fun w2 own hC hF => ?_) ?_
      · have h2 := ((hF 6 rfl).1 rfl)
        refine ⟨_, _, by go_simp, (of_any _ [[b]] w2 h2.bb).mono ?_⟩
        rintro e w' ⟨rfl, rfl⟩
        exact ⟨by rw [hs2.out]; simp, Keep.refl _⟩
      simp only [Act.put, List.setIfInBounds_toArray, List.set_cons_zero, List.set_cons_succ]
      refine ordT_pure rfl ?_
      go_big_quiet_step (fail)
      refine ordT_on ?_
      refine ordT_pure rfl ?_
      go_big_quiet_step (fail)
      refine ordT_on ?_
      refine ordT_pure rfl ?_
      go_big_quiet_step (fail)
      refine ordT_on ?_
      refine ordT_pure rfl ?_
      go_big_quiet_step (fail)
      refine ordT_on ?_
      refine ordT_pure rfl ?_
      go_big_quiet_step (fail)
      refine ordT_on ?_
      refine ordT_pure rfl ?_
      go_big_quiet_step (fail)
      refine ordT_on ?_
      refine ordT_pure rfl ?_
      go_big_quiet_step (fail)
      refine ordT_on ?_
      refine ordT_same (by kernel_rfl) (fun w2 hC => ?_) ?_
      · have := (hC.cell lu0).trans u0
        go_simp
      simp only [Act.put, List.setIfInBounds_toArray, List.set_cons_zero, List.set_cons_succ]
      refine ordT_pure rfl ?_
      go_big_quiet_step (fail)
      refine ordT_on ?_
      refine ordT_same (by kernel_rfl) (fun w2 hC => ?_) ?_
      · have := (hC.cell lu1).trans u1
        go_simp
      simp only [Act.put, List.setIfInBounds_toArray, List.set_cons_zero, List.set_cons_succ]
      refine ordT_pure rfl ?_
      go_big_quiet_step (fail)
      refine ordT_on ?_
      refine ordT_same (by kernel_rfl) (fun w2 hC => ?_) ?_
      · have := (hC.cell lu2).trans u2
        go_simp
      simp only [Act.put, List.setIfInBounds_toArray, List.set_cons_zero, List.set_cons_succ]
      refine ordT_told (by kernel_rfl) (told_parts 22 [.slice a0 l0.length c0, .slice a1 l1.length c1, .slice a2 l2.length c2] [l0, l1, l2] rfl (by simp) keepK (fun w2 hC => by go_simp) fun w2 own hC hF => ?_) ?_
      · exact parts3 (p := fun v l => SlB w2 v l ∧ (l.map B ≠ [] → In (Used _ _ own) v)) ⟨(g0.keep k2).keep hC, in_old (g0.keep k2)⟩ ⟨(g1.keep k2).keep hC, in_old (g1.keep k2)⟩ ⟨(g2.keep k2).keep hC, in_old (g2.keep k2)⟩
      rintro x20 wx20 ownx20 - hx20
      obtain ⟨ax20, nx20, cx20, rfl⟩ := SlBB.shape hx20.bb
      simp only [Act.put, List.setIfInBounds_toArray, List.set_cons_zero, List.set_cons_succ]
      refine ordT_callV (by kernel_rfl) keepK (fun w2 own hC hF => ?_) ?_
      · have h2 := ((hF 20 rfl).1 rfl)
        refine ⟨_, _, by go_simp, (of_any _ [l0, l1, l2] w2 h2.bb).mono ?_⟩
        rintro e w' ⟨rfl, rfl⟩
        exact ⟨by rw [hs3.out]; simp, Keep.refl _⟩
      simp only [Act.put, List.setIfInBounds_toArray, List.set_cons_zero, List.set_cons_succ]
      refine ordT_pure rfl ?_
      go_big_quiet_step (fail)
      refine ordT_on ?_
      refine ordT_told (by kernel_rfl) (told_parts 22 [.slice ax nx cx] [l0 ++ l1 ++ l2] rfl (by simp) keepK (fun w2 hC => by go_simp) fun w2 own hC hF => ?_) ?_
      · exact parts1 (p := fun v l => SlB w2 v l ∧ (l.map B ≠ [] → In (Used _ _ own) v)) ⟨(hx).keep hC, in_old (hx)⟩
      rintro x23 wx23 ownx23 - hx23
      obtain ⟨ax23, nx23, cx23, rfl⟩ := SlBB.shape hx23.bb
      simp only [Act.put, List.setIfInBounds_toArray, List.set_cons_zero, List.set_cons_succ]
      refine ordT_callV (by kernel_rfl) keepK (fun w2 own hC hF => ?_) ?_
      · have h2 := ((hF 23 rfl).1 rfl)
        refine ⟨_, _, by go_simp, (of_any _ [l0 ++ l1 ++ l2] w2 h2.bb).mono ?_⟩
        rintro e w' ⟨rfl, rfl⟩
        exact ⟨by rw [hs3.out]; simp, Keep.refl _⟩
      simp only [Act.put, List.setIfInBounds_toArray, List.set_cons_zero, List.set_cons_succ]
      refine ordT_pure rfl ?_
      go_big_quiet_step (fail)
      refine ordT_on ?_
      refine ordT_pure rfl ?_
      go_big_quiet_step (fail)
      refine ordT_on ?_
      refine ordT_pure rfl ?_
      go_big_quiet_step (fail)
      refine ordT_on ?_
      refine ordT_pure rfl ?_
      go_big_quiet_step (fail)
      refine ordT_on ?_
      refine ordT_same (by kernel_rfl) (fun w2 hC => ?_) ?_
      · have := (hC.cell lu0).trans u0
        go_simp
      simp only [Act.put, List.setIfInBounds_toArray, List.set_cons_zero, List.set_cons_succ]
      refine ordT_pure rfl ?_
      go_big_quiet_step (fail)
      refine ordT_on ?_
      refine ordT_same (by kernel_rfl) (fun w2 hC => ?_) ?_
      · have := (hC.cell lu1).trans u1
        go_simp
      simp only [Act.put, List.setIfInBounds_toArray, List.set_cons_zero, List.set_cons_succ]
      refine ordT_told (by kernel_rfl) (told_append elemB _ _ rfl keepG (B_oneCell l1) (xs := []) (by unfold maxLen; simp; omega) (by simp; omega) fun w2 own hC hF => ?_) ?_
      · have h1 : SlB w2 _ l1 := (g1.keep k2).keep hC
        exact ⟨⟨Own.nil _ _ _, fun g hg => by cases hg⟩, h1⟩
      rintro x32 wx32 ownx32 - hx32
      simp only [Act.put, List.setIfInBounds_toArray, List.set_cons_zero, List.set_cons_succ]
      refine ordT_pure rfl ?_
      go_big_quiet_step (fail)
      refine ordT_on ?_
      refine ordT_same (by kernel_rfl) (fun w2 hC => ?_) ?_
      · have := (hC.cell lu2).trans u2
        go_simp
      simp only [Act.put, List.setIfInBounds_toArray, List.set_cons_zero, List.set_cons_succ]
      refine ordT_told (by kernel_rfl) (told_append elemB _ _ rfl keepG (B_oneCell l2) (xs := ([] ++ l1.map B)) (by unfold maxLen; simp; omega) (by simp; omega) fun w2 own hC hF => ?_) ?_
      · have h1 : SlB w2 _ l2 := (g2.keep k2).keep hC
        have h2 := (((hF 32 rfl).2 rfl).1 rfl)
        exact ⟨⟨h2.1, con_own h2.1 h2.2 rfl⟩, h1⟩
      rintro x35 wx35 ownx35 - hx35
      simp only [Act.put, List.setIfInBounds_toArray, List.set_cons_zero, List.set_cons_succ]
      obtain ⟨ax35, nx35, cx35, rfl⟩ := Sl.shape hx35.1.sl
      refine ordT_told (by kernel_rfl) (told_parts 22 [.slice a0 l0.length c0, .slice ax35 nx35 cx35] [l0, l1 ++ l2] rfl (by simp) keepK (fun w2 hC => by go_simp) fun w2 own hC hF => ?_) ?_
      · have h1 := ((hF 35 rfl).1 rfl)
        exact parts2 (p := fun v l => SlB w2 v l ∧ (l.map B ≠ [] → In (Used _ _ own) v)) ⟨(g0.keep k2).keep hC, in_old (g0.keep k2)⟩ ⟨(by have := h1.1.sl; unfold SlB; rw [List.map_append]; exact this), in_fact' h1.2 rfl⟩
      rintro x36 wx36 ownx36 - hx36
      obtain ⟨ax36, nx36, cx36, rfl⟩ := SlBB.shape hx36.bb
      simp only [Act.put, List.setIfInBounds_toArray, List.set_cons_zero, List.set_cons_succ]
      refine ordT_callV (by kernel_rfl) keepK (fun w2 own hC hF => ?_) ?_
      · have h2 := ((hF 36 rfl).1 rfl)
        refine ⟨_, _, by go_simp, (of_any _ [l0, l1 ++ l2] w2 h2.bb).mono ?_⟩
        rintro e w' ⟨rfl, rfl⟩
        exact ⟨by rw [hs3.out]; simp, Keep.refl _⟩
      simp only [Act.put, List.setIfInBounds_toArray, List.set_cons_zero, List.set_cons_succ]
      refine ordT_pure rfl ?_
      go_big_quiet_step (fail)
      refine ordT_on ?_
      refine ordT_callV (by kernel_rfl) keepK (fun w2 own hC hF => ?_) ?_
      · refine ⟨_, _, by go_simp, (law_of_any _ (l0 ++ l1 ++ l2) w2 (hx.keep hC)).mono ?_⟩
        rintro e w' ⟨rfl, rfl⟩
        exact ⟨by rw [hs3.out], Keep.refl _⟩
      simp only [Act.put, List.setIfInBounds_toArray, List.set_cons_zero, List.set_cons_succ]
      refine ordT_pure rfl ?_
      go_big_quiet_step (fail)
      refine ordT_on ?_
      refine ordT_pure rfl ?_
      go_big_quiet_step (fail)
      refine ordT_on ?_
      refine ordT_pure rfl ?_
      go_big_quiet_step (fail)
      refine ordT_on ?_
      refine ordT_done fun w2 own hC hF => ?_
      clear hF
      go_wp2
      go_ret
      exact ⟨rfl, k2.trans' hC⟩
end Go.Proofs.Ytgpneahbeggbeaa
