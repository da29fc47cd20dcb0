/- The walk of RecordRight. -/
import Derived.Test.YtlihieefjlpadaaFit06
namespace Go.Proofs.Ytlihieefjlpadaa
open Go Go.RowKit
attribute [local irreducible] Go.wpQuiet

set_option maxRecDepth 100000 in
set_option maxHeartbeats 4000000 in
theorem recordRight_any (r : Rc) (dv : Value) (w : World) (hd : SlU w dv r.dirty) : Calls Try.prog 3 #[r.val dv] w fun e w' => e = .returned (.bool true) ∧ Keep w w' := by
  have hA := RcAt.laid w r dv
  have hk0 := Keep.alloc w (.cells #[.int .i64 r.kind, .int .i64 r.txn, .int .i64 r.page, .int .i64 r.slot, .string ⟨r.before.toArray⟩, .string ⟨r.after.toArray⟩, .string ⟨r.image.toArray⟩, dv] 24)
  have L := fun w h => light_any r dv w h
  have R1 := fun w h => right_any r dv w h
  have R2 := fun w h => right_law_any r dv w h
  obtain ⟨da, nd, dc, rfl⟩ := Sl.shape hd
  have L := Lib.hid L
  have R1 := Lib.hid R1
  have R2 := Lib.hid R2
  unfold Rc.val at *
  go_enter Try.func3, Try.ntmps3
  go_wp2_with fail
  generalize w.alloc (.cells #[.int .i64 r.kind, .int .i64 r.txn, .int .i64 r.page, .int .i64 r.slot, .string ⟨r.before.toArray⟩, .string ⟨r.after.toArray⟩, .string ⟨r.image.toArray⟩, .slice da nd dc] 24) = w0 at *
  refine (fit_any w0).mono ?_
  rintro e w1 ⟨rfl, hk1⟩
  have hA1 := hA.keep hk1
  have hd1 := (hd.keep hk0).keep hk1
  have hw1 := hk0.trans' hk1
  obtain ⟨c0, c1, c2, c3, c4, c5, c6, c7⟩ := hA1.cells
  -- the region
  go_upto_region 3 with (fail)
  refine wp_region_ord' [some (oV (.agg #[.int .i64 r.kind, .int .i64 r.txn, .int .i64 r.page, .int .i64 r.slot, .string ⟨r.before.toArray⟩, .string ⟨r.after.toArray⟩, .string ⟨r.image.toArray⟩, .slice da nd dc])), some (oP (fun v => ∃ b, v = .bool b)), none, none, some (oV (.agg #[.int .i64 r.kind, .int .i64 r.txn, .int .i64 r.page, .int .i64 r.slot, .string ⟨r.before.toArray⟩, .string ⟨r.after.toArray⟩, .string ⟨r.image.toArray⟩, .slice da nd dc])), some (oV (.bool r.right)), some (oV (.agg #[.int .i64 r.kind, .int .i64 r.txn, .int .i64 r.page, .int .i64 r.slot, .string ⟨r.before.toArray⟩, .string ⟨r.after.toArray⟩, .string ⟨r.image.toArray⟩, .slice da nd dc])), some (oV (.bool r.right)), none, none, none]
    #[0, 0, 0, 0, 0, 0, 0, 0, 0, 0, 0] (w1.heap.size) (fun w' => Keep w1 w') (by kernel_rfl) (by kernel_rfl) (by kernel_rfl) ((Keep.refl w1).drew) ?_
  refine ordT_same (by kernel_rfl) (fun w2 hC => ?_) ?_
  · obtain ⟨x0, x1, x2, x3, x4, x5, x6, x7⟩ := (hA1.keep hC).cells
    go_simp
  simp only [Act.put, List.setIfInBounds_toArray, List.set_cons_zero, List.set_cons_succ]
  refine ordT_call (by kernel_rfl) keepK (fun w2 own hC hF => ?_) ?_
  · refine ⟨_, _, by first | (go_simp; done) | (go_simp; rfl), (L.out w2 (hd1.keep hC)).mono ?_⟩
    rintro e w' ⟨⟨b, rfl⟩, hk⟩
    exact ⟨_, rfl, hk, fun _ _ => ⟨b, rfl⟩⟩
  rintro x1 wx1 ownx1 hCx1 hx1
  obtain ⟨b, rfl⟩ := hx1
  simp only [Act.put, List.setIfInBounds_toArray, List.set_cons_zero, List.set_cons_succ]
  cases b
  · skip
    refine ordT_pure rfl ?_
    go_big_quiet_step (fail)
    refine ordT_on ?_
    refine ordT_pure rfl ?_
    go_big_quiet_step (fail)
    refine ordT_on ?_
    refine ordT_skip (by kernel_rfl) ?_
    simp only [Act.put, List.setIfInBounds_toArray, List.set_cons_zero, List.set_cons_succ]
    refine ordT_skip (by kernel_rfl) ?_
    simp only [Act.put, List.setIfInBounds_toArray, List.set_cons_zero, List.set_cons_succ]
    refine ordT_skip (by kernel_rfl) ?_
    simp only [Act.put, List.setIfInBounds_toArray, List.set_cons_zero, List.set_cons_succ]
    refine ordT_skip (by kernel_rfl) ?_
    simp only [Act.put, List.setIfInBounds_toArray, List.set_cons_zero, List.set_cons_succ]
    refine ordT_skip (by kernel_rfl) ?_
    simp only [Act.put, List.setIfInBounds_toArray, List.set_cons_zero, List.set_cons_succ]
    refine ordT_pure rfl ?_
    go_big_quiet_step (fail)
    refine ordT_on ?_
    refine ordT_pure rfl ?_
    go_big_quiet_step (fail)
    refine ordT_on ?_
    refine ordT_done fun w2 own hC hF => ?_
    clear hF
    go_wp2
    go_ret
    exact ⟨rfl, hw1.trans' hC⟩
  · skip
    refine ordT_pure rfl ?_
    go_big_quiet_step (fail)
    refine ordT_on ?_
    refine ordT_pure rfl ?_
    go_big_quiet_step (fail)
    refine ordT_on ?_
    refine ordT_same (by kernel_rfl) (fun w2 hC => ?_) ?_
    · obtain ⟨x0, x1, x2, x3, x4, x5, x6, x7⟩ := (hA1.keep hC).cells
      go_simp
    simp only [Act.put, List.setIfInBounds_toArray, List.set_cons_zero, List.set_cons_succ]
    refine ordT_callV (by kernel_rfl) keepK (fun w2 own hC hF => ?_) ?_
    · refine ⟨_, _, by first | (go_simp; done) | (go_simp; rfl), (R1.out w2 (hd1.keep hC)).mono ?_⟩
      rintro e w' ⟨rfl, hk⟩
      exact ⟨rfl, hk⟩
    simp only [Act.put, List.setIfInBounds_toArray, List.set_cons_zero, List.set_cons_succ]
    refine ordT_same (by kernel_rfl) (fun w2 hC => ?_) ?_
    · obtain ⟨x0, x1, x2, x3, x4, x5, x6, x7⟩ := (hA1.keep hC).cells
      go_simp
    simp only [Act.put, List.setIfInBounds_toArray, List.set_cons_zero, List.set_cons_succ]
    refine ordT_callV (by kernel_rfl) keepK (fun w2 own hC hF => ?_) ?_
    · refine ⟨_, _, by first | (go_simp; done) | (go_simp; rfl), (R2.out w2 (hd1.keep hC)).mono ?_⟩
      rintro e w' ⟨rfl, hk⟩
      exact ⟨rfl, hk⟩
    simp only [Act.put, List.setIfInBounds_toArray, List.set_cons_zero, List.set_cons_succ]
    refine ordT_pure rfl ?_
    go_big_quiet_step (fail)
    refine ordT_on ?_
    refine ordT_pure rfl ?_
    go_big_quiet_step (fail)
    refine ordT_on ?_
    refine ordT_pure rfl ?_
    go_big_quiet_step (fail)
    refine ordT_on ?_
    refine ordT_done fun w2 own hC hF => ?_
    clear hF
    go_wp2
    go_ret
    exact ⟨rfl, hw1.trans' hC⟩
end Go.Proofs.Ytlihieefjlpadaa
