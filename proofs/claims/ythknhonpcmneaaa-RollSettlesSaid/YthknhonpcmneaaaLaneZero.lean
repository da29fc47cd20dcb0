/- The walk of lane.zero. -/
import Derived.Test.YthknhonpcmneaaaDid
namespace Go.Proofs.Ythknhonpcmneaaa
open Go Go.RowKit
attribute [local irreducible] Go.wpQuiet

set_option maxRecDepth 100000 in
set_option maxHeartbeats 8000000 in
theorem zero_any (v : Value) (l : List UInt8) (w : World) (hv : SlB w v l) (hl : l.length = 64) : Calls Try.prog 27 #[v] w fun e w' => e = .returned (.bool (l == z64)) ∧ Keep w w' := by
  obtain ⟨a, c, rfl, -, -, -⟩ := hv.form
  rw [hl] at hv ⊢
  go_enter Try.func27, Try.ntmps27
  go_upto_region 1 with (fail)
  refine wp_region_ord' [none, some (oV (strV (l))), none, none, some (oB (zB 64)), some (oV (strV (zB 64))), none, none]
    #[0, 0, 0, 0, 0, 0, 0, 0] (w.heap.size) (fun w' => Keep w w') (by kernel_rfl) (by kernel_rfl) (by kernel_rfl) ((Keep.refl w).drew) ?_
  refine ordT_pure rfl ?_
  go_big_quiet_step (fail)
  refine ordT_on ?_
  refine ordT_str Try.underlying39 Try.underlying5 Try.underlying9 _ rfl (bs := l) (by kernel_rfl) (fun w2 own hC hF => ?_) ?_
  · exact hv.keep hC
  simp only [Act.put, List.setIfInBounds_toArray, List.set_cons_zero, List.set_cons_succ]
  simp only [strV]
  refine ordT_pure rfl ?_
  go_big_quiet_step (fail)
  refine ordT_on ?_
  refine ordT_pure rfl ?_
  go_big_quiet_step (fail)
  refine ordT_on ?_
  refine ordT_laid (fun w2 => .slice (some ⟨w2.heap.size, 0, none⟩) 64 64) (.cells ((zB 64).map B).toArray 5) (by kernel_rfl) keepK (fun w2 hC => ?_) (fun w2 own hC hF S hS => ?_) ?_
  · have hmk : (Instr.makeSlice 39 (.int .i64 64) (.int .i64 64)).run Try.prog w2 = .ok (.slice (some ⟨w2.heap.size, 0, none⟩) 64 64) (w2.alloc (.cells ((zB 64).map B).toArray 5)) := run_makeB (P := Try.prog) elemB w2 64 (by omega)
    go_simp
  · exact ⟨(Own.made w2 _ 0 64 (Nat.zero_le _) (by omega)).sl, in_new hS⟩
  rintro x4 wx4 ownx4 - hx4
  obtain ⟨ax4, nx4, cx4, rfl⟩ := Sl.shape hx4.1
  simp only [Act.put, List.setIfInBounds_toArray, List.set_cons_zero, List.set_cons_succ]
  refine ordT_str Try.underlying39 Try.underlying5 Try.underlying9 _ rfl (bs := zB 64) (by kernel_rfl) (fun w2 own hC hF => ?_) ?_
  · exact (((hF 4 rfl).1 rfl)).1
  simp only [Act.put, List.setIfInBounds_toArray, List.set_cons_zero, List.set_cons_succ]
  simp only [strV]
  refine ordT_pure rfl ?_
  go_big_quiet_step (fail)
  refine ordT_on ?_
  refine ordT_pure rfl ?_
  go_big_quiet_step (fail)
  refine ordT_on ?_
  refine ordT_done fun w2 own hC hF => ?_
  skip
  have kE := hC
  clear hF hC
  go_wp2
  go_ret
  exact ⟨rfl, kE⟩
end Go.Proofs.Ythknhonpcmneaaa
