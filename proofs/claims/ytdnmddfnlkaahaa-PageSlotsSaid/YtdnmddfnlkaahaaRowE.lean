/- The walk of row.Encode. -/
import Derived.Test.YtdnmddfnlkaahaaRwV
namespace Go.Proofs.Ytdnmddfnlkaahaa
open Go Go.RowKit
attribute [local irreducible] Go.wpQuiet

/-- told of a value: it is the call's own -/
def tOwn (base : Nat) (l : List UInt8) : Tells Keep := ⟨fun v w => Own w base 5 v (l.map B), fun _ _ _ hk h => h.keep hk⟩

theorem rw_cells (w : World) (r : Rw) : (w.alloc (.cells #[.int .i64 r.t, strV r.k, strV r.v] 24)).cell? ⟨w.heap.size, 0, none⟩ = some (.int .i64 r.t) ∧ (w.alloc (.cells #[.int .i64 r.t, strV r.k, strV r.v] 24)).cell? ⟨w.heap.size, 1, none⟩ = some (strV r.k) ∧ (w.alloc (.cells #[.int .i64 r.t, strV r.k, strV r.v] 24)).cell? ⟨w.heap.size, 2, none⟩ = some (strV r.v) := by
  have h := heap_alloc_new w (.cells #[.int .i64 r.t, strV r.k, strV r.v] 24)
  refine ⟨?_, ?_, ?_⟩ <;> (rw [cell_of_row _ _ _ _ _ _ h]; rfl)

theorem slot_is (r : Rw) (h : r.right = true) : ((([1] ++ Pk.be r.t.toNat 1) ++ UInt8.ofNat r.k.length :: r.k) ++ List.replicate (15 - r.k.length) 0 ++ UInt8.ofNat r.v.length :: r.v) ++ List.replicate (21 - r.v.length) 0 = r.slot := by
  unfold Rw.slot
  rw [show [1] ++ Pk.be r.t.toNat 1 = [1, UInt8.ofNat r.t.toNat] by rw [← List.append_nil (Pk.be _ _), be_one]; rfl]
  simp

theorem slot_length (r : Rw) (h : r.right = true) : r.slot.length = 40 := by
  obtain ⟨h1, h2, h3, h4⟩ := r.right_iff.1 h
  simp [Rw.slot]
  omega

set_option maxHeartbeats 2000000 in
theorem encode_any (r : Rw) (hr : r.right = true) (w : World) :
    Calls Try.prog 16 #[r.val] w fun e w' => ∃ v, e = .returned v ∧ Own w' w.heap.size 5 v (r.slot.map B) ∧ Keep w w' := by
  have he := slot_is r hr
  obtain ⟨h1, h2, h3, h4⟩ := r.right_iff.1 hr
  clear hr
  unfold Rw.val
  go_enter Try.func16, Try.ntmps16
  go_upto_region 1 with (fail)
  refine wp_region_dag' (C := fun w' => Keep (w.alloc (.cells #[.int .i64 r.t, strV r.k, strV r.v] 24)) w') (R := Keep) [some (tB [1]), none, some (tV (.int .i64 r.t)), none, some (tB ([1] ++ Pk.be r.t.toNat 1)), none, some (tV (strV r.k)), some (tOwn (w.heap.size + 1) (([1] ++ Pk.be r.t.toNat 1) ++ UInt8.ofNat r.k.length :: r.k)), none]
    (by kernel_rfl) (by kernel_rfl) (Keep.refl (w.alloc (.cells #[.int .i64 r.t, strV r.k, strV r.v] 24))).drew ?_
  refine dagT_told (by kernel_rfl) ?_ ?_
  · intro w2 hC hF
    refine Gives.value (v := .slice (some ⟨w2.heap.size, 0, none⟩) 1 1) (w' := w2.alloc (.cells #[.int .u8 1] 5)) (by go_simp) ?_
    exact ⟨hC.trans' (Keep.alloc _ _), Keep.alloc _ _, (Sl.laid w2 #[.int .u8 1] 5 (0, 0) ([1].map B) 1 1 rfl rfl (by decide) (Nat.le_refl _))⟩
  intro s1 w2 hC hF hs1
  clear hC hF
  simp only [Act.put, List.setIfInBounds_toArray, List.set_cons_zero, List.set_cons_succ]
  obtain ⟨a1, n1, c1, rfl⟩ := SlB.shape hs1
  refine dagT_pure rfl ?_
  go_big_quiet_step (fail)
  refine dagT_on ?_
  refine dagT_told (by kernel_rfl) ?_ ?_
  · intro w2 hC hF
    have hcl := (hC.cell (p := ⟨w.heap.size, 0, none⟩) (by simp)).trans (rw_cells w r).1
    refine Gives.value (v := .int .i64 r.t) (w' := w2) (by (try unfold strV at hcl); (try unfold strV); go_simp) ?_
    exact ⟨hC, Keep.refl _, rfl⟩
  intro v w2 hC hF hv
  clear hC hF
  simp only [Act.put, List.setIfInBounds_toArray, List.set_cons_zero, List.set_cons_succ]
  obtain rfl := hv
  refine dagT_pure rfl ?_
  go_big_quiet_step (fail)
  refine dagT_on ?_
  refine dagT_told (by kernel_rfl) ?_ ?_
  · intro w2 hC hF
    refine Gives.call (by go_simp) (put_at _ [1] 1 r.t.toNat 1 r.t w2 rfl (by omega) ((hF 0 (by kernel_rfl)).2.1 rfl) (by omega) (by omega) (by simp)) ?_
    rintro e w' ⟨v', rfl, ho, hk⟩
    exact ⟨_, rfl, hC.trans' hk, hk, ho.slB⟩
  intro s2 w2 hC hF hs2
  clear hC hF
  simp only [Act.put, List.setIfInBounds_toArray, List.set_cons_zero, List.set_cons_succ]
  obtain ⟨a2, n2, c2, rfl⟩ := SlB.shape hs2
  refine dagT_pure rfl ?_
  go_big_quiet_step (fail)
  refine dagT_on ?_
  refine dagT_told (by kernel_rfl) ?_ ?_
  · intro w2 hC hF
    have hcl := (hC.cell (p := ⟨w.heap.size, 1, none⟩) (by simp)).trans (rw_cells w r).2.1
    refine Gives.value (v := strV r.k) (w' := w2) (by (try unfold strV at hcl); (try unfold strV); go_simp) ?_
    exact ⟨hC, Keep.refl _, rfl⟩
  intro v w2 hC hF hv
  clear hC hF
  simp only [Act.put, List.setIfInBounds_toArray, List.set_cons_zero, List.set_cons_succ]
  obtain rfl := hv
  refine dagT_told (by kernel_rfl) ?_ ?_
  · intro w2 hC hF
    refine Gives.call (by (try unfold strV); go_simp) (text_any _ _ r.k w2 ((hF 4 (by kernel_rfl)).2.1 rfl) (by omega) (by simp [Pk.be_length]; omega)) ?_
    rintro e w' ⟨v', rfl, ho, hk⟩
    exact ⟨_, rfl, hC.trans' hk, hk, ho.mono (by have := hC.size; simpa using this)⟩
  intro s3 w2 hC hF hs3
  clear hC hF
  simp only [Act.put, List.setIfInBounds_toArray, List.set_cons_zero, List.set_cons_succ]
  refine dagT_pure rfl ?_
  go_big_quiet_step (fail)
  refine dagT_on ?_
  refine dagT_done ?_
  intro w2 hC hF
  have ho3 := (hF 7).1 rfl
  have hcl := (hC.cell (p := ⟨w.heap.size, 1, none⟩) (by simp)).trans (rw_cells w r).2.1
  have hcl2 := (hC.cell (p := ⟨w.heap.size, 2, none⟩) (by simp)).trans (rw_cells w r).2.2
  have hsz2 : w.heap.size + 1 ≤ w2.heap.size := by have := hC.size; simpa using this
  have hkw : Keep w w2 := (Keep.alloc _ _).trans' hC
  clear hF hC hs1 hs2 hs3
  have hle1 : (([1] ++ Pk.be r.t.toNat 1) ++ UInt8.ofNat r.k.length :: r.k).length = 3 + r.k.length := by simp [Pk.be_length]; omega
  have hq1 := size_str r.k
  have hq2 := size_str r.v
  generalize ([1] ++ Pk.be r.t.toNat 1) ++ UInt8.ofNat r.k.length :: r.k = L3 at *
  go_upto_region 2 with (fail)
  refine wp_region_seq ?_
  refine seqW_pure rfl ?_
  go_big_quiet_step (fail)
  refine seqW_on ?_
  refine seqW_pure rfl ?_
  go_big_quiet_step (fail)
  refine seqW_on ?_
  refine seqW_gives (by kernel_rfl) ?_
  refine Gives.value (v := strV r.k) (w' := w2) (by (try unfold strV at hcl); (try unfold strV); go_simp) ?_
  simp only [Act.put, List.setIfInBounds_toArray, List.set_cons_zero, List.set_cons_succ]
  unfold strV
  refine seqW_pure rfl ?_
  go_big_quiet_step (fail)
  refine seqW_on ?_
  refine seqW_pure rfl ?_
  go_big_quiet_step (fail)
  refine seqW_on ?_
  refine seqW_gives (by kernel_rfl) ?_
  refine Gives.appendZeros (l := L3) elemB Try.underlying3 _ _ rfl (15 - r.k.length) (by omega) rfl rfl ho3 (by omega) (by omega) hsz2 ?_
  intro v4 w4 ho4 hgr
  have hgr4 : w2.grownBy w4 s3.ownBlock := hgr
  have hb4 := Own.below ho3 hgr4 (Nat.le_refl _) hsz2
  clear hgr hgr4 ho3
  simp only [Act.put, List.setIfInBounds_toArray, List.set_cons_zero, List.set_cons_succ]
  refine seqW_pure rfl ?_
  go_big_quiet_step (fail)
  refine seqW_on ?_
  refine seqW_done ?_
  have hcl4 := (hb4.cell (p := ⟨w.heap.size, 2, none⟩) (by simp)).trans hcl2
  have hsz4 : w.heap.size + 1 ≤ w4.heap.size := Nat.le_trans hsz2 hb4.size
  clear hcl hcl2
  go_upto_region 3 with (fail)
  refine wp_region_seq ?_
  refine seqW_pure rfl ?_
  go_big_quiet_step (fail)
  refine seqW_on ?_
  refine seqW_pure rfl ?_
  go_big_quiet_step (fail)
  refine seqW_on ?_
  refine seqW_gives (by kernel_rfl) ?_
  refine Gives.value (v := strV r.v) (w' := w4) (by (try unfold strV at hcl4); (try unfold strV); go_simp) ?_
  simp only [Act.put, List.setIfInBounds_toArray, List.set_cons_zero, List.set_cons_succ]
  refine seqW_gives (by kernel_rfl) ?_
  refine Gives.call (by (try unfold strV); go_simp) (text_any _ _ r.v w4 ho4.slB (by omega) (by simp [hle1]; omega)) ?_
  rintro e w5 ⟨v5, rfl, ho5, hk5⟩
  refine ⟨v5, rfl, ?_⟩
  simp only [Act.put, List.setIfInBounds_toArray, List.set_cons_zero, List.set_cons_succ]
  refine seqW_pure rfl ?_
  go_big_quiet_step (fail)
  refine seqW_on ?_
  refine seqW_done ?_
  have hle5 : (L3 ++ List.replicate (15 - r.k.length) 0 ++ UInt8.ofNat r.v.length :: r.v).length = 19 + r.v.length := by simp [hle1]; omega
  have ho6 := ho5
  obtain ⟨g5, c5, rfl, hg51, -⟩ := ho5.head (by rw [List.length_map, hle5]; omega)
  rw [List.length_map, hle5] at ho6 ⊢
  have hkw5 : Below (w.heap.size + 1) w2 w5 := hb4.trans (hk5.mono hsz4)
  have hkk : Keep w w5 := hkw.trans (hkw5.mono (by omega))
  have hsz5 := hk5.size
  clear hcl4 ho4 ho5 hb4 hk5 hkw hkw5
  generalize L3 ++ List.replicate (15 - r.k.length) 0 ++ UInt8.ofNat r.v.length :: r.v = L5 at *
  go_upto_region 4 with (fail)
  refine wp_region_seq ?_
  refine seqW_pure rfl ?_
  go_big_quiet_step (fail)
  refine seqW_on ?_
  refine seqW_pure rfl ?_
  go_big_quiet_step (fail)
  refine seqW_on ?_
  refine seqW_pure rfl ?_
  go_big_quiet_step (fail)
  refine seqW_on ?_
  refine seqW_pure rfl ?_
  go_big_quiet_step (fail)
  refine seqW_on ?_
  refine seqW_gives (by kernel_rfl) ?_
  refine Gives.appendZeros (l := L5) elemB Try.underlying3 _ _ rfl (21 - r.v.length) (by omega) rfl rfl ho6 (by omega) (by omega) (Nat.le_trans (Nat.le_of_eq rfl) hsz5) ?_
  intro v7 w7 ho7 hgr
  have hgr7 : w5.grownBy w7 (some g5) := hgr
  have hb7 := Own.below ho6 hgr7 (Nat.le_refl _) hsz5
  clear hgr hgr7 ho6
  simp only [Act.put, List.setIfInBounds_toArray, List.set_cons_zero, List.set_cons_succ]
  refine seqW_pure rfl ?_
  go_big_quiet_step (fail)
  refine seqW_on ?_
  refine seqW_done ?_
  go_wp2
  go_ret
  rw [he] at ho7
  refine ⟨_, rfl, ho7.mono (by omega), hkk.trans (hb7.mono (by omega))⟩
end Go.Proofs.Ytdnmddfnlkaahaa
