/- The walks of Bytes and of light. -/
import Derived.Test.YtndndklaaegifaaAdd
namespace Go.Proofs.Ytndndklaaegifaa
open Go Go.RowKit
attribute [local irreducible] Go.wpQuiet

theorem bytes_nil (w : World) : Calls Try.prog 14 #[.pointer none] w fun e w' => e = .returned (.slice none 0 0) ∧ w = w' := by
  go_enter Try.func14, Try.ntmps14
  go_wp2
  go_ret
  exact ⟨rfl, rfl⟩

set_option maxHeartbeats 1000000 in
theorem bytes_any (gs : Nat) (sv : Value) (l : List UInt8) (w : World) (hg : w.heap[gs]? = some (.cells #[sv] 28)) (hb : SlB w sv l) (hlen : l.length ≤ 100000000) :
    Calls Try.prog 14 #[.pointer (some ⟨gs, 0, none⟩)] w fun e w' => ∃ v, e = .returned v ∧ Own w' w.heap.size 5 v (l.map B) ∧ Keep w w' := by
  obtain ⟨a, n, c, rfl⟩ := hb.shape
  have c0 : w.cell? ⟨gs, 0, none⟩ = some (.slice a n c) := by unfold World.cell?; simp [hg]
  go_enter Try.func14, Try.ntmps14
  go_upto_region 3 with (fail)
  refine wp_region_seq ?_
  refine seqW_pure rfl ?_
  go_big_quiet_step (fail)
  refine seqW_on ?_
  refine seqW_gives (by kernel_rfl) ?_
  refine Gives.value (v := .pointer (some ⟨gs, 0, none⟩)) (w' := w) (by go_simp) ?_
  simp only [Act.put, List.setIfInBounds_toArray, List.set_cons_zero, List.set_cons_succ]
  refine seqW_pure rfl ?_
  go_big_quiet_step (fail)
  refine seqW_on ?_
  refine seqW_gives (by kernel_rfl) ?_
  refine Gives.value (v := .slice a n c) (w' := w) (by go_simp) ?_
  simp only [Act.put, List.setIfInBounds_toArray, List.set_cons_zero, List.set_cons_succ]
  refine seqW_gives (by kernel_rfl) ?_
  refine Gives.appendB (l := []) (k := l) elemB _ _ rfl rfl rfl (Own.nil w w.heap.size _) hb (by simp; omega) (Nat.le_refl _) ?_
  intro v5 w5 ho5 hgr
  have hgr5 : w.grownBy w5 none := hgr
  have hk5 : Keep w w5 := (Below.refl _ _).grown hgr5 (Nat.le_refl _) (fun j hj => by cases hj)
  rw [List.nil_append] at ho5
  obtain ⟨a5, n5, c5, rfl⟩ := ho5.slB.shape
  clear hgr hgr5
  simp only [Act.put, List.setIfInBounds_toArray, List.set_cons_zero, List.set_cons_succ]
  refine seqW_pure rfl ?_
  go_big_quiet_step (fail)
  refine seqW_on ?_
  refine seqW_done ?_
  go_wp2
  go_ret
  exact ⟨_, rfl, ho5, hk5⟩

set_option maxRecDepth 100000 in
set_option maxHeartbeats 4000000 in
theorem light_any (v : Value) (qs : List Rq) (w : World) (hS : SlQ w v qs) : Calls Try.prog 9 #[v] w fun e w' => ∃ b, e = .returned (.bool b) ∧ (b = true → qs.length ≤ 50) ∧ Keep w w' := by
  obtain ⟨qa, qc, rfl, hm, hc⟩ := hS.form
  unfold maxLen at hm
  go_enter Try.func9, Try.ntmps9
  by_cases hl : 50 < qs.length
  · have t1 : decide (50 < (qs.length : Int)) = true := decide_eq_true (by omega)
    clear hl hm hc
    go_wp2
    go_ret
    exact ⟨_, rfl, (fun h => by cases h), Keep.refl w⟩
  have t1 : decide (50 < (qs.length : Int)) = false := decide_eq_false (by omega)
  have h50 : Hid (qs.length ≤ 50) := Lib.hid (by omega)
  clear hl
  go_wp2
  go_loopw [10] (fun i wr => ∃ j : Nat, j ≤ qs.length ∧ i = .int .i64 j ∧ Keep w wr) (fun i _ => qs.length - (intOf i).toNat)
  case atStart => exact ⟨0, Nat.zero_le _, rfl, Keep.refl w⟩
  case round =>
    obtain ⟨j, hj, rfl, hk⟩ := hrel
    by_cases hjn : j < qs.length
    rotate_left
    · have hjd : ¬ ((j : Int) < (qs.length : Int)) := by omega
      clear hjn
      go_wp2
      exact bodyPost_ret (v := .bool true) (by simp [results, Try.results9, go_sem]) rfl (.inr ⟨rfl, h50.out, hk⟩)
    obtain ⟨b, off, rfl, dv, hdv, hcell⟩ := (hS.keep hk).elem j hjn
    generalize qs[j] = q at *
    have x0 := hcell 0 _ rfl
    have x1 := hcell 1 _ rfl
    have x2 := hcell 2 _ rfl
    have x3 := hcell 3 _ rfl
    have x4 := hcell 4 _ rfl
    have x5 := hcell 5 _ rfl
    have x6 := hcell 6 _ rfl
    have x7 := hcell 7 _ rfl
    have x8 := hcell 8 _ rfl
    have x9 := hcell 9 _ rfl
    rw [Nat.add_zero] at x0
    obtain ⟨da, dc, rfl, hdm, hdc, -⟩ := hdv.form
    have hjl : (j : Int) < (qs.length : Int) := by omega
    have s1 := size_str q.key
    have s2 := size_str q.value
    have s3 := size_str q.to_
    clear hcell hS hdv
    have hk2 : Keep w (wr.alloc (.cells #[.int .i64 q.kind, .int .i64 q.tenant, .int .i64 q.handle, .int .i64 q.table, .string ⟨q.key.toArray⟩, .string ⟨q.value.toArray⟩, .string ⟨q.to_.toArray⟩, .int .i64 q.n, .int .u64 (q.mask : Int), .slice da q.data.length dc] 34)) := hk.trans' (Keep.alloc _ _)
    go_upto_region 6 with (fail)
    have hA := heap_alloc_new wr (.cells #[.int .i64 q.kind, .int .i64 q.tenant, .int .i64 q.handle, .int .i64 q.table, .string ⟨q.key.toArray⟩, .string ⟨q.value.toArray⟩, .string ⟨q.to_.toArray⟩, .int .i64 q.n, .int .u64 (q.mask : Int), .slice da q.data.length dc] 34)
    generalize wr.alloc (.cells #[.int .i64 q.kind, .int .i64 q.tenant, .int .i64 q.handle, .int .i64 q.table, .string ⟨q.key.toArray⟩, .string ⟨q.value.toArray⟩, .string ⟨q.to_.toArray⟩, .int .i64 q.n, .int .u64 (q.mask : Int), .slice da q.data.length dc] 34) = w3 at *
    generalize wr.heap.size = gq at *
    clear x0 x1 x2 x3 x4 x5 x6 x7 x8 x9
    obtain ⟨-, -, -, -, e4, e5, e6, -, -, e9⟩ := cells10 hA
    obtain ⟨N, hN⟩ : ∃ N, N = wrap64 (wrap64 (wrap64 ((q.key.length : Int) + (q.value.length : Int)) + (q.to_.length : Int)) + (q.data.length : Int)) := ⟨_, rfl⟩
    go_wp2
    · exact bodyPost_ret (v := .bool false) (by simp [results, Try.results9, go_sem]) rfl ⟨false, rfl, (fun h => by cases h), hk2⟩
    · refine ⟨⟨j + 1, by omega, by simp, hk2⟩, ?_⟩
      simp only [intOf, Int.toNat_natCast]
      have e : (((j : Int) + 1).toNat) = j + 1 := by omega
      rw [e]
      omega
end Go.Proofs.Ytndndklaaegifaa
