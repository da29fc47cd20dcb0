/- The walk of RowBack. -/
import Derived.Test.YthgapchfhhcodaaFit04
import Derived.Test.YthgapchfhhcodaaRowL
import Derived.Test.YthgapchfhhcodaaTell
import Derived.Test.YthgapchfhhcodaaCopy
namespace Go.Proofs.Ythgapchfhhcodaa
open Go Go.RowKit
attribute [local irreducible] Go.wpQuiet

theorem List.splice_map {α β : Type} (f : α → β) (l : List α) (off : Nat) (k : List α) : splice (l.map f) off (k.map f) = (splice l off k).map f := by
  simp [splice, List.map_take, List.map_drop]
/-- a row's bytes ahead of the copies -/
def Rw.pre (a : Rw) : List UInt8 := ((((zB 40).set 0 1).set 1 (UInt8.ofNat a.t.toNat)).set 2 (UInt8.ofNat a.k.length)).set 18 (UInt8.ofNat a.v.length)
theorem B_mod (n : Nat) : Value.int .u8 ((n : Int) % 256) = B (UInt8.ofNat n) := by
  unfold B
  rw [UInt8.toNat_ofNat']
  congr 1
theorem Rw.pre_map (a : Rw) (h : a.right = true) : ((((((zB 40).map B).set 0 (.int .u8 1)).set 1 (.int .u8 (a.t % 256))).set 2 (.int .u8 ((a.k.length : Int) % 256))).set 18 (.int .u8 ((a.v.length : Int) % 256))) = a.pre.map B := by
  obtain ⟨h1, h2, h3, h4⟩ := a.right_iff.1 h
  obtain ⟨t, ht⟩ := Int.eq_ofNat_of_zero_le h1
  unfold Rw.pre
  rw [List.map_set, List.map_set, List.map_set, List.map_set, ht, B_mod, B_mod, B_mod]
  rfl
theorem Rw.pre_enc (a : Rw) (h : a.right = true) : splice (splice a.pre 3 a.k) 19 a.v = a.enc := by
  obtain ⟨h1, h2, h3, h4⟩ := a.right_iff.1 h
  have e : a.pre = [1, UInt8.ofNat a.t.toNat, UInt8.ofNat a.k.length] ++ (List.replicate 15 0 ++ ([UInt8.ofNat a.v.length] ++ List.replicate 21 0)) := rfl
  have e1 : splice a.pre 3 a.k = ([1, UInt8.ofNat a.t.toNat, UInt8.ofNat a.k.length] ++ (a.k ++ (List.replicate (15 - a.k.length) 0 ++ [UInt8.ofNat a.v.length]))) ++ List.replicate 21 0 := by
    unfold splice
    rw [e, List.take_left' (by simp), List.drop_append, List.drop_of_length_le (by simp), List.nil_append, show 3 + a.k.length - [1, UInt8.ofNat a.t.toNat, UInt8.ofNat a.k.length].length = a.k.length by simp, List.drop_append_of_le_length (by simp; omega), List.drop_replicate]
    simp
  unfold splice at e1 ⊢
  rw [e1, List.take_left' (by simp; omega), List.drop_append, List.drop_of_length_le (by simp; omega), List.nil_append, List.drop_replicate, Rw.enc_eq]
  have : 21 - (19 + a.v.length - ([1, UInt8.ofNat a.t.toNat, UInt8.ofNat a.k.length] ++ (a.k ++ (List.replicate (15 - a.k.length) 0 ++ [UInt8.ofNat a.v.length]))).length) = 21 - a.v.length := by
    simp only [List.length_append, List.length_cons, List.length_nil, List.length_replicate]
    omega
  rw [this]
  simp

set_option maxRecDepth 100000 in
set_option maxHeartbeats 2000000 in
theorem rowBack_any (a : Rw) (w : World) :
    Calls Try.prog 3 #[a.val] w fun e w' => e = .returned (.bool true) ∧ Keep w w' := by
  have hk0 := Keep.alloc w (.cells #[.int .i64 a.t, .string ⟨a.k.toArray⟩, .string ⟨a.v.toArray⟩] 23)
  have hA := RwAt.laid w a
  have L1 := Lib.hid (light_any a)
  have R0 := Lib.hid (right_any a)
  have R1 := Lib.hid (right_law_any a)
  have E1 := Lib.hid (encode_any a)
  unfold Rw.val strV at *
  go_enter Try.func3, Try.ntmps3
  go_wp2_with fail
  generalize w.alloc (.cells #[.int .i64 a.t, .string ⟨a.k.toArray⟩, .string ⟨a.v.toArray⟩] 23) = w0 at *
  refine (fit_any w0).mono ?_
  rintro e w1 ⟨rfl, hk1'⟩
  obtain ⟨a0, a1, a2⟩ := hA.keep hk1'
  go_wp2_with fail
  refine (L1.out w1).mono ?_
  rintro e w2 ⟨⟨bx, rfl⟩, hk⟩
  have hk2' := hk1'.trans' hk
  clear hk a0 a1 a2
  obtain ⟨a0, a1, a2⟩ := hA.keep hk2'
  cases bx
  · go_wp2
    go_ret
    exact ⟨rfl, hk0.trans' hk2'⟩
  go_wp2_with fail
  -- drawn from here on
  obtain ⟨u0, u1, u2⟩ := hA.keep hk2'
  have lu0 := World.block_lt_of_cell? w2 _ u0
  have lu1 := World.block_lt_of_cell? w2 _ u1
  have lu2 := World.block_lt_of_cell? w2 _ u2
  have hw2 := hk0.trans' hk2'
  clear a0 a1 a2 hk1' L1
  have R9 := R1
  cases hra : a.right
  · rw [hra] at R0 R1
    refine wp_region_ord' [some (oV (.agg #[.int .i64 a.t, .string ⟨a.k.toArray⟩, .string ⟨a.v.toArray⟩])), some (oV (.bool false)), some (oV (.agg #[.int .i64 a.t, .string ⟨a.k.toArray⟩, .string ⟨a.v.toArray⟩])), some (oV (.bool false)), none]
      #[0, 0, 0, 0, 0] (w2.heap.size) (fun w' => Keep w2 w') (by kernel_rfl) (by kernel_rfl) (by kernel_rfl) ((Keep.refl w2).drew) ?_
    refine ordT_same (by kernel_rfl) (fun w2 hC => ?_) ?_
    · have x0 := (hC.cell lu0).trans u0
      have x1 := (hC.cell lu1).trans u1
      have x2 := (hC.cell lu2).trans u2
      go_simp
    simp only [Act.put, List.setIfInBounds_toArray, List.set_cons_zero, List.set_cons_succ]
    refine ordT_callV (by kernel_rfl) keepK (fun w2 own hC hF => ?_) ?_
    · refine ⟨_, _, by go_simp, (R0.out w2).mono ?_⟩
      rintro e w' ⟨rfl, hk⟩
      exact ⟨rfl, hk⟩
    simp only [Act.put, List.setIfInBounds_toArray, List.set_cons_zero, List.set_cons_succ]
    refine ordT_same (by kernel_rfl) (fun w2 hC => ?_) ?_
    · have x0 := (hC.cell lu0).trans u0
      have x1 := (hC.cell lu1).trans u1
      have x2 := (hC.cell lu2).trans u2
      go_simp
    simp only [Act.put, List.setIfInBounds_toArray, List.set_cons_zero, List.set_cons_succ]
    refine ordT_callV (by kernel_rfl) keepK (fun w2 own hC hF => ?_) ?_
    · refine ⟨_, _, by go_simp, (R1.out w2).mono ?_⟩
      rintro e w' ⟨rfl, hk⟩
      exact ⟨rfl, hk⟩
    simp only [Act.put, List.setIfInBounds_toArray, List.set_cons_zero, List.set_cons_succ]
    refine ordT_pure rfl ?_
    go_big_quiet_step (fail)
    refine ordT_on ?_
    refine ordT_done fun w2 own hC hF => ?_
    clear hF
    have v0 := (hC.cell lu0).trans u0
    have v1 := (hC.cell lu1).trans u1
    have v2 := (hC.cell lu2).trans u2
    go_wp2_with fail
    refine (R1.out w2).mono ?_
    rintro e w' ⟨rfl, hk⟩
    go_wp2
    go_ret
    exact ⟨rfl, (hw2.trans' hC).trans' hk⟩
  rw [hra] at R0 R1
  refine wp_region_ord' [some (oV (.agg #[.int .i64 a.t, .string ⟨a.k.toArray⟩, .string ⟨a.v.toArray⟩])), some (oV (.bool true)), some (oV (.agg #[.int .i64 a.t, .string ⟨a.k.toArray⟩, .string ⟨a.v.toArray⟩])), some (oV (.bool true)), none]
    #[0, 0, 0, 0, 0] (w2.heap.size) (fun w' => Keep w2 w') (by kernel_rfl) (by kernel_rfl) (by kernel_rfl) ((Keep.refl w2).drew) ?_
  refine ordT_same (by kernel_rfl) (fun w2 hC => ?_) ?_
  · have x0 := (hC.cell lu0).trans u0
    have x1 := (hC.cell lu1).trans u1
    have x2 := (hC.cell lu2).trans u2
    go_simp
  simp only [Act.put, List.setIfInBounds_toArray, List.set_cons_zero, List.set_cons_succ]
  refine ordT_callV (by kernel_rfl) keepK (fun w2 own hC hF => ?_) ?_
  · refine ⟨_, _, by go_simp, (R0.out w2).mono ?_⟩
    rintro e w' ⟨rfl, hk⟩
    exact ⟨rfl, hk⟩
  simp only [Act.put, List.setIfInBounds_toArray, List.set_cons_zero, List.set_cons_succ]
  refine ordT_same (by kernel_rfl) (fun w2 hC => ?_) ?_
  · have x0 := (hC.cell lu0).trans u0
    have x1 := (hC.cell lu1).trans u1
    have x2 := (hC.cell lu2).trans u2
    go_simp
  simp only [Act.put, List.setIfInBounds_toArray, List.set_cons_zero, List.set_cons_succ]
  refine ordT_callV (by kernel_rfl) keepK (fun w2 own hC hF => ?_) ?_
  · refine ⟨_, _, by go_simp, (R1.out w2).mono ?_⟩
    rintro e w' ⟨rfl, hk⟩
    exact ⟨rfl, hk⟩
  simp only [Act.put, List.setIfInBounds_toArray, List.set_cons_zero, List.set_cons_succ]
  refine ordT_pure rfl ?_
  go_big_quiet_step (fail)
  refine ordT_on ?_
  refine ordT_done fun w2 own hC hF => ?_
  clear hF
  have v0 := (hC.cell lu0).trans u0
  have v1 := (hC.cell lu1).trans u1
  have v2 := (hC.cell lu2).trans u2
  go_wp2_with fail
  refine (R1.out w2).mono ?_
  rintro e w3 ⟨rfl, hk⟩
  have hC3 := hC.trans' hk
  have hw3 := hw2.trans' hC3
  clear v0 v1 v2 hC hk
  clear R1 R9
  have hmk : (Instr.makeSlice 26 (.int .i64 40) (.int .i64 40)).run Try.prog w3 = .ok (.slice (some ⟨w3.heap.size, 0, none⟩) 40 40) (w3.alloc (.cells ((zB 40).map B).toArray 5)) := run_makeB (P := Try.prog) elemB w3 40 (by omega)
  have hs1 := size_str a.k
  have hs2 := size_str a.v
  go_upto_region 10 with (fail)
  have h40 : Own (w3.alloc (.cells ((zB 40).map B).toArray 5)) w3.heap.size 5 (.slice (some ⟨w3.heap.size, 0, none⟩) 40 40) ((zB 40).map B) := Own.made w3 _ _ 40 (Nat.le_refl _) (by omega)
  have hk34 := Keep.alloc w3 (.cells ((zB 40).map B).toArray 5)
  generalize w3.alloc (.cells ((zB 40).map B).toArray 5) = w4 at *
  obtain ⟨u0, u1, u2⟩ := (hA.keep hk2').keep hC3
  have lu0 := World.block_lt_of_cell? w3 _ u0
  have lu1 := World.block_lt_of_cell? w3 _ u1
  have lu2 := World.block_lt_of_cell? w3 _ u2
  clear hmk
  refine wp_region_ordI [none, none, none, none, none, some (oV (.int .i64 a.t)), none, none, some (oV (.string ⟨a.k.toArray⟩)), none, none, none, some (oV (.string ⟨a.v.toArray⟩)), none, none, none, some (oHas (.slice (some ⟨w3.heap.size, 0, none⟩) 40 40) (w3.heap.size) 5 (List.set ((zB 40).map B) 0 (.int .u8 1))), none, some (oHas (.slice (some ⟨w3.heap.size, 0, none⟩) 40 40) (w3.heap.size) 5 (List.set (List.set ((zB 40).map B) 0 (.int .u8 1)) 1 (.int .u8 (a.t % 256)))), none, some (oHas (.slice (some ⟨w3.heap.size, 0, none⟩) 40 40) (w3.heap.size) 5 (List.set (List.set (List.set ((zB 40).map B) 0 (.int .u8 1)) 1 (.int .u8 (a.t % 256))) 2 (.int .u8 ((a.k.length : Int) % 256)))), none, some (oHas (.slice (some ⟨w3.heap.size, 0, none⟩) 40 40) (w3.heap.size) 5 (List.set (List.set (List.set (List.set ((zB 40).map B) 0 (.int .u8 1)) 1 (.int .u8 (a.t % 256))) 2 (.int .u8 ((a.k.length : Int) % 256))) 18 (.int .u8 ((a.v.length : Int) % 256))))]
    65536 #[0, 0, 0, 0, 0, 0, 0, 0, 0, 0, 0, 0, 0, 0, 0, 0, 8388608, 0, 65536, 0, 262144, 0, 1048576] (w3.heap.size) ((oHas (.slice (some ⟨w3.heap.size, 0, none⟩) 40 40) w3.heap.size 5 ((zB 40).map B)).φ undef) (fun w' => Keep w3 w') (by kernel_rfl) (by kernel_rfl) (by kernel_rfl) (hk34.drew) ((oHas (.slice (some ⟨w3.heap.size, 0, none⟩) 40 40) w3.heap.size 5 ((zB 40).map B)).st undef) (⟨h40.keep (Keep.refl w4).drew, fun _ _ _ _ => trivial⟩) ?_
  refine ordT_pure rfl ?_
  go_big_quiet_step (fail)
  refine ordT_on ?_
  refine ordT_pure rfl ?_
  go_big_quiet_step (fail)
  refine ordT_on ?_
  refine ordT_pure rfl ?_
  go_big_quiet_step (fail)
  refine ordT_on ?_
  refine ordT_pure rfl ?_
  go_big_quiet_step (fail)
  refine ordT_on ?_
  refine ordT_pure rfl ?_
  go_big_quiet_step (fail)
  refine ordT_on ?_
  refine ordT_same (by kernel_rfl) (fun w2 hC => ?_) ?_
  · have x0 := (hC.cell lu0).trans u0
    go_simp
  simp only [Act.put, List.setIfInBounds_toArray, List.set_cons_zero, List.set_cons_succ]
  refine ordT_pure rfl ?_
  go_big_quiet_step (fail)
  refine ordT_on ?_
  refine ordT_pure rfl ?_
  go_big_quiet_step (fail)
  refine ordT_on ?_
  refine ordT_same (by kernel_rfl) (fun w2 hC => ?_) ?_
  · have x0 := (hC.cell lu1).trans u1
    go_simp
  simp only [Act.put, List.setIfInBounds_toArray, List.set_cons_zero, List.set_cons_succ]
  refine ordT_pure rfl ?_
  go_big_quiet_step (fail)
  refine ordT_on ?_
  refine ordT_pure rfl ?_
  go_big_quiet_step (fail)
  refine ordT_on ?_
  refine ordT_pure rfl ?_
  go_big_quiet_step (fail)
  refine ordT_on ?_
  refine ordT_same (by kernel_rfl) (fun w2 hC => ?_) ?_
  · have x0 := (hC.cell lu2).trans u2
    go_simp
  simp only [Act.put, List.setIfInBounds_toArray, List.set_cons_zero, List.set_cons_succ]
  refine ordT_pure rfl ?_
  go_big_quiet_step (fail)
  refine ordT_on ?_
  refine ordT_pure rfl ?_
  go_big_quiet_step (fail)
  refine ordT_on ?_
  refine ordT_pure rfl ?_
  go_big_quiet_step (fail)
  refine ordT_on ?_
  refine ordT_told (by kernel_rfl) (told_store 5 w3.heap.size 40 40 ((zB 40).map B) 0 (.int .u8 1) (by simp [zB]) keepS (fun w2 x hc1 hc2 => by go_simp) fun w2 own hC hF => ?_) ?_
  · have h2 := (((((hF 23 (by kernel_rfl)).2 rfl).2 rfl).2 rfl) rfl)
    exact own_con h2.1 h2.2 rfl
  rintro _ w_ own_ - -
  simp only [Act.put, List.setIfInBounds_toArray, List.set_cons_zero, List.set_cons_succ]
  refine ordT_pure rfl ?_
  go_big_quiet_step (fail)
  refine ordT_on ?_
  refine ordT_told (by kernel_rfl) (told_store 5 w3.heap.size 40 40 (List.set ((zB 40).map B) 0 (.int .u8 1)) 1 (.int .u8 (a.t % 256)) (by simp [zB]) keepS (fun w2 x hc1 hc2 => by go_simp) fun w2 own hC hF => ?_) ?_
  · have h2 := ((hF 16 (by kernel_rfl)).1 rfl)
    exact own_con h2.1 h2.2 rfl
  rintro _ w_ own_ - -
  simp only [Act.put, List.setIfInBounds_toArray, List.set_cons_zero, List.set_cons_succ]
  refine ordT_pure rfl ?_
  go_big_quiet_step (fail)
  refine ordT_on ?_
  refine ordT_told (by kernel_rfl) (told_store 5 w3.heap.size 40 40 (List.set (List.set ((zB 40).map B) 0 (.int .u8 1)) 1 (.int .u8 (a.t % 256))) 2 (.int .u8 ((a.k.length : Int) % 256)) (by simp [zB]) keepS (fun w2 x hc1 hc2 => by go_simp) fun w2 own hC hF => ?_) ?_
  · have h2 := ((hF 18 (by kernel_rfl)).1 rfl)
    exact own_con h2.1 h2.2 rfl
  rintro _ w_ own_ - -
  simp only [Act.put, List.setIfInBounds_toArray, List.set_cons_zero, List.set_cons_succ]
  refine ordT_pure rfl ?_
  go_big_quiet_step (fail)
  refine ordT_on ?_
  refine ordT_told (by kernel_rfl) (told_store 5 w3.heap.size 40 40 (List.set (List.set (List.set ((zB 40).map B) 0 (.int .u8 1)) 1 (.int .u8 (a.t % 256))) 2 (.int .u8 ((a.k.length : Int) % 256))) 18 (.int .u8 ((a.v.length : Int) % 256)) (by simp [zB]) keepS (fun w2 x hc1 hc2 => by go_simp) fun w2 own hC hF => ?_) ?_
  · have h2 := ((hF 20 (by kernel_rfl)).1 rfl)
    exact own_con h2.1 h2.2 rfl
  rintro _ w_ own_ - -
  simp only [Act.put, List.setIfInBounds_toArray, List.set_cons_zero, List.set_cons_succ]
  refine ordT_done fun w9 own hCw9 hF => ?_
  have hOw9 := ((hF 22).1 rfl).1
  clear hF
  rw [Rw.pre_map a hra] at hOw9
  clear h40 hk34 u0 u1 u2 lu0 lu1 lu2
  skip
  obtain ⟨hr1, hr2, hr3, hr4⟩ := a.right_iff.1 hra
  have hA9 := (hA.keep hk2').keep hC3
  go_upto_region 11 with (fail)
  refine wp_region_ordI [none, none, none, some (oV (.string ⟨a.k.toArray⟩)), some (oHas (.slice (some ⟨w3.heap.size, 0, none⟩) 40 40) (w3.heap.size) 5 (splice (a.pre.map B) 3 ((a.k).map B)))]
    16 #[0, 0, 0, 0, 32] (w3.heap.size) ((oHas (.slice (some ⟨w3.heap.size, 0, none⟩) 40 40) w3.heap.size 5 (a.pre.map B)).φ undef) (fun w' => Keep w3 w') (by kernel_rfl) (by kernel_rfl) (by kernel_rfl) (hCw9.drew) ((oHas (.slice (some ⟨w3.heap.size, 0, none⟩) 40 40) w3.heap.size 5 (a.pre.map B)).st undef) (⟨hOw9.keep (Keep.refl w9).drew, fun _ _ _ _ => trivial⟩) ?_
  refine ordT_pure rfl ?_
  go_big_quiet_step (fail)
  refine ordT_on ?_
  refine ordT_pure rfl ?_
  go_big_quiet_step (fail)
  refine ordT_on ?_
  refine ordT_pure rfl ?_
  go_big_quiet_step (fail)
  refine ordT_on ?_
  refine ordT_same (by kernel_rfl) (fun w2 hC => ?_) ?_
  · have x0 := (hA9.keep hC).2.1
    go_simp
  simp only [Act.put, List.setIfInBounds_toArray, List.set_cons_zero, List.set_cons_succ]
  refine ordT_told (by kernel_rfl) (told_copyStr elemB _ _ rfl (off := 3) (dLen := 37) (dCap := 37) (g := w3.heap.size) (len := 40) (cap := 40) (xs := a.pre.map B) (k := a.k) rfl rfl (by omega) (by omega) keepG fun w2 own hC hF => ?_) ?_
  · have h2 := (((hF 5 (by kernel_rfl)).2 rfl) rfl)
    exact own_con h2.1 h2.2 rfl
  rintro _ w_ own_ - -
  simp only [Act.put, List.setIfInBounds_toArray, List.set_cons_zero, List.set_cons_succ]
  refine ordT_done fun w5 own hCw5 hF => ?_
  have hOw5 := ((hF 4).1 rfl).1
  clear hF
  clear hOw9
  rw [List.splice_map] at hOw5
  go_upto_region 12 with (fail)
  refine wp_region_ordI [none, none, none, some (oV (.string ⟨a.v.toArray⟩)), some (oHas (.slice (some ⟨w3.heap.size, 0, none⟩) 40 40) (w3.heap.size) 5 (splice ((splice a.pre 3 a.k).map B) 19 ((a.v).map B)))]
    16 #[0, 0, 0, 0, 32] (w3.heap.size) ((oHas (.slice (some ⟨w3.heap.size, 0, none⟩) 40 40) w3.heap.size 5 ((splice a.pre 3 a.k).map B)).φ undef) (fun w' => Keep w3 w') (by kernel_rfl) (by kernel_rfl) (by kernel_rfl) (hCw5.drew) ((oHas (.slice (some ⟨w3.heap.size, 0, none⟩) 40 40) w3.heap.size 5 ((splice a.pre 3 a.k).map B)).st undef) (⟨hOw5.keep (Keep.refl w5).drew, fun _ _ _ _ => trivial⟩) ?_
  refine ordT_pure rfl ?_
  go_big_quiet_step (fail)
  refine ordT_on ?_
  refine ordT_pure rfl ?_
  go_big_quiet_step (fail)
  refine ordT_on ?_
  refine ordT_pure rfl ?_
  go_big_quiet_step (fail)
  refine ordT_on ?_
  refine ordT_same (by kernel_rfl) (fun w2 hC => ?_) ?_
  · have x0 := (hA9.keep hC).2.2
    go_simp
  simp only [Act.put, List.setIfInBounds_toArray, List.set_cons_zero, List.set_cons_succ]
  refine ordT_told (by kernel_rfl) (told_copyStr elemB _ _ rfl (off := 19) (dLen := 21) (dCap := 21) (g := w3.heap.size) (len := 40) (cap := 40) (xs := (splice a.pre 3 a.k).map B) (k := a.v) rfl rfl (by omega) (by omega) keepG fun w2 own hC hF => ?_) ?_
  · have h2 := (((hF 5 (by kernel_rfl)).2 rfl) rfl)
    exact own_con h2.1 h2.2 rfl
  rintro _ w_ own_ - -
  simp only [Act.put, List.setIfInBounds_toArray, List.set_cons_zero, List.set_cons_succ]
  refine ordT_done fun w6 own hCw6 hF => ?_
  have hOw6 := ((hF 4).1 rfl).1
  clear hF
  clear hOw5
  rw [List.splice_map, Rw.pre_enc a hra] at hOw6
  have hS := hOw6.slB
  have hw6 := hw3.trans' hCw6
  have hA6 := hA9.keep hCw6
  clear hOw6 hCw5 hCw6 hCw9 hC3 hA9
  go_wp2_with fail
  refine (decode_any _ a.enc w6 hS).mono ?_
  rintro e w7 ⟨rfl, hk7⟩
  rw [Rw.dec_enc a hra]
  have hw7 := hw6.trans' hk7
  unfold Rw.val strV
  go_upto_region 14 with (fail)
  have hX := RwAt.laid w7 a
  have hk78 := Keep.alloc w7 (.cells #[.int .i64 a.t, .string ⟨a.k.toArray⟩, .string ⟨a.v.toArray⟩] 23)
  have hA8 := (hA6.keep hk7).keep hk78
  have hS8 := (hS.keep hk7).keep hk78
  have hw8 := hw7.trans' hk78
  generalize w7.heap.size = gx at *
  generalize w7.alloc (.cells #[.int .i64 a.t, .string ⟨a.k.toArray⟩, .string ⟨a.v.toArray⟩] 23) = w8 at *
  clear hk78 hk7 hw7 hS hA6 hA
  obtain ⟨u0, u1, u2⟩ := hA8
  have lu0 := World.block_lt_of_cell? w8 _ u0
  have lu1 := World.block_lt_of_cell? w8 _ u1
  have lu2 := World.block_lt_of_cell? w8 _ u2
  obtain ⟨y0, y1, y2⟩ := hX
  have ly0 := World.block_lt_of_cell? w8 _ y0
  have ly1 := World.block_lt_of_cell? w8 _ y1
  have ly2 := World.block_lt_of_cell? w8 _ y2
  refine wp_region_ord' [some (oV (.agg #[.int .i64 a.t, .string ⟨a.k.toArray⟩, .string ⟨a.v.toArray⟩])), some (oB a.enc), some (oV (strV (a.enc))), none, some (oV (strV (a.enc))), none, none, none, none, none, none, some (oV (.agg #[.int .i64 a.t, .string ⟨a.k.toArray⟩, .string ⟨a.v.toArray⟩])), some (oV (.agg #[.int .i64 a.t, .string ⟨a.k.toArray⟩, .string ⟨a.v.toArray⟩])), none, none, none]
    #[0, 0, 0, 0, 0, 0, 0, 0, 0, 0, 0, 0, 0, 0, 0, 0] (w8.heap.size) (fun w' => Keep w8 w') (by kernel_rfl) (by kernel_rfl) (by kernel_rfl) ((Keep.refl w8).drew) ?_
  refine ordT_same (by kernel_rfl) (fun w2 hC => ?_) ?_
  · have x0 := (hC.cell lu0).trans u0
    have x1 := (hC.cell lu1).trans u1
    have x2 := (hC.cell lu2).trans u2
    go_simp
  simp only [Act.put, List.setIfInBounds_toArray, List.set_cons_zero, List.set_cons_succ]
  refine ordT_call (by kernel_rfl) keepK (fun w2 own hC hF => ?_) ?_
  · refine ⟨_, _, by go_simp, (E1.out hra w2).mono ?_⟩
    rintro e w' ⟨v, rfl, hO, hk⟩
    exact ⟨v, rfl, hk, fun S hS => ⟨hO.sl, fun _ => Own.inOf hO fun g hg => hS g (.inr (World.ownsRow.lt hO g hg).1)⟩⟩
  rintro x1 wx1 ownx1 hCx1 hx1
  obtain ⟨ax1, nx1, cx1, rfl⟩ := Sl.shape hx1.1
  simp only [Act.put, List.setIfInBounds_toArray, List.set_cons_zero, List.set_cons_succ]
  refine ordT_str Try.underlying26 Try.underlying5 Try.underlying9 _ rfl (bs := a.enc) (by kernel_rfl) (fun w2 own hC hF => ?_) ?_
  · exact (((hF 1 rfl).1 rfl)).1
  simp only [Act.put, List.setIfInBounds_toArray, List.set_cons_zero, List.set_cons_succ]
  refine ordT_pure rfl ?_
  go_big_quiet_step (fail)
  refine ordT_on ?_
  refine ordT_str Try.underlying26 Try.underlying5 Try.underlying9 _ rfl (bs := a.enc) (by kernel_rfl) (fun w2 own hC hF => ?_) ?_
  · exact hS8.keep hC
  simp only [Act.put, List.setIfInBounds_toArray, List.set_cons_zero, List.set_cons_succ]
  unfold strV
  refine ordT_pure rfl ?_
  go_big_quiet_step (fail)
  refine ordT_on ?_
  refine ordT_pure rfl ?_
  go_big_quiet_step (fail)
  refine ordT_on ?_
  refine ordT_pure rfl ?_
  go_big_quiet_step (fail)
  refine ordT_on ?_
  refine ordT_pure rfl ?_
  go_big_quiet_step (fail)
  refine ordT_on ?_
  refine ordT_pure rfl ?_
  go_big_quiet_step (fail)
  refine ordT_on ?_
  refine ordT_pure rfl ?_
  go_big_quiet_step (fail)
  refine ordT_on ?_
  refine ordT_same (by kernel_rfl) (fun w2 hC => ?_) ?_
  · have x0 := (hC.cell ly0).trans y0
    have x1 := (hC.cell ly1).trans y1
    have x2 := (hC.cell ly2).trans y2
    go_simp
  simp only [Act.put, List.setIfInBounds_toArray, List.set_cons_zero, List.set_cons_succ]
  refine ordT_same (by kernel_rfl) (fun w2 hC => ?_) ?_
  · have x0 := (hC.cell lu0).trans u0
    have x1 := (hC.cell lu1).trans u1
    have x2 := (hC.cell lu2).trans u2
    go_simp
  simp only [Act.put, List.setIfInBounds_toArray, List.set_cons_zero, List.set_cons_succ]
  refine ordT_pure rfl ?_
  go_big_quiet_step (fail)
  refine ordT_on ?_
  refine ordT_pure rfl ?_
  go_big_quiet_step (fail)
  refine ordT_on ?_
  refine ordT_pure rfl ?_
  go_big_quiet_step (fail)
  refine ordT_on ?_
  refine ordT_done fun w2 own hC hF => ?_
  clear hF
  go_wp2
  go_ret
  exact ⟨rfl, hw8.trans' hC⟩
end Go.Proofs.Ythgapchfhhcodaa
