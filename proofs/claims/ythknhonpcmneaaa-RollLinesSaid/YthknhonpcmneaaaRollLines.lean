/- The walk of RollLines. -/
import Derived.Test.YthknhonpcmneaaaFit15
import Derived.Test.YthknhonpcmneaaaFill2
namespace Go.Proofs.Ythknhonpcmneaaa
open Go Go.RowKit
attribute [local irreducible] Go.wpQuiet

theorem lt_at {w : World} {g : Nat} {o : Obj} (h : w.heap[g]? = some o) : g < w.heap.size := (Array.getElem?_eq_some_iff.1 h).1
set_option maxRecDepth 100000 in
set_option maxHeartbeats 8000000 in
theorem rollLines_any (a0 a1 b0 b1 m : Nat) (w : World) (ha0 : a0 < 4294967296) (ha1 : a1 < 4294967296) (hb0 : b0 < 4294967296) (hb1 : b1 < 4294967296) (hm : m < 18446744073709551616) :
    Calls Try.prog 3 #[.agg #[.int .u32 a0, .int .u32 a1], .agg #[.int .u32 b0, .int .u32 b1], .int .u64 m] w fun e w' => e = .returned (.bool true) ∧ Keep w w' := by
  go_enter Try.func3, Try.ntmps3
  go_upto_region 1 with (fail)
  have kb : Keep w ((w.alloc (.cells #[.int .u32 a0, .int .u32 a1] 23)).alloc (.cells #[.int .u32 b0, .int .u32 b1] 23)) := (Keep.alloc w (.cells #[.int .u32 a0, .int .u32 a1] 23)).trans' (Keep.alloc _ (.cells #[.int .u32 b0, .int .u32 b1] 23))
  have hA := (Keep.alloc (w.alloc (.cells #[.int .u32 a0, .int .u32 a1] 23)) (.cells #[.int .u32 b0, .int .u32 b1] 23)).block w.heap.size (by simp)
  rw [heap_alloc_new w (.cells #[.int .u32 a0, .int .u32 a1] 23)] at hA
  have hB := heap_alloc_new (w.alloc (.cells #[.int .u32 a0, .int .u32 a1] 23)) (.cells #[.int .u32 b0, .int .u32 b1] 23)
  have hz : (w.alloc (.cells #[.int .u32 a0, .int .u32 a1] 23)).heap.size = w.heap.size + 1 := by simp
  rw [hz] at hB
  generalize (w.alloc (.cells #[.int .u32 a0, .int .u32 a1] 23)).alloc (.cells #[.int .u32 b0, .int .u32 b1] 23) = w0 at *
  obtain ⟨gA, hgA⟩ : ∃ x, x = w.heap.size := ⟨_, rfl⟩
  obtain ⟨gB, hgB⟩ : ∃ x, x = gA + 1 := ⟨_, rfl⟩
  rw [← hgA] at hA hB
  rw [← hgB] at hB
  rw [← hgA, ← hgB]
  clear hz hgA hgB
  go_wp2_with fail
  refine (fit_any _).mono ?_
  rintro e w1 ⟨rfl, k1⟩
  have hA := (k1.block gA (Array.getElem?_eq_some_iff.1 hA).1).trans hA
  have hB := (k1.block gB (Array.getElem?_eq_some_iff.1 hB).1).trans hB
  have k1 := kb.trans' k1
  clear kb
  go_wp2_with fail
  refine (newDk_any 3 538 w1 (by decide) (by decide) (by decide) (by decide)).mono ?_
  rintro e w2 ⟨p, rfl, hN, kN⟩
  have hSw : ∀ b, (fun b => w1.heap.size ≤ b ∧ b < w2.heap.size) b → w.heap.size ≤ b := fun b h => Nat.le_trans k1.size h.1
  have hSl : ∀ b, (fun b => w1.heap.size ≤ b ∧ b < w2.heap.size) b → b < w2.heap.size := fun b h => h.2
  have hA := (kN.block gA (Array.getElem?_eq_some_iff.1 hA).1).trans hA
  have hB := (kN.block gB (Array.getElem?_eq_some_iff.1 hB).1).trans hB
  have k2 := k1.trans' kN
  generalize (fun b => w1.heap.size ≤ b ∧ b < w2.heap.size) = S at *
  have hD1 := Dt.start hN
  have xa0 : w2.cell? ⟨gA, 0, none⟩ = some (.int .u32 a0) := cell_of_row w2 gA 0 _ _ _ hA
  have xa1 : w2.cell? ⟨gA, 1, none⟩ = some (.int .u32 a1) := cell_of_row w2 gA 1 _ _ _ hA
  have xb0 : w2.cell? ⟨gB, 0, none⟩ = some (.int .u32 b0) := cell_of_row w2 gB 0 _ _ _ hB
  have xb1 : w2.cell? ⟨gB, 1, none⟩ = some (.int .u32 b1) := cell_of_row w2 gB 1 _ _ _ hB
  have ea : (a0 : Int).tmod 3 = ((a0 % 3 : Nat) : Int) := rfl
  have eb : (b0 : Int).tmod 3 = ((b0 % 3 : Nat) : Int) := rfl
  have hsa : a0 % 3 < 3 := Nat.mod_lt _ (by decide)
  have hsb : b0 % 3 < 3 := Nat.mod_lt _ (by decide)
  clear hN kN k1 hA hB
  go_upto_region 4 with (fail)
  refine K.wp_region_ord' [some (fun _ => (oV (.pointer (some ⟨gA, 0, none⟩)))), some (fun _ => (oV (.int .u32 a0))), some (fun _ => (oV (.int .u32 ((a0 % 3 : Nat) : Int)))), some (fun _ => (oV (.int .i64 ((a0 % 3 : Nat) : Int)))), some (fun _ => (oV (.pointer (some ⟨gA, 1, none⟩)))), some (fun _ => (oV (.int .u32 a1))), some (fun _ => (oV (.int .u64 a1))), some (fun _ => (oV (.agg #[.int .i64 ((a0 % 3 : Nat) : Int), .int .u64 a1]))), some (fun _ => (oV (.pointer (some ⟨gB, 0, none⟩)))), some (fun _ => (oV (.int .u32 b0))), some (fun _ => (oV (.int .u32 ((b0 % 3 : Nat) : Int)))), some (fun _ => (oV (.int .i64 ((b0 % 3 : Nat) : Int)))), some (fun _ => (oV (.pointer (some ⟨gB, 1, none⟩)))), some (fun _ => (oV (.int .u32 b1))), some (fun _ => (oV (.int .u64 b1))), some (fun _ => (oV (.agg #[.int .i64 ((b0 % 3 : Nat) : Int), .int .u64 b1]))), some (fun _ => (oAt w2.heap.size (.cells #[.int .i64 0, .int .u64 0] 29))), some (fun _ => (oAt w2.heap.size (.cells #[.int .i64 0, .int .u64 0] 29))), some (oFill w2.heap.size 29), some (oFill w2.heap.size 29)]
    #[0, 0, 0, 0, 0, 0, 0, 0, 0, 0, 0, 0, 0, 0, 0, 0, 0, 0, 65536, 131072] (w2.heap.size) (fun w' => Keep w2 w') (by kernel_rfl) (by kernel_rfl) (by kernel_rfl) ((Keep.refl w2).drew) ?_
  refine K.ordT_same (by kernel_rfl) (fun w2 hC => ?_) ?_
  · go_simp
  simp only [Act.put, List.setIfInBounds_toArray, List.set_cons_zero, List.set_cons_succ]
  refine K.ordT_same (by kernel_rfl) (fun w2 hC => ?_) ?_
  · have zz := hC.cellk xa0
    go_simp
  simp only [Act.put, List.setIfInBounds_toArray, List.set_cons_zero, List.set_cons_succ]
  refine K.ordT_same (by kernel_rfl) (fun w2 hC => ?_) ?_
  · first | (go_simp; done) | (go_simp; rw [ea]; done) | (go_simp; rw [ea]; rw [IntKind.wrap_u32]; omega)
  simp only [Act.put, List.setIfInBounds_toArray, List.set_cons_zero, List.set_cons_succ]
  refine K.ordT_same (by kernel_rfl) (fun w2 hC => ?_) ?_
  · first | (go_simp; done) | (go_simp; rw [IntKind.wrap_i64]; omega)
  simp only [Act.put, List.setIfInBounds_toArray, List.set_cons_zero, List.set_cons_succ]
  refine K.ordT_same (by kernel_rfl) (fun w2 hC => ?_) ?_
  · go_simp
  simp only [Act.put, List.setIfInBounds_toArray, List.set_cons_zero, List.set_cons_succ]
  refine K.ordT_same (by kernel_rfl) (fun w2 hC => ?_) ?_
  · have zz := hC.cellk xa1
    go_simp
  simp only [Act.put, List.setIfInBounds_toArray, List.set_cons_zero, List.set_cons_succ]
  refine K.ordT_same (by kernel_rfl) (fun w2 hC => ?_) ?_
  · first | (go_simp; done) | (go_simp; rw [IntKind.wrap_u64]; omega)
  simp only [Act.put, List.setIfInBounds_toArray, List.set_cons_zero, List.set_cons_succ]
  refine K.ordT_same (by kernel_rfl) (fun w2 hC => ?_) ?_
  · go_simp
  simp only [Act.put, List.setIfInBounds_toArray, List.set_cons_zero, List.set_cons_succ]
  refine K.ordT_same (by kernel_rfl) (fun w2 hC => ?_) ?_
  · go_simp
  simp only [Act.put, List.setIfInBounds_toArray, List.set_cons_zero, List.set_cons_succ]
  refine K.ordT_same (by kernel_rfl) (fun w2 hC => ?_) ?_
  · have zz := hC.cellk xb0
    go_simp
  simp only [Act.put, List.setIfInBounds_toArray, List.set_cons_zero, List.set_cons_succ]
  refine K.ordT_same (by kernel_rfl) (fun w2 hC => ?_) ?_
  · first | (go_simp; done) | (go_simp; rw [eb]; done) | (go_simp; rw [eb]; rw [IntKind.wrap_u32]; omega)
  simp only [Act.put, List.setIfInBounds_toArray, List.set_cons_zero, List.set_cons_succ]
  refine K.ordT_same (by kernel_rfl) (fun w2 hC => ?_) ?_
  · first | (go_simp; done) | (go_simp; rw [IntKind.wrap_i64]; omega)
  simp only [Act.put, List.setIfInBounds_toArray, List.set_cons_zero, List.set_cons_succ]
  refine K.ordT_same (by kernel_rfl) (fun w2 hC => ?_) ?_
  · go_simp
  simp only [Act.put, List.setIfInBounds_toArray, List.set_cons_zero, List.set_cons_succ]
  refine K.ordT_same (by kernel_rfl) (fun w2 hC => ?_) ?_
  · have zz := hC.cellk xb1
    go_simp
  simp only [Act.put, List.setIfInBounds_toArray, List.set_cons_zero, List.set_cons_succ]
  refine K.ordT_same (by kernel_rfl) (fun w2 hC => ?_) ?_
  · first | (go_simp; done) | (go_simp; rw [IntKind.wrap_u64]; omega)
  simp only [Act.put, List.setIfInBounds_toArray, List.set_cons_zero, List.set_cons_succ]
  refine K.ordT_same (by kernel_rfl) (fun w2 hC => ?_) ?_
  · go_simp
  simp only [Act.put, List.setIfInBounds_toArray, List.set_cons_zero, List.set_cons_succ]
  refine K.ordT_laid (fun w2 => .pointer (some ⟨w2.heap.size, 0, none⟩)) ((.cells #[.int .i64 0, .int .u64 0] 29)) (by kernel_rfl) keepK (fun w2 hC => by go_simp) (fun w2 own hC hF S hS => ?_) ?_
  · exact ⟨_, rfl, hC.size, hS _ (.inr (Nat.le_refl _)), heap_alloc_new _ _⟩
  rintro x16 wx16 ownx16 - hx16
  obtain ⟨gx16, rfl, nx16, -, -⟩ := hx16
  simp only [Act.put, List.setIfInBounds_toArray, List.set_cons_zero, List.set_cons_succ]
  refine K.ordT_laid (fun w2 => .pointer (some ⟨w2.heap.size, 0, none⟩)) ((.cells #[.int .i64 0, .int .u64 0] 29)) (by kernel_rfl) keepK (fun w2 hC => by go_simp) (fun w2 own hC hF S hS => ?_) ?_
  · exact ⟨_, rfl, hC.size, hS _ (.inr (Nat.le_refl _)), heap_alloc_new _ _⟩
  rintro x17 wx17 ownx17 - hx17
  obtain ⟨gx17, rfl, nx17, -, -⟩ := hx17
  simp only [Act.put, List.setIfInBounds_toArray, List.set_cons_zero, List.set_cons_succ]
  refine K.ordT_fill [.pointer (some ⟨gx16, 0, none⟩), .agg #[.int .i64 ((a0 % 3 : Nat) : Int), .int .u64 a1]] rfl (by kernel_rfl) (told_fill2 gx16 29 (x0 := .int .i64 0) (x1 := .int .u64 0) (.int .i64 ((a0 % 3 : Nat) : Int)) (.int .u64 a1) (fun w2 hg => ?_) keepG fun w2 own hC hF => ?_) fun _ => ?_
  · have z0 := free_of hg 0
    have z1 := free_of hg 1
    have y0 : w2.cell? ⟨gx16, 0, none⟩ = some (.int .i64 0) := cell_of_row w2 gx16 0 _ _ _ hg
    have y1 : w2.cell? ⟨gx16, 1, none⟩ = some (.int .u64 0) := cell_of_row w2 gx16 1 _ _ _ hg
    unfold laid2
    go_simp
  · obtain ⟨g', e', h1, h2, h3⟩ := (((hF 16 rfl).2 rfl).1 rfl)
    simp only [Value.pointer.injEq, Option.some.injEq, Addr.mk.injEq, and_true] at e'
    subst e'
    exact at_con h1 h2 h3 rfl
  simp only [Act.put, List.setIfInBounds_toArray, List.set_cons_zero, List.set_cons_succ]
  refine K.ordT_fill [.pointer (some ⟨gx17, 0, none⟩), .agg #[.int .i64 ((b0 % 3 : Nat) : Int), .int .u64 b1]] rfl (by kernel_rfl) (told_fill2 gx17 29 (x0 := .int .i64 0) (x1 := .int .u64 0) (.int .i64 ((b0 % 3 : Nat) : Int)) (.int .u64 b1) (fun w2 hg => ?_) keepG fun w2 own hC hF => ?_) fun _ => ?_
  · have z0 := free_of hg 0
    have z1 := free_of hg 1
    have y0 : w2.cell? ⟨gx17, 0, none⟩ = some (.int .i64 0) := cell_of_row w2 gx17 0 _ _ _ hg
    have y1 : w2.cell? ⟨gx17, 1, none⟩ = some (.int .u64 0) := cell_of_row w2 gx17 1 _ _ _ hg
    unfold laid2
    go_simp
  · obtain ⟨g', e', h1, h2, h3⟩ := (((hF 17 rfl).2 rfl).1 rfl)
    simp only [Value.pointer.injEq, Option.some.injEq, Addr.mk.injEq, and_true] at e'
    subst e'
    exact at_con h1 h2 h3 rfl
  simp only [Act.put, List.setIfInBounds_toArray, List.set_cons_zero, List.set_cons_succ]
  refine K.ordT_done fun w3 own hC hF => ?_
  skip
  have hg16 := ((((hF 18).2 rfl).1 rfl) gx16 _ rfl)
  have hg17 := (((hF 19).1 rfl) gx17 _ rfl)
  have k3 := hC
  clear hF hC xa0 xa1 xb0 xb1 ea eb
  generalize a0 % 3 = sa at *
  generalize b0 % 3 = sb at *
  have n16 : ¬ S gx16 := fun h => by have := hSl _ h; omega
  have n17 : ¬ S gx17 := fun h => by have := hSl _ h; omega
  have hD3 := hD1.keep k3
  have hl16 := hg16.2.2
  have hl17 := hg17.2.2
  clear hg16 hg17 hD1 k3
  have hg16 := (Array.getElem?_eq_some_iff.1 hl16).1
  have hg17 := (Array.getElem?_eq_some_iff.1 hl17).1
  have x0 : w3.cell? ⟨gx16, 0, none⟩ = some (.int .i64 sa) := cell_of_row w3 gx16 0 _ _ _ hl16
  have x1 : w3.cell? ⟨gx16, 1, none⟩ = some (.int .u64 a1) := cell_of_row w3 gx16 1 _ _ _ hl16
  go_wp2_with fail
  refine (rwrite_any p (newD 3 538) 0 sa a1 0 w3 S hD3.dsk (by decide) (by omega) (by omega) (newD_small 3 538) (by decide)).mono ?_
  rintro e w4 ⟨d4, x, rfl, hD4, hF4⟩
  obtain ⟨rfl, hu4⟩ := hF4.up (by rw [newD_rg]; rfl)
  have hl16 := (hD4.same hg16 n16).trans hl16
  have hl17 := (hD4.same hg17 n17).trans hl17
  have n16 := hD4.not_in hg16 n16
  have n17 := hD4.not_in hg17 n17
  have hg16 := (Array.getElem?_eq_some_iff.1 hl16).1
  have hg17 := (Array.getElem?_eq_some_iff.1 hl17).1
  have hE4 := hD3.step hD4
  clear hD4 hD3 x0 x1
  generalize Fresh S w3 w4 = S4 at *
  have x0 : w4.cell? ⟨gx17, 0, none⟩ = some (.int .i64 sb) := cell_of_row w4 gx17 0 _ _ _ hl17
  have x1 : w4.cell? ⟨gx17, 1, none⟩ = some (.int .u64 b1) := cell_of_row w4 gx17 1 _ _ _ hl17
  have hr4 : 2 < d4.regs.length := hF4.there (by decide)
  have ha4 : (d4.rg 2).armed = false := by rw [(hF4.other 2 (by decide)).1, newD_rg]; rfl
  go_wp2_with fail
  refine (rwrite_any p d4 2 sb b1 1 w4 S4 hE4.dsk hr4 (by omega) (by omega) (hF4.small 0 (newD_small 3 538)) (by decide)).mono ?_
  rintro e w5 ⟨d5, x, rfl, hD5, hF5⟩
  obtain ⟨rfl, hu5⟩ := hF5.up ha4
  have hl16 := (hD5.same hg16 n16).trans hl16
  have hl17 := (hD5.same hg17 n17).trans hl17
  have n16 := hD5.not_in hg16 n16
  have n17 := hD5.not_in hg17 n17
  have hg16 := (Array.getElem?_eq_some_iff.1 hl16).1
  have hg17 := (Array.getElem?_eq_some_iff.1 hl17).1
  have hE5 := hE4.step hD5
  clear hD5 hE4 x0 x1
  generalize Fresh S4 w4 w5 = S5 at *
  have HC : Hid (((d5.crash m).regs.length = 3) ∧ lineOf ((d5.crash m).read 0 0) = (sa, a1) ∧ lineOf ((d5.crash m).read 1 0) = (0, 0) ∧ lineOf ((d5.crash m).read 2 0) = (sb, b1)) := Lib.hid (by
    have hs4 : d4.size = 538 := hF4.size
    have hc : ∀ i, (d5.rg i).waits = [] := fun i => by
      by_cases e2 : i = 2
      · subst e2; exact (hF5.done rfl).1
      · rw [(hF5.other i e2).1]
        by_cases e0 : i = 0
        · subst e0; exact (hF4.done rfl).1
        · rw [(hF4.other i e0).1, newD_rg]; rfl
    refine ⟨?_, ?_, ?_, ?_⟩
    · rw [crash_regs, List.length_map, hF5.regs, hF4.regs, newD_regs]
    · rw [crash_calm d5 m hc, (hF5.other 0 (by decide)).2 0 (by rw [hs4]; decide), (hF4.done rfl).2 0 (by decide)]
      exact lineOf_pad _ _ (by omega) ha1
    · rw [crash_calm d5 m hc, (hF5.other 1 (by decide)).2 0 (by rw [hs4]; decide), (hF4.other 1 (by decide)).2 0 (by decide), newD_read 3 538 1 0 (by decide) (by decide)]
      exact lineOf_zero
    · rw [crash_calm d5 m hc, (hF5.done rfl).2 0 (by rw [hs4]; decide)]
      exact lineOf_pad _ _ (by omega) hb1)
  clear hF4 hF5 hu4 hu5 hr4 ha4
  go_wp2_with fail
  refine (crash_any p d5 m w5 S5 hE5.dsk hm).mono ?_
  rintro e w6 ⟨rfl, h6, b6⟩
  have hD6 := Dt.old hE5.dsk.low h6 b6
  have hl16 := (hD6.same hg16 n16).trans hl16
  have hl17 := (hD6.same hg17 n17).trans hl17
  have hE6 := hE5.step hD6
  clear hD6 hE5 h6 b6 n16 n17 hg16 hg17
  generalize d5.crash m = d6 at *
  obtain ⟨c0, c1, c2, c3⟩ := HC.out
  have K6 : Keep w w6 := hE6.keeps k2 hSw
  have hDs := hE6.dsk
  clear HC hE6 k2 hSw hSl
  go_wp2_with fail
  refine (rread_any p d6 0 w6 S5 hDs (by omega)).mono ?_
  rintro e w7 ⟨rfl, k7⟩
  rw [c1]
  have hDs := hDs.keep k7
  have K7 := K6.trans' k7
  have hl16 := (k7.block gx16 (lt_at hl16)).trans hl16
  have hl17 := (k7.block gx17 (lt_at hl17)).trans hl17
  clear K6 k7 c1
  go_wp2_with fail
  have kw8a := Keep.alloc w7 (.cells #[.int .i64 sa, .int .u64 a1] 29)
  have hrw8 := heap_alloc_new w7 (.cells #[.int .i64 sa, .int .u64 a1] 29)
  have hDs := hDs.keep kw8a
  have Kw8a := K7.trans' kw8a
  have hl16 := (kw8a.block gx16 (lt_at hl16)).trans hl16
  have hl17 := (kw8a.block gx17 (lt_at hl17)).trans hl17
  generalize w7.alloc (.cells #[.int .i64 sa, .int .u64 a1] 29) = w7a at *
  generalize hgr1 : w7.heap.size = gr1 at *
  clear hgr1 kw8a
  refine (rread_any p d6 1 w7a S5 hDs (by omega)).mono ?_
  rintro e w8 ⟨rfl, kw8⟩
  have hDs := hDs.keep kw8
  have K8 := Kw8a.trans' kw8
  have hl16 := (kw8.block gx16 (lt_at hl16)).trans hl16
  have hl17 := (kw8.block gx17 (lt_at hl17)).trans hl17
  have hr1 := (kw8.block gr1 (lt_at hrw8)).trans hrw8
  rw [c2]
  clear c2
  go_wp2_with fail
  have kw9a := Keep.alloc w8 (.cells #[.int .i64 0, .int .u64 0] 29)
  have hrw9 := heap_alloc_new w8 (.cells #[.int .i64 0, .int .u64 0] 29)
  have hDs := hDs.keep kw9a
  have Kw9a := K8.trans' kw9a
  have hl16 := (kw9a.block gx16 (lt_at hl16)).trans hl16
  have hl17 := (kw9a.block gx17 (lt_at hl17)).trans hl17
  have hr1 := (kw9a.block gr1 (lt_at hr1)).trans hr1
  generalize w8.alloc (.cells #[.int .i64 0, .int .u64 0] 29) = w8a at *
  generalize hgr2 : w8.heap.size = gr2 at *
  clear hgr2 kw9a
  refine (rread_any p d6 2 w8a S5 hDs (by omega)).mono ?_
  rintro e w9 ⟨rfl, kw9⟩
  have hDs := hDs.keep kw9
  have K9 := Kw9a.trans' kw9
  have hl16 := (kw9.block gx16 (lt_at hl16)).trans hl16
  have hl17 := (kw9.block gx17 (lt_at hl17)).trans hl17
  have hr2 := (kw9.block gr2 (lt_at hrw9)).trans hrw9
  rw [c3]
  clear c3
  have hr1 := (kw9.block gr1 (lt_at hr1)).trans hr1
  go_wp2_with fail
  have kw10a := Keep.alloc w9 (.cells #[.int .i64 sb, .int .u64 b1] 29)
  have hrw10 := heap_alloc_new w9 (.cells #[.int .i64 sb, .int .u64 b1] 29)
  have hDs := hDs.keep kw10a
  have Kw10a := K9.trans' kw10a
  have hl16 := (kw10a.block gx16 (lt_at hl16)).trans hl16
  have hl17 := (kw10a.block gx17 (lt_at hl17)).trans hl17
  have hr1 := (kw10a.block gr1 (lt_at hr1)).trans hr1
  have hr2 := (kw10a.block gr2 (lt_at hr2)).trans hr2
  generalize w9.alloc (.cells #[.int .i64 sb, .int .u64 b1] 29) = w9a at *
  generalize hgr3 : w9.heap.size = gr3 at *
  clear hgr3 kw10a
  refine (rread_no p d6 3 w9a S5 hDs (by omega) (by decide)).mono ?_
  rintro e w10 ⟨rfl, kw10⟩
  have hDs := hDs.keep kw10
  have K10 := Kw10a.trans' kw10
  have hl16 := (kw10.block gx16 (lt_at hl16)).trans hl16
  have hl17 := (kw10.block gx17 (lt_at hl17)).trans hl17
  have hr3 := (kw10.block gr3 (lt_at hrw10)).trans hrw10
  have hr1 := (kw10.block gr1 (lt_at hr1)).trans hr1
  have hr2 := (kw10.block gr2 (lt_at hr2)).trans hr2
  go_upto_region 12 with (fail)
  have k11 := Keep.alloc w10 (.cells #[.int .i64 0, .int .u64 0] 29)
  have K11 := K10.trans' k11
  have hl16 := (k11.block gx16 (lt_at hl16)).trans hl16
  have hl17 := (k11.block gx17 (lt_at hl17)).trans hl17
  have hr1 := (k11.block gr1 (lt_at hr1)).trans hr1
  have hr2 := (k11.block gr2 (lt_at hr2)).trans hr2
  have hr3 := (k11.block gr3 (lt_at hr3)).trans hr3
  generalize w10.alloc (.cells #[.int .i64 0, .int .u64 0] 29) = w11 at *
  clear k11 hDs
  have hl16a : w11.cell? ⟨gx16, 0, none⟩ = some (.int .i64 sa) := cell_of_row w11 gx16 0 _ _ _ hl16
  have hl16b : w11.cell? ⟨gx16, 1, none⟩ = some (.int .u64 a1) := cell_of_row w11 gx16 1 _ _ _ hl16
  have hl17a : w11.cell? ⟨gx17, 0, none⟩ = some (.int .i64 sb) := cell_of_row w11 gx17 0 _ _ _ hl17
  have hl17b : w11.cell? ⟨gx17, 1, none⟩ = some (.int .u64 b1) := cell_of_row w11 gx17 1 _ _ _ hl17
  have hr1a : w11.cell? ⟨gr1, 0, none⟩ = some (.int .i64 sa) := cell_of_row w11 gr1 0 _ _ _ hr1
  have hr1b : w11.cell? ⟨gr1, 1, none⟩ = some (.int .u64 a1) := cell_of_row w11 gr1 1 _ _ _ hr1
  have hr2a : w11.cell? ⟨gr2, 0, none⟩ = some (.int .i64 0) := cell_of_row w11 gr2 0 _ _ _ hr2
  have hr2b : w11.cell? ⟨gr2, 1, none⟩ = some (.int .u64 0) := cell_of_row w11 gr2 1 _ _ _ hr2
  have hr3a : w11.cell? ⟨gr3, 0, none⟩ = some (.int .i64 sb) := cell_of_row w11 gr3 0 _ _ _ hr3
  have hr3b : w11.cell? ⟨gr3, 1, none⟩ = some (.int .u64 b1) := cell_of_row w11 gr3 1 _ _ _ hr3
  clear hl16 hl17 hr1 hr2 hr3
  go_wp2
  go_ret
  exact ⟨rfl, K11⟩
end Go.Proofs.Ythknhonpcmneaaa
