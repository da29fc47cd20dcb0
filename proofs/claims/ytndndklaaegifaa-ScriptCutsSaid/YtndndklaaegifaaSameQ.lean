/- The walk of the law's same. -/
import Derived.Test.YtndndklaaegifaaFillQ
namespace Go.Proofs.Ytndndklaaegifaa
open Go Go.RowKit
attribute [local irreducible] Go.wpQuiet

theorem rq_iff (x y : Rq) : x = y ↔ x.kind = y.kind ∧ x.tenant = y.tenant ∧ x.handle = y.handle ∧ (x.table = y.table ∧ x.key = y.key ∧ x.value = y.value) ∧ x.to_ = y.to_ ∧ x.n = y.n ∧ x.mask = y.mask ∧ x.data = y.data := by
  cases x; cases y
  simp only [Rq.mk.injEq]
  constructor
  · rintro ⟨h1, h2, h3, h4, h5, h6, h7, h8, h9, h10⟩
    exact ⟨h1, h2, h3, ⟨h4, h5, h6⟩, h7, h8, h9, h10⟩
  · rintro ⟨h1, h2, h3, ⟨h4, h5, h6⟩, h7, h8, h9, h10⟩
    exact ⟨h1, h2, h3, h4, h5, h6, h7, h8, h9, h10⟩

set_option maxRecDepth 100000 in
set_option maxHeartbeats 8000000 in
theorem same_any (av bv : Value) (ps qs : List Rq) (w : World) (hA : SlQ w av ps) (hB : SlQ w bv qs) : Calls Try.prog 12 #[av, bv] w fun e w' => e = .returned (.bool (decide (ps = qs))) ∧ Keep w w' := by
  obtain ⟨aa, ac, rfl, hm, hc⟩ := hA.form
  obtain ⟨ba, bc, rfl, hm2, hc2⟩ := hB.form
  unfold maxLen at hm hm2
  have hR : decide (ps = qs) = true ↔ ps = qs := decide_eq_true_iff
  generalize decide (ps = qs) = R at *
  have HR := Lib.hid hR
  clear hR
  go_enter Try.func12, Try.ntmps12
  by_cases hl : ps.length = qs.length
  rotate_left
  · have t1 : ((ps.length : Int) != (qs.length : Int)) = true := by rw [bne_iff_ne]; omega
    obtain rfl : R = false := by rw [Bool.eq_false_iff]; intro h; exact hl (congrArg List.length (HR.out.1 h))
    clear hl HR
    go_wp2
    go_ret
    exact ⟨rfl, Keep.refl w⟩
  have t1 : ((ps.length : Int) != (qs.length : Int)) = false := by rw [bne_eq_false_iff_eq]; omega
  have HL := Lib.hid hl
  clear hl
  go_wp2
  go_loopw [15] (fun i wr => ∃ j : Nat, j ≤ ps.length ∧ i = .int .i64 j ∧ Hid (∀ m, m < j → ps[m]? = qs[m]?) ∧ Keep w wr) (fun i _ => ps.length - (intOf i).toNat)
  case atStart => exact ⟨0, Nat.zero_le _, rfl, Lib.hid (fun m h => absurd h (Nat.not_lt_zero _)), Keep.refl w⟩
  case round =>
    obtain ⟨j, hj, rfl, hall, hk⟩ := hrel
    by_cases hjn : j < ps.length
    rotate_left
    · have hjd : ¬ ((j : Int) < (ps.length : Int)) := by omega
      obtain rfl : R = true := HR.out.2 (List.ext_getElem? fun m => by
        by_cases hm : m < j
        · exact hall.out m hm
        · have := HL.out
          rw [List.getElem?_eq_none (by omega), List.getElem?_eq_none (by omega)])
      clear HR hall hjn
      go_wp2
      go_ret
      exact ⟨rfl, hk⟩
    have hA1 := hA.keep hk
    have hB1 := hB.keep hk
    have hjb : j < qs.length := by have := HL.out; omega
    have hjl : (j : Int) < (ps.length : Int) := by omega
    have hjl2 : (j : Int) < (qs.length : Int) := by omega
    obtain ⟨b, off, rfl, dvx, hdx, hcell⟩ := hA1.elem j (by omega)
    have Hx : Hid (ps[j]? = some ps[j]) := Lib.hid (List.getElem?_eq_getElem (by omega))
    generalize ps[j] = x at *
    have x0 := hcell 0 _ rfl
    have x1 := hcell 1 _ rfl
    have x2 := hcell 2 _ rfl
    have x3 := hcell 3 _ rfl
    have x4 := hcell 4 _ rfl
    have x5 := hcell 5 _ rfl
    have x6 := hcell 6 _ rfl
    have x7 := hcell 7 _ rfl
    have x8 := hcell 8 _ rfl
    have x9 := hcell 9 _ rfl
    rw [Nat.add_zero] at x0
    obtain ⟨xa, xc, rfl, -, -, -⟩ := hdx.form
    clear hcell
    obtain ⟨b2, off2, rfl, dvy, hdy, hcell⟩ := hB1.elem j (by omega)
    have Hy : Hid (qs[j]? = some qs[j]) := Lib.hid (List.getElem?_eq_getElem (by omega))
    generalize qs[j] = y at *
    have y0 := hcell 0 _ rfl
    have y1 := hcell 1 _ rfl
    have y2 := hcell 2 _ rfl
    have y3 := hcell 3 _ rfl
    have y4 := hcell 4 _ rfl
    have y5 := hcell 5 _ rfl
    have y6 := hcell 6 _ rfl
    have y7 := hcell 7 _ rfl
    have y8 := hcell 8 _ rfl
    have y9 := hcell 9 _ rfl
    rw [Nat.add_zero] at y0
    obtain ⟨ya, yc, rfl, -, -, -⟩ := hdy.form
    clear hcell
    have hlx := World.block_lt_of_cell? wr _ x0
    have hly := World.block_lt_of_cell? wr _ y0
    have hne : Hid (x ≠ y → R = false) := Lib.hid fun hxy => by
      rw [Bool.eq_false_iff]
      intro h
      have h1 := Hx.out
      rw [HR.out.1 h, Hy.out] at h1
      exact hxy (Option.some.inj h1).symm
    clear hA1 hB1
    go_upto_region 6 with (fail)
    refine K.wp_region_ord' [none, none, none, some (fun _ => (oV (.agg #[.int .i64 x.kind, .int .i64 x.tenant, .int .i64 x.handle, .int .i64 x.table, .string ⟨x.key.toArray⟩, .string ⟨x.value.toArray⟩, .string ⟨x.to_.toArray⟩, .int .i64 x.n, .int .u64 (x.mask : Int), .slice xa x.data.length xc]))), none, none, none, some (fun _ => (oV (.agg #[.int .i64 y.kind, .int .i64 y.tenant, .int .i64 y.handle, .int .i64 y.table, .string ⟨y.key.toArray⟩, .string ⟨y.value.toArray⟩, .string ⟨y.to_.toArray⟩, .int .i64 y.n, .int .u64 (y.mask : Int), .slice ya y.data.length yc]))), some (fun _ => (oAt wr.heap.size (.cells #[.int .i64 0, .int .i64 0, .int .i64 0, .int .i64 0, .string ⟨[].toArray⟩, .string ⟨[].toArray⟩, .string ⟨[].toArray⟩, .int .i64 0, .int .u64 0, .slice none 0 0] 34))), some (fun _ => (oAt wr.heap.size (.cells #[.int .i64 0, .int .i64 0, .int .i64 0, .int .i64 0, .string ⟨[].toArray⟩, .string ⟨[].toArray⟩, .string ⟨[].toArray⟩, .int .i64 0, .int .u64 0, .slice none 0 0] 34))), some (oFill wr.heap.size 34), some (oFill wr.heap.size 34)]
      #[0, 0, 0, 0, 0, 0, 0, 0, 0, 0, 256, 512] (wr.heap.size) (fun w' => Keep wr w') (by kernel_rfl) (by kernel_rfl) (by kernel_rfl) ((Keep.refl wr).drew) ?_
    refine K.ordT_pure rfl ?_
    go_big_quiet_step (fail)
    refine K.ordT_on ?_
    refine K.ordT_pure rfl ?_
    go_big_quiet_step (fail)
    refine K.ordT_on ?_
    refine K.ordT_pure rfl ?_
    go_big_quiet_step (fail)
    refine K.ordT_on ?_
    refine K.ordT_same (by kernel_rfl) (fun w2 hC => ?_) ?_
    · have z0 := (hC.cell (p := ⟨b, off + j * 10, none⟩) hlx).trans x0
      have z1 := (hC.cell (p := ⟨b, off + j * 10 + 1, none⟩) hlx).trans x1
      have z2 := (hC.cell (p := ⟨b, off + j * 10 + 2, none⟩) hlx).trans x2
      have z3 := (hC.cell (p := ⟨b, off + j * 10 + 3, none⟩) hlx).trans x3
      have z4 := (hC.cell (p := ⟨b, off + j * 10 + 4, none⟩) hlx).trans x4
      have z5 := (hC.cell (p := ⟨b, off + j * 10 + 5, none⟩) hlx).trans x5
      have z6 := (hC.cell (p := ⟨b, off + j * 10 + 6, none⟩) hlx).trans x6
      have z7 := (hC.cell (p := ⟨b, off + j * 10 + 7, none⟩) hlx).trans x7
      have z8 := (hC.cell (p := ⟨b, off + j * 10 + 8, none⟩) hlx).trans x8
      have z9 := (hC.cell (p := ⟨b, off + j * 10 + 9, none⟩) hlx).trans x9
      go_simp
    simp only [Act.put, List.setIfInBounds_toArray, List.set_cons_zero, List.set_cons_succ]
    refine K.ordT_pure rfl ?_
    go_big_quiet_step (fail)
    refine K.ordT_on ?_
    refine K.ordT_pure rfl ?_
    go_big_quiet_step (fail)
    refine K.ordT_on ?_
    refine K.ordT_pure rfl ?_
    go_big_quiet_step (fail)
    refine K.ordT_on ?_
    refine K.ordT_same (by kernel_rfl) (fun w2 hC => ?_) ?_
    · have z0 := (hC.cell (p := ⟨b2, off2 + j * 10, none⟩) hly).trans y0
      have z1 := (hC.cell (p := ⟨b2, off2 + j * 10 + 1, none⟩) hly).trans y1
      have z2 := (hC.cell (p := ⟨b2, off2 + j * 10 + 2, none⟩) hly).trans y2
      have z3 := (hC.cell (p := ⟨b2, off2 + j * 10 + 3, none⟩) hly).trans y3
      have z4 := (hC.cell (p := ⟨b2, off2 + j * 10 + 4, none⟩) hly).trans y4
      have z5 := (hC.cell (p := ⟨b2, off2 + j * 10 + 5, none⟩) hly).trans y5
      have z6 := (hC.cell (p := ⟨b2, off2 + j * 10 + 6, none⟩) hly).trans y6
      have z7 := (hC.cell (p := ⟨b2, off2 + j * 10 + 7, none⟩) hly).trans y7
      have z8 := (hC.cell (p := ⟨b2, off2 + j * 10 + 8, none⟩) hly).trans y8
      have z9 := (hC.cell (p := ⟨b2, off2 + j * 10 + 9, none⟩) hly).trans y9
      go_simp
    simp only [Act.put, List.setIfInBounds_toArray, List.set_cons_zero, List.set_cons_succ]
    refine K.ordT_laid (fun w2 => .pointer (some ⟨w2.heap.size, 0, none⟩)) (.cells #[.int .i64 0, .int .i64 0, .int .i64 0, .int .i64 0, .string ⟨[].toArray⟩, .string ⟨[].toArray⟩, .string ⟨[].toArray⟩, .int .i64 0, .int .u64 0, .slice none 0 0] 34) (by kernel_rfl) keepK (fun w2 hC => by go_simp) (fun w2 own hC hF S hS => ?_) ?_
    · exact ⟨_, rfl, hC.size, hS _ (.inr (Nat.le_refl _)), heap_alloc_new _ _⟩
    rintro x8 wx8 ownx8 - hx8
    obtain ⟨gx8, rfl, nx8, -, -⟩ := hx8
    simp only [Act.put, List.setIfInBounds_toArray, List.set_cons_zero, List.set_cons_succ]
    refine K.ordT_laid (fun w2 => .pointer (some ⟨w2.heap.size, 0, none⟩)) (.cells #[.int .i64 0, .int .i64 0, .int .i64 0, .int .i64 0, .string ⟨[].toArray⟩, .string ⟨[].toArray⟩, .string ⟨[].toArray⟩, .int .i64 0, .int .u64 0, .slice none 0 0] 34) (by kernel_rfl) keepK (fun w2 hC => by go_simp) (fun w2 own hC hF S hS => ?_) ?_
    · exact ⟨_, rfl, hC.size, hS _ (.inr (Nat.le_refl _)), heap_alloc_new _ _⟩
    rintro x9 wx9 ownx9 - hx9
    obtain ⟨gx9, rfl, nx9, -, -⟩ := hx9
    simp only [Act.put, List.setIfInBounds_toArray, List.set_cons_zero, List.set_cons_succ]
    refine K.ordT_fill [.pointer (some ⟨gx8, 0, none⟩), .agg #[.int .i64 x.kind, .int .i64 x.tenant, .int .i64 x.handle, .int .i64 x.table, .string ⟨x.key.toArray⟩, .string ⟨x.value.toArray⟩, .string ⟨x.to_.toArray⟩, .int .i64 x.n, .int .u64 (x.mask : Int), .slice xa x.data.length xc]] rfl (by kernel_rfl) (told_fillQ gx8 34 (x0 := .int .i64 0) (x1 := .int .i64 0) (x2 := .int .i64 0) (x3 := .int .i64 0) (x4 := .string ⟨[].toArray⟩) (x5 := .string ⟨[].toArray⟩) (x6 := .string ⟨[].toArray⟩) (x7 := .int .i64 0) (x8 := .int .u64 0) (x9 := .slice none 0 0) (.int .i64 x.kind) (.int .i64 x.tenant) (.int .i64 x.handle) (.int .i64 x.table) (.string ⟨x.key.toArray⟩) (.string ⟨x.value.toArray⟩) (.string ⟨x.to_.toArray⟩) (.int .i64 x.n) (.int .u64 (x.mask : Int)) (.slice xa x.data.length xc) (fun w2 hg => ?_) keepG fun w2 own hC hF => ?_) fun _ => ?_
    · obtain ⟨n0, n1, n2, n3, n4, n5, n6, n7, n8, n9⟩ := cells10 hg
      obtain ⟨z0, z1, z2, z3, z4, z5, z6, z7, z8, z9⟩ := free10 hg
      unfold laidOver10
      go_simp
    · obtain ⟨g', e', h1, h2, h3⟩ := (((hF 8 rfl).2 rfl).1 rfl)
      simp only [Value.pointer.injEq, Option.some.injEq, Addr.mk.injEq, and_true] at e'
      subst e'
      exact at_con h1 h2 h3 rfl
    simp only [Act.put, List.setIfInBounds_toArray, List.set_cons_zero, List.set_cons_succ]
    refine K.ordT_fill [.pointer (some ⟨gx9, 0, none⟩), .agg #[.int .i64 y.kind, .int .i64 y.tenant, .int .i64 y.handle, .int .i64 y.table, .string ⟨y.key.toArray⟩, .string ⟨y.value.toArray⟩, .string ⟨y.to_.toArray⟩, .int .i64 y.n, .int .u64 (y.mask : Int), .slice ya y.data.length yc]] rfl (by kernel_rfl) (told_fillQ gx9 34 (x0 := .int .i64 0) (x1 := .int .i64 0) (x2 := .int .i64 0) (x3 := .int .i64 0) (x4 := .string ⟨[].toArray⟩) (x5 := .string ⟨[].toArray⟩) (x6 := .string ⟨[].toArray⟩) (x7 := .int .i64 0) (x8 := .int .u64 0) (x9 := .slice none 0 0) (.int .i64 y.kind) (.int .i64 y.tenant) (.int .i64 y.handle) (.int .i64 y.table) (.string ⟨y.key.toArray⟩) (.string ⟨y.value.toArray⟩) (.string ⟨y.to_.toArray⟩) (.int .i64 y.n) (.int .u64 (y.mask : Int)) (.slice ya y.data.length yc) (fun w2 hg => ?_) keepG fun w2 own hC hF => ?_) fun _ => ?_
    · obtain ⟨n0, n1, n2, n3, n4, n5, n6, n7, n8, n9⟩ := cells10 hg
      obtain ⟨z0, z1, z2, z3, z4, z5, z6, z7, z8, z9⟩ := free10 hg
      unfold laidOver10
      go_simp
    · obtain ⟨g', e', h1, h2, h3⟩ := (((hF 9 rfl).2 rfl).1 rfl)
      simp only [Value.pointer.injEq, Option.some.injEq, Addr.mk.injEq, and_true] at e'
      subst e'
      exact at_con h1 h2 h3 rfl
    simp only [Act.put, List.setIfInBounds_toArray, List.set_cons_zero, List.set_cons_succ]
    refine K.ordT_done fun w3 own hC hF => ?_
    have hX : RqAt w3 gx8 x (.slice xa x.data.length xc) := ((((hF 10).2 rfl).1 rfl) gx8 _ rfl).2.2
    have hY : RqAt w3 gx9 y (.slice ya y.data.length yc) := (((hF 11).1 rfl) gx9 _ rfl).2.2
    clear hF
    have hk3 := hk.trans' hC
    have hdx := hdx.keep hC
    have hdy := hdy.keep hC
    clear hk hC x0 x1 x2 x3 x4 x5 x6 x7 x8 x9 y0 y1 y2 y3 y4 y5 y6 y7 y8 y9
    obtain ⟨x0, x1, x2, x3, x4, x5, x6, x7, x8, x9⟩ := hX.cells
    obtain ⟨y0, y1, y2, y3, y4, y5, y6, y7, y8, y9⟩ := hY.cells
    have hto1 := run_toString (P := Try.prog) Try.underlying26 Try.underlying5 Try.underlying9 hdx
    have hto2 := run_toString (P := Try.prog) Try.underlying26 Try.underlying5 Try.underlying9 hdy
    unfold strV at hto1 hto2
    have hxy := Lib.hid (rq_iff x y)
    clear hX hY hdx hdy
    by_cases h : x.kind = y.kind
    rotate_left
    · have t2 : (x.kind != y.kind) = true := by rw [bne_iff_ne]; exact h
      have hn := Lib.hid h
      clear h
      obtain rfl : R = false := hne.out fun e => by have h := hxy.out.1 e; exact hn.out (h.1)
      clear HR hn hne
      go_wp2
      go_ret
      exact ⟨rfl, hk3⟩
    have e0 := Lib.hid h
    have t2 : (x.kind != y.kind) = false := by rw [bne_eq_false_iff_eq]; exact h
    clear h
    by_cases h : x.tenant = y.tenant
    rotate_left
    · have t3 : (x.tenant != y.tenant) = true := by rw [bne_iff_ne]; exact h
      have hn := Lib.hid h
      clear h
      obtain rfl : R = false := hne.out fun e => by have h := hxy.out.1 e; exact hn.out (h.2.1)
      clear HR hn hne
      go_wp2
      go_ret
      exact ⟨rfl, hk3⟩
    have e1 := Lib.hid h
    have t3 : (x.tenant != y.tenant) = false := by rw [bne_eq_false_iff_eq]; exact h
    clear h
    by_cases h : x.handle = y.handle
    rotate_left
    · have t4 : (x.handle != y.handle) = true := by rw [bne_iff_ne]; exact h
      have hn := Lib.hid h
      clear h
      obtain rfl : R = false := hne.out fun e => by have h := hxy.out.1 e; exact hn.out (h.2.2.1)
      clear HR hn hne
      go_wp2
      go_ret
      exact ⟨rfl, hk3⟩
    have e2 := Lib.hid h
    have t4 : (x.handle != y.handle) = false := by rw [bne_eq_false_iff_eq]; exact h
    clear h
    by_cases h : x.table = y.table
    rotate_left
    · have hn := Lib.hid h
      obtain rfl : R = false := hne.out fun e => by have h := hxy.out.1 e; exact hn.out (h.2.2.2.1.1)
      clear HR hn hne
      go_wp2
      go_ret
      exact ⟨rfl, hk3⟩
    have e3 := Lib.hid h
    have h3 := h
    clear h
    by_cases h : x.key = y.key
    rotate_left
    · have hn := Lib.hid h
      obtain rfl : R = false := hne.out fun e => by have h := hxy.out.1 e; exact hn.out (h.2.2.2.1.2.1)
      clear HR hn hne
      go_wp2
      go_ret
      exact ⟨rfl, hk3⟩
    have e4 := Lib.hid h
    have h4 := h
    clear h
    by_cases h : x.value = y.value
    rotate_left
    · have hn := Lib.hid h
      obtain rfl : R = false := hne.out fun e => by have h := hxy.out.1 e; exact hn.out (h.2.2.2.1.2.2)
      clear HR hn hne
      go_wp2
      go_ret
      exact ⟨rfl, hk3⟩
    have e5 := Lib.hid h
    have h5 := h
    clear h
    by_cases h : x.to_ = y.to_
    rotate_left
    · have hn := Lib.hid h
      obtain rfl : R = false := hne.out fun e => by have h := hxy.out.1 e; exact hn.out (h.2.2.2.2.1)
      clear HR hn hne
      go_wp2
      go_ret
      exact ⟨rfl, hk3⟩
    have e6 := Lib.hid h
    have h6 := h
    clear h
    by_cases h : x.n = y.n
    rotate_left
    · have hn := Lib.hid h
      obtain rfl : R = false := hne.out fun e => by have h := hxy.out.1 e; exact hn.out (h.2.2.2.2.2.1)
      clear HR hn hne
      go_wp2
      go_ret
      exact ⟨rfl, hk3⟩
    have e7 := Lib.hid h
    have h7 := h
    clear h
    by_cases h : x.mask = y.mask
    rotate_left
    · have t10 : ¬ ((x.mask : Int) = (y.mask : Int)) := by omega
      have hn := Lib.hid h
      clear h
      obtain rfl : R = false := hne.out fun e => by have h := hxy.out.1 e; exact hn.out (h.2.2.2.2.2.2.1)
      clear HR hn hne
      go_wp2
      go_ret
      exact ⟨rfl, hk3⟩
    have e8 := Lib.hid h
    have t10 : ((x.mask : Int) = (y.mask : Int)) := by omega
    clear h
    by_cases h : x.data = y.data
    rotate_left
    · have t11 : (x.data == y.data) = false := by rw [beq_eq_false_iff_ne]; exact h
      have hn := Lib.hid h
      clear h
      obtain rfl : R = false := hne.out fun e => by have h := hxy.out.1 e; exact hn.out (h.2.2.2.2.2.2.2)
      clear HR hn hne
      go_wp2
      go_ret
      exact ⟨rfl, hk3⟩
    have e9 := Lib.hid h
    have t11 : (x.data == y.data) = true := by rw [beq_iff_eq]; exact h
    clear h
    have hxye : x = y := hxy.out.2 ⟨e0.out, e1.out, e2.out, ⟨e3.out, e4.out, e5.out⟩, e6.out, e7.out, e8.out, e9.out⟩
    have HXY := Lib.hid hxye
    clear hxye
    go_wp2
    go_roundw
    case rel =>
      refine ⟨j + 1, by omega, by go_num, Lib.hid fun m hm => ?_, hk3⟩
      by_cases hmj : m = j
      · rw [hmj, Hx.out, Hy.out, HXY.out]
      · exact hall.out m (by omega)
    case measure => simp [intOf]; omega
end Go.Proofs.Ytndndklaaegifaa
