/- The walk of roll.Read. -/
import Derived.Test.YthknhonpcmneaaaRollWrite
namespace Go.Proofs.Ythknhonpcmneaaa
open Go Go.RowKit
attribute [local irreducible] Go.wpQuiet

theorem lineOf_lt (b : List UInt8) : (lineOf b).1 ≤ 2 ∧ (lineOf b).2 < 18446744073709551616 := by
  refine ⟨?_, num_lt _⟩
  unfold lineOf
  simp only
  split
  · assumption
  · exact Nat.zero_le _
theorem results_line {fn : Func} {a u : Tmp} (h : fn.results = #[.cell a 29, .tmp u]) {tmps : Array Value} {g : Nat} {x y : Int} {w : World} (hp : w.heap[g]? = some (.cells #[.int .i64 x, .int .u64 y] 29)) (ha : tmps.getD a undef = .pointer (some ⟨g, 0, none⟩)) :
    (results fn tmps).run Try.prog w = .ok (.tuple #[.agg #[.int .i64 x, .int .u64 y], tmps.getD u undef]) w := by
  have ha' : tmps[a]?.getD undef = .pointer (some ⟨g, 0, none⟩) := by simpa using ha
  have x0 : w.cell? ⟨g, 0, none⟩ = some (.int .i64 x) := cell_of_row w g 0 _ _ _ hp
  have x1 : w.cell? ⟨g, 1, none⟩ = some (.int .u64 y) := cell_of_row w g 1 _ _ _ hp
  simp only [results, h]
  simp [ha', asAddr]
  go_simp
theorem line_set {w : World} {g : Nat} {a b : Value} {t : TypeId} (h : w.heap[g]? = some (.cells #[a, b] t)) (x y : Value) : ((w.setCell ⟨g, 0, none⟩ x).setCell ⟨g, 1, none⟩ y).heap[g]? = some (.cells #[x, y] t) := by
  have h1 := heap_set_same (cs := [a, b]) (i := 0) h x
  have h2 := heap_set_same (i := 1) h1 y
  exact h2
set_option maxRecDepth 100000 in
set_option maxHeartbeats 8000000 in
theorem rread_no (p : Nat) (d : Dk) (r : Nat) (w : World) (S : Nat → Prop) (h : Dsk w S p d) (hr : d.regs.length ≤ r) (hr2 : r < 1000) :
    Calls Try.prog 10 #[.pointer (some ⟨p, 0, none⟩), .int .i64 r] w fun e w' => e = .returned (.tuple #[.agg #[.int .i64 0, .int .u64 0], .int .i64 1]) ∧ Keep w w' := by
  have ht : d.there r 0 = false := by
    rw [Bool.eq_false_iff]
    intro e
    have := (Dk.there_iff d r 0).1 e
    omega
  go_enter Try.func10, Try.ntmps10
  go_wp2_with fail
  have k0 := Keep.alloc w (.cells #[.int .i64 0, .int .u64 0] 29)
  have hz := heap_alloc_new w (.cells #[.int .i64 0, .int .u64 0] 29)
  generalize w.alloc (.cells #[.int .i64 0, .int .u64 0] 29) = w0 at *
  generalize hgl : w.heap.size = gl at hz ⊢
  have hglw : w.heap.size ≤ gl := Nat.le_of_eq hgl
  clear hgl
  refine (read_any p d r 0 w0 S (h.keep k0)).mono ?_
  rintro e w1 ⟨v1, rfl, hO, k1⟩
  rw [ht, if_neg (by decide)]
  have kk := k0.trans' k1
  have hz1 := (k1.block gl (Array.getElem?_eq_some_iff.1 hz).1).trans hz
  have f0 := free_of hz1 0
  have f1 := free_of hz1 1
  have x0 : w1.cell? ⟨gl, 0, none⟩ = some (.int .i64 0) := cell_of_row w1 gl 0 _ _ _ hz1
  have x1 : w1.cell? ⟨gl, 1, none⟩ = some (.int .u64 0) := cell_of_row w1 gl 1 _ _ _ hz1
  clear k0 k1 hz
  obtain ⟨a1, n1, c1, rfl⟩ := hO.slB.shape
  clear hO h
  go_wp2
  exact bodyPost_ret (results_line rfl (line_set hz1 _ _) rfl) rfl ⟨rfl, Keep.setCell (Keep.setCell kk hglw _) hglw _⟩
set_option maxRecDepth 100000 in
set_option maxHeartbeats 8000000 in
theorem rread_any (p : Nat) (d : Dk) (r : Nat) (w : World) (S : Nat → Prop) (h : Dsk w S p d) (hr : r < d.regs.length) :
    Calls Try.prog 10 #[.pointer (some ⟨p, 0, none⟩), .int .i64 r] w fun e w' => e = .returned (.tuple #[.agg #[.int .i64 (lineOf (d.read r 0)).1, .int .u64 (lineOf (d.read r 0)).2], .int .i64 0]) ∧ Keep w w' := by
  have hr64 := h.ok.r2
  have ht : d.there r 0 = true := Dk.there_at (s := 0) h.ok hr h.ok.s1
  have hri : d.readI r 0 = d.read r 0 := Dk.readI_at (s := 0) h.ok hr h.ok.s1
  have hlen := Dk.read_length d h.ok r 0 hr h.ok.s1
  go_enter Try.func10, Try.ntmps10
  go_wp2_with fail
  have k0 := Keep.alloc w (.cells #[.int .i64 0, .int .u64 0] 29)
  have hz := heap_alloc_new w (.cells #[.int .i64 0, .int .u64 0] 29)
  generalize w.alloc (.cells #[.int .i64 0, .int .u64 0] 29) = w0 at *
  generalize hgl : w.heap.size = gl at hz ⊢
  have hglw : w.heap.size ≤ gl := Nat.le_of_eq hgl
  clear hgl
  refine (read_any p d r 0 w0 S (h.keep k0)).mono ?_
  rintro e w1 ⟨v1, rfl, hO, k1⟩
  rw [ht, if_pos rfl]
  rw [hri] at hO
  have kk := k0.trans' k1
  have hz1 := (k1.block gl (Array.getElem?_eq_some_iff.1 hz).1).trans hz
  have hb1 := hO.slB
  clear k0 k1 hz ht hri h hO
  obtain ⟨bs, hbs⟩ : ∃ x, d.read r 0 = x := ⟨_, rfl⟩
  rw [hbs] at hb1 hlen
  have HBS := Lib.hid hbs
  clear hbs
  have HL := Lib.hid hlen
  clear hlen
  obtain ⟨a1, n1, c1, rfl⟩ := hb1.shape
  go_wp2_with fail
  refine (newRd_any _ bs w1 (S := fun _ => True) hb1 (fun _ _ _ _ => trivial)).mono ?_
  rintro e w2 ⟨rfl, hR2, k2, -⟩
  have kk2 := kk.trans' k2
  have hz2 := (k2.block gl (Array.getElem?_eq_some_iff.1 hz1).1).trans hz1
  have nrl : gl ≠ w1.heap.size := fun e => by have := (Array.getElem?_eq_some_iff.1 hz1).1; omega
  have hrw : w.heap.size ≤ w1.heap.size := kk.size
  generalize w1.heap.size = rb at *
  clear hb1 kk k2 hz1
  go_wp2_with fail
  refine (num_any rb ⟨bs, false⟩ 1 w2 hR2 (by have := HL.out; show bs.length ≤ _; omega)).mono ?_
  rintro e w3 ⟨rfl, hB3, hR3⟩
  have hx := num_one_lt ⟨bs, false⟩
  have hsl := (Pk.take_len ⟨bs, false⟩ (if (1 : Int) < 1 ∨ 8 < (1 : Int) then -1 else 1)).2
  have hsl2 : (Pk.numN ⟨bs, false⟩ 1).2.l.length ≤ bs.length := hsl
  have HLO : Hid (lineOf bs = (if (Pk.numN ⟨bs, false⟩ 1).1 ≤ 2 then (Pk.numN ⟨bs, false⟩ 1).1 else 0, (Pk.numN (Pk.numN ⟨bs, false⟩ 1).2 4).1)) := Lib.hid rfl
  clear hsl
  generalize Pk.numN ⟨bs, false⟩ 1 = q at *
  obtain ⟨x, s1⟩ := q
  simp only at hx hsl2 hR3 HLO ⊢
  have hz3 := (hB3.block gl (Array.getElem?_eq_some_iff.1 hz2).1 (fun e => nrl (by cases e; rfl))).trans hz2
  have kk3 : Keep w w3 := kk2.trans (But.below hB3 hrw kk2.size)
  clear hR2 hB3 hz2 kk2
  have HLS := Lib.hid hsl2
  clear hsl2
  go_wp2_with fail
  refine (num_any rb s1 4 w3 hR3 (by have := HL.out; have := HLS.out; omega)).mono ?_
  rintro e w4 ⟨rfl, hB4, hR4⟩
  have hy : (Pk.numN s1 4).1 < 18446744073709551616 := num_lt _
  generalize (Pk.numN s1 4).1 = y at *
  have hz4 := (hB4.block gl (Array.getElem?_eq_some_iff.1 hz3).1 (fun e => nrl (by cases e; rfl))).trans hz3
  have kk4 : Keep w w4 := kk3.trans (But.below hB4 hrw kk3.size)
  clear hR3 hR4 hB4 hz3 kk3 HL HLS
  have f0 := free_of hz4 0
  have f1 := free_of hz4 1
  have x0 : w4.cell? ⟨gl, 0, none⟩ = some (.int .i64 0) := cell_of_row w4 gl 0 _ _ _ hz4
  have x1 : w4.cell? ⟨gl, 1, none⟩ = some (.int .u64 0) := cell_of_row w4 gl 1 _ _ _ hz4
  have hxi : (x : Int) < 256 := by omega
  by_cases hx2 : x ≤ 2
  rotate_left
  · have hx3 : (2 : Int) < (x : Int) := by omega
    have hx4 : ¬ (x : Int) = 0 := by omega
    have HLP : Hid (lineOf bs = (0, y)) := Lib.hid (by rw [HLO.out, if_neg hx2])
    go_upto_if 35 with (fail)
    have k5 := Keep.alloc w4 (.cells #[.int .i64 x, .int .u64 y] 29)
    have hl5 := heap_alloc_new w4 (.cells #[.int .i64 x, .int .u64 y] 29)
    have hz5 := (k5.block gl (Array.getElem?_eq_some_iff.1 hz4).1).trans hz4
    have kk5 := kk4.trans' k5
    have ngl : gl ≠ w4.heap.size := fun e => by have := (Array.getElem?_eq_some_iff.1 hz4).1; omega
    have hgw : w.heap.size ≤ w4.heap.size := kk4.size
    generalize w4.alloc (.cells #[.int .i64 x, .int .u64 y] 29) = w5 at *
    generalize w4.heap.size = gx at *
    clear k5 hz4 kk4 f0 f1 x0 x1
    have y0 : w5.cell? ⟨gx, 0, none⟩ = some (.int .i64 x) := cell_of_row w5 gx 0 _ _ _ hl5
    have h0 := free_of hl5 0
    go_upto_region 8 with (fail)
    have hl6 := heap_set_same (cs := [.int .i64 x, .int .u64 y]) (i := 0) hl5 (.int .i64 0)
    have hz6 := (Below.heap_setCell w5 ⟨gx, 0, none⟩ (.int .i64 0) gl (by exact ngl)).trans hz5
    have kk6 : Keep w (w5.setCell ⟨gx, 0, none⟩ (.int .i64 0)) := Keep.setCell kk5 hgw _
    generalize w5.setCell ⟨gx, 0, none⟩ (.int .i64 0) = w6 at *
    clear hl5 hz5 kk5 y0 h0
    have y0 : w6.cell? ⟨gx, 0, none⟩ = some (.int .i64 0) := cell_of_row w6 gx 0 _ _ _ hl6
    have y1 : w6.cell? ⟨gx, 1, none⟩ = some (.int .u64 y) := cell_of_row w6 gx 1 _ _ _ hl6
    have f0 := free_of hz6 0
    have f1 := free_of hz6 1
    have x0 : w6.cell? ⟨gl, 0, none⟩ = some (.int .i64 0) := cell_of_row w6 gl 0 _ _ _ hz6
    have x1 : w6.cell? ⟨gl, 1, none⟩ = some (.int .u64 0) := cell_of_row w6 gl 1 _ _ _ hz6
    clear HLO
    go_wp2
    exact bodyPost_ret (results_line rfl (line_set hz6 _ _) rfl) rfl ⟨by rw [HBS.out, HLP.out]; rfl, Keep.setCell (Keep.setCell kk6 hglw _) hglw _⟩
  have HLP : Hid (lineOf bs = (x, y)) := Lib.hid (by rw [HLO.out, if_pos hx2])
  by_cases hx0 : x = 0
  · subst hx0
    by_cases hy0 : y = 0
    · subst hy0
      go_upto_if 35 with (fail)
      have k5 := Keep.alloc w4 (.cells #[.int .i64 0, .int .u64 0] 29)
      have hl5 := heap_alloc_new w4 (.cells #[.int .i64 0, .int .u64 0] 29)
      have hz5 := (k5.block gl (Array.getElem?_eq_some_iff.1 hz4).1).trans hz4
      have kk5 := kk4.trans' k5
      have ngl : gl ≠ w4.heap.size := fun e => by have := (Array.getElem?_eq_some_iff.1 hz4).1; omega
      have hgw : w.heap.size ≤ w4.heap.size := kk4.size
      generalize w4.alloc (.cells #[.int .i64 0, .int .u64 0] 29) = w5 at *
      generalize w4.heap.size = gx at *
      clear k5 hz4 kk4 f0 f1 x0 x1
      have hl6 := hl5
      have hz6 := hz5
      have kk6 := kk5
      clear hl5 hz5 kk5
      generalize w5 = w6 at *
      have y0 : w6.cell? ⟨gx, 0, none⟩ = some (.int .i64 0) := cell_of_row w6 gx 0 _ _ _ hl6
      have y1 : w6.cell? ⟨gx, 1, none⟩ = some (.int .u64 0) := cell_of_row w6 gx 1 _ _ _ hl6
      have f0 := free_of hz6 0
      have f1 := free_of hz6 1
      have x0 : w6.cell? ⟨gl, 0, none⟩ = some (.int .i64 0) := cell_of_row w6 gl 0 _ _ _ hz6
      have x1 : w6.cell? ⟨gl, 1, none⟩ = some (.int .u64 0) := cell_of_row w6 gl 1 _ _ _ hz6
      clear HLO
      go_wp2
      exact bodyPost_ret (results_line rfl (line_set hz6 _ _) rfl) rfl ⟨by rw [HBS.out, HLP.out]; rfl, Keep.setCell (Keep.setCell kk6 hglw _) hglw _⟩
    · have hyi : ¬ (y : Int) = 0 := by omega
      go_upto_if 35 with (fail)
      have k5 := Keep.alloc w4 (.cells #[.int .i64 0, .int .u64 y] 29)
      have hl5 := heap_alloc_new w4 (.cells #[.int .i64 0, .int .u64 y] 29)
      have hz5 := (k5.block gl (Array.getElem?_eq_some_iff.1 hz4).1).trans hz4
      have kk5 := kk4.trans' k5
      have ngl : gl ≠ w4.heap.size := fun e => by have := (Array.getElem?_eq_some_iff.1 hz4).1; omega
      have hgw : w.heap.size ≤ w4.heap.size := kk4.size
      generalize w4.alloc (.cells #[.int .i64 0, .int .u64 y] 29) = w5 at *
      generalize w4.heap.size = gx at *
      clear k5 hz4 kk4 f0 f1 x0 x1
      have hl6 := hl5
      have hz6 := hz5
      have kk6 := kk5
      clear hl5 hz5 kk5
      generalize w5 = w6 at *
      have y0 : w6.cell? ⟨gx, 0, none⟩ = some (.int .i64 0) := cell_of_row w6 gx 0 _ _ _ hl6
      have y1 : w6.cell? ⟨gx, 1, none⟩ = some (.int .u64 y) := cell_of_row w6 gx 1 _ _ _ hl6
      have f0 := free_of hz6 0
      have f1 := free_of hz6 1
      have x0 : w6.cell? ⟨gl, 0, none⟩ = some (.int .i64 0) := cell_of_row w6 gl 0 _ _ _ hz6
      have x1 : w6.cell? ⟨gl, 1, none⟩ = some (.int .u64 0) := cell_of_row w6 gl 1 _ _ _ hz6
      clear HLO
      go_wp2
      exact bodyPost_ret (results_line rfl (line_set hz6 _ _) rfl) rfl ⟨by rw [HBS.out, HLP.out]; rfl, Keep.setCell (Keep.setCell kk6 hglw _) hglw _⟩
  · have hxi0 : ¬ (x : Int) = 0 := by omega
    have hx3 : ¬ (2 : Int) < (x : Int) := by omega
    go_upto_if 35 with (fail)
    have k5 := Keep.alloc w4 (.cells #[.int .i64 x, .int .u64 y] 29)
    have hl5 := heap_alloc_new w4 (.cells #[.int .i64 x, .int .u64 y] 29)
    have hz5 := (k5.block gl (Array.getElem?_eq_some_iff.1 hz4).1).trans hz4
    have kk5 := kk4.trans' k5
    have ngl : gl ≠ w4.heap.size := fun e => by have := (Array.getElem?_eq_some_iff.1 hz4).1; omega
    have hgw : w.heap.size ≤ w4.heap.size := kk4.size
    generalize w4.alloc (.cells #[.int .i64 x, .int .u64 y] 29) = w5 at *
    generalize w4.heap.size = gx at *
    clear k5 hz4 kk4 f0 f1 x0 x1
    have hl6 := hl5
    have hz6 := hz5
    have kk6 := kk5
    clear hl5 hz5 kk5
    generalize w5 = w6 at *
    have y0 : w6.cell? ⟨gx, 0, none⟩ = some (.int .i64 x) := cell_of_row w6 gx 0 _ _ _ hl6
    have y1 : w6.cell? ⟨gx, 1, none⟩ = some (.int .u64 y) := cell_of_row w6 gx 1 _ _ _ hl6
    have f0 := free_of hz6 0
    have f1 := free_of hz6 1
    have x0 : w6.cell? ⟨gl, 0, none⟩ = some (.int .i64 0) := cell_of_row w6 gl 0 _ _ _ hz6
    have x1 : w6.cell? ⟨gl, 1, none⟩ = some (.int .u64 0) := cell_of_row w6 gl 1 _ _ _ hz6
    clear HLO
    go_wp2
    exact bodyPost_ret (results_line rfl (line_set hz6 _ _) rfl) rfl ⟨by rw [HBS.out, HLP.out]; rfl, Keep.setCell (Keep.setCell kk6 hglw _) hglw _⟩
end Go.Proofs.Ythknhonpcmneaaa
