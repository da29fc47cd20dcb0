/- The walk of record.Same. -/
import Derived.Test.YtlihieefjlpadaaMade
namespace Go.Proofs.Ytlihieefjlpadaa
open Go Go.RowKit
attribute [local irreducible] Go.wpQuiet

theorem str_ne {x y : List UInt8} (h : x ≠ y) : ((⟨x.toArray⟩ : ByteArray).toList == (⟨y.toArray⟩ : ByteArray).toList) = false := by
  rw [ByteArray.toList_eq, ByteArray.toList_eq]
  simpa using h
theorem str_eq (x : List UInt8) : ((⟨x.toArray⟩ : ByteArray).toList == (⟨x.toArray⟩ : ByteArray).toList) = true := by simp
theorem rc_iff (k t p s : Int) (b a i : List UInt8) (d : List Nat) (k' t' p' s' : Int) (b' a' i' : List UInt8) (d' : List Nat) :
    decide ((⟨k, t, p, s, b, a, i, d⟩ : Rc) = ⟨k', t', p', s', b', a', i', d'⟩) = true ↔ k = k' ∧ t = t' ∧ p = p' ∧ s = s' ∧ b = b' ∧ a = a' ∧ i = i' ∧ d = d' := by
  rw [decide_eq_true_eq, Rc.mk.injEq]

set_option maxRecDepth 100000 in
set_option maxHeartbeats 8000000 in
theorem same_any (a b : Rc) (av bv : Value) (w : World) (ha : SlU w av a.dirty) (hb : SlU w bv b.dirty) : Calls Try.prog 18 #[a.val av, b.val bv] w fun e w' => e = .returned (.bool (decide (a = b))) ∧ Keep w w' := by
  obtain ⟨aa, ac, rfl, ham, hac, -⟩ := ha.form
  obtain ⟨ba, bc, rfl, hbm, hbc, -⟩ := hb.form
  have hA := RcAt.laid w a (.slice aa a.dirty.length ac)
  have hk0 := Keep.alloc w (.cells #[.int .i64 a.kind, .int .i64 a.txn, .int .i64 a.page, .int .i64 a.slot, .string ⟨a.before.toArray⟩, .string ⟨a.after.toArray⟩, .string ⟨a.image.toArray⟩, .slice aa a.dirty.length ac] 24)
  have hs : (w.alloc (.cells #[.int .i64 a.kind, .int .i64 a.txn, .int .i64 a.page, .int .i64 a.slot, .string ⟨a.before.toArray⟩, .string ⟨a.after.toArray⟩, .string ⟨a.image.toArray⟩, .slice aa a.dirty.length ac] 24)).heap.size = w.heap.size + 1 := by simp
  unfold maxLen at ham hbm
  unfold Rc.val
  obtain ⟨k, t, p, s, be, af, im, d⟩ := a
  obtain ⟨k', t', p', s', be', af', im', d'⟩ := b
  have hR := rc_iff k t p s be af im d k' t' p' s' be' af' im' d'
  generalize decide ((⟨k, t, p, s, be, af, im, d⟩ : Rc) = ⟨k', t', p', s', be', af', im', d'⟩) = R at *
  simp only at *
  have HR := Lib.hid hR
  clear hR
  go_enter Try.func18, Try.ntmps18
  go_upto_region 1 with (fail)
  generalize w.alloc (.cells #[.int .i64 k, .int .i64 t, .int .i64 p, .int .i64 s, .string ⟨be.toArray⟩, .string ⟨af.toArray⟩, .string ⟨im.toArray⟩, .slice aa d.length ac] 24) = w9 at *
  have hB := RcAt.laid w9 ⟨k', t', p', s', be', af', im', d'⟩ (.slice ba d'.length bc)
  have hk9 := Keep.alloc w9 (.cells #[.int .i64 k', .int .i64 t', .int .i64 p', .int .i64 s', .string ⟨be'.toArray⟩, .string ⟨af'.toArray⟩, .string ⟨im'.toArray⟩, .slice ba d'.length bc] 24)
  simp only at hB
  rw [hs] at hB
  have hA1 := hA.keep hk9
  have hkw := hk0.trans' hk9
  generalize w9.alloc (.cells #[.int .i64 k', .int .i64 t', .int .i64 p', .int .i64 s', .string ⟨be'.toArray⟩, .string ⟨af'.toArray⟩, .string ⟨im'.toArray⟩, .slice ba d'.length bc] 24) = w1 at *
  clear hA hk0 hk9 hs
  have had := ha.keep hkw
  have hbd := hb.keep hkw
  clear ha hb
  generalize w.heap.size + 1 = gb at *
  generalize w.heap.size = ga at *
  obtain ⟨a0, a1, a2, a3, a4, a5, a6, a7⟩ := hA1.cells
  obtain ⟨b0, b1, b2, b3, b4, b5, b6, b7⟩ := hB.cells
  simp only at a0 a1 a2 a3 a4 a5 a6 a7 b0 b1 b2 b3 b4 b5 b6 b7
  clear hA1 hB
  by_cases h : k = k'
  rotate_left
  · have x0 : (k != k') = true := by rw [bne_iff_ne]; exact h
    replace hn := Lib.hid h
    clear h
    obtain rfl : R = false := by rw [Bool.eq_false_iff]; intro h; have := HR.out.1 h; exact hn.out (this.1)
    clear HR hn
    go_wp2
    go_ret
    exact ⟨rfl, hkw⟩
  have e0 := Lib.hid h
  have x0 : (k != k') = false := by rw [bne_eq_false_iff_eq]; exact h
  clear h
  by_cases h : t = t'
  rotate_left
  · have x1 : (t != t') = true := by rw [bne_iff_ne]; exact h
    replace hn := Lib.hid h
    clear h
    obtain rfl : R = false := by rw [Bool.eq_false_iff]; intro h; have := HR.out.1 h; exact hn.out (this.2.1)
    clear HR hn
    go_wp2
    go_ret
    exact ⟨rfl, hkw⟩
  have e1 := Lib.hid h
  have x1 : (t != t') = false := by rw [bne_eq_false_iff_eq]; exact h
  clear h
  by_cases h : p = p'
  rotate_left
  · have x2 : (p != p') = true := by rw [bne_iff_ne]; exact h
    replace hn := Lib.hid h
    clear h
    obtain rfl : R = false := by rw [Bool.eq_false_iff]; intro h; have := HR.out.1 h; exact hn.out (this.2.2.1)
    clear HR hn
    go_wp2
    go_ret
    exact ⟨rfl, hkw⟩
  have e2 := Lib.hid h
  have x2 : (p != p') = false := by rw [bne_eq_false_iff_eq]; exact h
  clear h
  by_cases h : s = s'
  rotate_left
  · have x3 : (s != s') = true := by rw [bne_iff_ne]; exact h
    replace hn := Lib.hid h
    clear h
    obtain rfl : R = false := by rw [Bool.eq_false_iff]; intro h; have := HR.out.1 h; exact hn.out (this.2.2.2.1)
    clear HR hn
    go_wp2
    go_ret
    exact ⟨rfl, hkw⟩
  have e3 := Lib.hid h
  have x3 : (s != s') = false := by rw [bne_eq_false_iff_eq]; exact h
  clear h
  by_cases h : be = be'
  rotate_left
  · replace hn := Lib.hid h
    obtain rfl : R = false := by rw [Bool.eq_false_iff]; intro h; have := HR.out.1 h; exact hn.out (this.2.2.2.2.1)
    clear HR hn
    go_wp2
    go_ret
    exact ⟨rfl, hkw⟩
  subst h
  by_cases h : af = af'
  rotate_left
  · replace hn := Lib.hid h
    obtain rfl : R = false := by rw [Bool.eq_false_iff]; intro h; have := HR.out.1 h; exact hn.out (this.2.2.2.2.2.1)
    clear HR hn
    go_wp2
    go_ret
    exact ⟨rfl, hkw⟩
  subst h
  by_cases h : im = im'
  rotate_left
  · replace hn := Lib.hid h
    obtain rfl : R = false := by rw [Bool.eq_false_iff]; intro h; have := HR.out.1 h; exact hn.out (this.2.2.2.2.2.2.1)
    clear HR hn
    go_wp2
    go_ret
    exact ⟨rfl, hkw⟩
  subst h
  by_cases h : d.length = d'.length
  rotate_left
  · have x7 : ((d.length : Int) != (d'.length : Int)) = true := by rw [bne_iff_ne]; omega
    replace hn := Lib.hid h
    clear h
    obtain rfl : R = false := by rw [Bool.eq_false_iff]; intro h; have := HR.out.1 h; exact hn.out (congrArg List.length this.2.2.2.2.2.2.2)
    clear HR hn
    go_wp2
    go_ret
    exact ⟨rfl, hkw⟩
  have x7 : ((d.length : Int) != (d'.length : Int)) = false := by rw [bne_eq_false_iff_eq]; omega
  have e7 := Lib.hid h
  clear h
  go_upto_region 3 with (fail)
  have l7 := World.block_lt_of_cell? w1 _ a7
  have m7 := World.block_lt_of_cell? w1 _ b7
  clear a0 a1 a2 a3 a4 a5 a6 b0 b1 b2 b3 b4 b5 b6 x0 x1 x2 x3
  go_wp2
  go_loopw [65] (fun i wr => ∃ j : Nat, j ≤ d.length ∧ i = .int .i64 j ∧ (∀ m, m < j → d[m]? = d'[m]?) ∧ Keep w1 wr) (fun i _ => d.length - (intOf i).toNat)
  case atStart => exact ⟨0, Nat.zero_le _, rfl, fun m h => absurd h (Nat.not_lt_zero _), Keep.refl w1⟩
  case round =>
    obtain ⟨j, hj, rfl, hall, hkr⟩ := hrel
    replace had := had.keep hkr
    replace hbd := hbd.keep hkr
    replace a7 := (hkr.cell l7).trans a7
    replace b7 := (hkr.cell m7).trans b7
    replace hkw := hkw.trans' hkr
    replace l7 := World.block_lt_of_cell? wr _ a7
    replace m7 := World.block_lt_of_cell? wr _ b7
    have hl := e7.out
    by_cases hjn : j < d.length
    · obtain ⟨ad, cd, e1, -, -, hcell⟩ := had.form
      simp only [Value.slice.injEq] at e1
      obtain ⟨rfl, -, -⟩ := e1
      obtain ⟨bb, off, rfl, hx⟩ := hcell j hjn
      clear hcell
      obtain ⟨ad', cd', e2, -, -, hcell⟩ := hbd.form
      simp only [Value.slice.injEq] at e2
      obtain ⟨rfl, -, -⟩ := e2
      obtain ⟨bb', off', rfl, hx'⟩ := hcell j (by omega)
      clear hcell
      have hdj : d[j]? = some d[j] := List.getElem?_eq_getElem hjn
      have hdj' : d'[j]? = some (d'[j]'(by omega)) := List.getElem?_eq_getElem (by omega)
      have Hj := Lib.hid hdj
      have Hj' := Lib.hid hdj'
      have HL := Lib.hid hall
      have hjl' : (j : Int) < (d'.length : Int) := by omega
      have hjl : (j : Int) < (d.length : Int) := by omega
      clear hdj hdj' hall
      generalize d[j] = x at *
      generalize d'[j]'(by omega) = x' at *
      clear hl
      have lx := World.block_lt_of_cell? wr _ hx
      have lx' := World.block_lt_of_cell? wr _ hx'
      by_cases h : x = x'
      · have x8 : ((x : Int) != (x' : Int)) = false := by rw [bne_eq_false_iff_eq]; omega
        have e8 := Lib.hid h
        clear h
        go_upto_region 6 with (fail)
        refine wp_region_ord' [none, some (oV (.slice (some ⟨bb, off, none⟩) d.length ac)), none, none, some (oV (.int .u64 (x : Int))), none, some (oV (.slice (some ⟨bb', off', none⟩) d'.length bc)), none, none, some (oV (.int .u64 (x' : Int))), none]
          #[0, 0, 0, 0, 0, 0, 0, 0, 0, 0, 0] (wr.heap.size) (fun w' => Keep wr w') (by kernel_rfl) (by kernel_rfl) (by kernel_rfl) ((Keep.refl wr).drew) ?_
        refine ordT_pure rfl ?_
        go_big_quiet_step (fail)
        refine ordT_on ?_
        refine ordT_same (by kernel_rfl) (fun w2 hC => ?_) ?_
        · have y0 := (hC.cell l7).trans a7
          go_simp
        simp only [Act.put, List.setIfInBounds_toArray, List.set_cons_zero, List.set_cons_succ]
        refine ordT_pure rfl ?_
        go_big_quiet_step (fail)
        refine ordT_on ?_
        refine ordT_pure rfl ?_
        go_big_quiet_step (fail)
        refine ordT_on ?_
        refine ordT_same (by kernel_rfl) (fun w2 hC => ?_) ?_
        · have y0 := (hC.cell lx).trans hx
          go_simp
        simp only [Act.put, List.setIfInBounds_toArray, List.set_cons_zero, List.set_cons_succ]
        refine ordT_pure rfl ?_
        go_big_quiet_step (fail)
        refine ordT_on ?_
        refine ordT_same (by kernel_rfl) (fun w2 hC => ?_) ?_
        · have y0 := (hC.cell m7).trans b7
          go_simp
        simp only [Act.put, List.setIfInBounds_toArray, List.set_cons_zero, List.set_cons_succ]
        refine ordT_pure rfl ?_
        go_big_quiet_step (fail)
        refine ordT_on ?_
        refine ordT_pure rfl ?_
        go_big_quiet_step (fail)
        refine ordT_on ?_
        refine ordT_same (by kernel_rfl) (fun w2 hC => ?_) ?_
        · have y0 := (hC.cell lx').trans hx'
          go_simp
        simp only [Act.put, List.setIfInBounds_toArray, List.set_cons_zero, List.set_cons_succ]
        refine ordT_pure rfl ?_
        go_big_quiet_step (fail)
        refine ordT_on ?_
        refine ordT_done fun w2 own hC hF => ?_
        clear hF
        have hkw2 := hkw.trans' hC
        go_wp2
        go_roundw
        case rel =>
          refine ⟨j + 1, by omega, by go_num, fun m hm => ?_, hkr.trans' hC⟩
          by_cases hmj : m = j
          · rw [hmj, Hj.out, Hj'.out, e8.out]
          · exact HL.out m (by omega)
        case measure => simp [intOf]; omega
      · have x8 : ((x : Int) != (x' : Int)) = true := by rw [bne_iff_ne]; omega
        have e8 := Lib.hid h
        clear h
        obtain rfl : R = false := by
          rw [Bool.eq_false_iff]
          intro h
          have h1 := (HR.out.1 h).2.2.2.2.2.2.2
          have h2 := Hj.out
          rw [h1, Hj'.out] at h2
          exact e8.out (Option.some.inj h2).symm
        clear HR
        go_upto_region 6 with (fail)
        refine wp_region_ord' [none, some (oV (.slice (some ⟨bb, off, none⟩) d.length ac)), none, none, some (oV (.int .u64 (x : Int))), none, some (oV (.slice (some ⟨bb', off', none⟩) d'.length bc)), none, none, some (oV (.int .u64 (x' : Int))), none]
          #[0, 0, 0, 0, 0, 0, 0, 0, 0, 0, 0] (wr.heap.size) (fun w' => Keep wr w') (by kernel_rfl) (by kernel_rfl) (by kernel_rfl) ((Keep.refl wr).drew) ?_
        refine ordT_pure rfl ?_
        go_big_quiet_step (fail)
        refine ordT_on ?_
        refine ordT_same (by kernel_rfl) (fun w2 hC => ?_) ?_
        · have y0 := (hC.cell l7).trans a7
          go_simp
        simp only [Act.put, List.setIfInBounds_toArray, List.set_cons_zero, List.set_cons_succ]
        refine ordT_pure rfl ?_
        go_big_quiet_step (fail)
        refine ordT_on ?_
        refine ordT_pure rfl ?_
        go_big_quiet_step (fail)
        refine ordT_on ?_
        refine ordT_same (by kernel_rfl) (fun w2 hC => ?_) ?_
        · have y0 := (hC.cell lx).trans hx
          go_simp
        simp only [Act.put, List.setIfInBounds_toArray, List.set_cons_zero, List.set_cons_succ]
        refine ordT_pure rfl ?_
        go_big_quiet_step (fail)
        refine ordT_on ?_
        refine ordT_same (by kernel_rfl) (fun w2 hC => ?_) ?_
        · have y0 := (hC.cell m7).trans b7
          go_simp
        simp only [Act.put, List.setIfInBounds_toArray, List.set_cons_zero, List.set_cons_succ]
        refine ordT_pure rfl ?_
        go_big_quiet_step (fail)
        refine ordT_on ?_
        refine ordT_pure rfl ?_
        go_big_quiet_step (fail)
        refine ordT_on ?_
        refine ordT_same (by kernel_rfl) (fun w2 hC => ?_) ?_
        · have y0 := (hC.cell lx').trans hx'
          go_simp
        simp only [Act.put, List.setIfInBounds_toArray, List.set_cons_zero, List.set_cons_succ]
        refine ordT_pure rfl ?_
        go_big_quiet_step (fail)
        refine ordT_on ?_
        refine ordT_done fun w2 own hC hF => ?_
        clear hF
        have hkw2 := hkw.trans' hC
        go_wp2
        go_ret
        exact ⟨rfl, hkw2⟩
    · have hjl : j = d.length := by omega
      obtain rfl : R = true := HR.out.2 ⟨e0.out, e1.out, e2.out, e3.out, trivial, trivial, trivial, List.ext_getElem? fun m => by
        by_cases hm : m < j
        · exact hall m hm
        · rw [List.getElem?_eq_none (by omega), List.getElem?_eq_none (by omega)]⟩
      have hjd : ¬ ((j : Int) < (d.length : Int)) := by omega
      clear HR hall hjl hjn hl
      go_wp2
      go_ret
      exact ⟨rfl, hkw⟩
end Go.Proofs.Ytlihieefjlpadaa
