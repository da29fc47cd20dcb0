/- The walk of RecordBack. -/
import Derived.Test.YtlihieefjlpadaaSeed
import Derived.Test.YtlihieefjlpadaaOpenSd
import Derived.Test.YtlihieefjlpadaaSame
import Derived.Test.YtlihieefjlpadaaFrame
import Derived.Test.YtlihieefjlpadaaFit06
namespace Go.Proofs.Ytlihieefjlpadaa
open Go Go.RowKit
attribute [local irreducible] Go.wpQuiet

set_option maxRecDepth 100000 in
set_option maxHeartbeats 4000000 in
theorem recordBack_any (s : Sd) (more : List UInt8) (dv mv : Value) (w : World) (hd : SlU w dv s.d) (hx : ∀ x ∈ s.d, x < 256 ^ 8) (hm0 : SlB w mv more) : Calls Try.prog 6 #[s.val dv, mv] w fun e w' => e = .returned (.bool true) ∧ Keep w w' := by
  have hx0 := heap_alloc_new w (.cells #[.int .i64 s.k, .int .i64 s.t, .int .i64 s.p, .int .i64 s.s, .int .u8 (s.b.toNat : Int), .int .u8 (s.a.toNat : Int), .int .u8 (s.i.toNat : Int), dv] 28)
  have hk0 := Keep.alloc w (.cells #[.int .i64 s.k, .int .i64 s.t, .int .i64 s.p, .int .i64 s.s, .int .u8 (s.b.toNat : Int), .int .u8 (s.a.toNat : Int), .int .u8 (s.i.toNat : Int), dv] 28)
  have R := fun w h => seed_any s dv w h
  have hr := s.right
  have hrd := s.dx hx
  generalize s.rc = r at *
  obtain ⟨da, dc, rfl, hm, hc, -⟩ := hd.form
  obtain ⟨ma, mc, rfl, hm1, hc1, -⟩ := hm0.form
  replace R := Lib.hid R
  unfold Sd.val at *
  go_enter Try.func6, Try.ntmps6
  go_wp2_with fail
  generalize w.alloc (.cells #[.int .i64 s.k, .int .i64 s.t, .int .i64 s.p, .int .i64 s.s, .int .u8 (s.b.toNat : Int), .int .u8 (s.a.toNat : Int), .int .u8 (s.i.toNat : Int), .slice da s.d.length dc] 28) = w0 at *
  refine (fit_any w0).mono ?_
  rintro e w1 ⟨rfl, hk1⟩
  have hd1 := (hd.keep hk0).keep hk1
  have hm01 := (hm0.keep hk0).keep hk1
  have hw1 := hk0.trans' hk1
  obtain ⟨c0, c1, c2, c3, c4, c5, c6, c7⟩ := cells8 ((hk1.block _ (Array.getElem?_eq_some_iff.1 hx0).1).trans hx0)
  by_cases hl : 100 < s.d.length
  · have t1 : decide (100 < (s.d.length : Int)) = true := decide_eq_true (by omega)
    clear hl hm hc
    go_wp2
    go_ret
    exact ⟨rfl, hw1⟩
  have t1 : decide (100 < (s.d.length : Int)) = false := decide_eq_false (by omega)
  by_cases hl2 : 100 < more.length
  · have t2 : decide (100 < (more.length : Int)) = true := decide_eq_true (by omega)
    clear hl hm hc hl2
    go_wp2
    go_ret
    exact ⟨rfl, hw1⟩
  have t2 : decide (100 < (more.length : Int)) = false := decide_eq_false (by omega)
  go_wp2_with fail
  refine (R.out w1 hd1).mono ?_
  rintro e w2 ⟨dw, rfl, hdw, hk2⟩
  obtain ⟨dwa, dwc, rfl, hwm, hwc, -⟩ := hdw.form
  have hA := RcAt.laid w2 r (.slice dwa r.dirty.length dwc)
  have hk23 := Keep.alloc w2 (.cells #[.int .i64 r.kind, .int .i64 r.txn, .int .i64 r.page, .int .i64 r.slot, .string ⟨r.before.toArray⟩, .string ⟨r.after.toArray⟩, .string ⟨r.image.toArray⟩, .slice dwa r.dirty.length dwc] 24)
  have E := Lib.hid fun w h => encode_any r (.slice dwa r.dirty.length dwc) w (Rc.right.fits hr hrd) h
  unfold Rc.val at *
  clear c0 c1 c2 c3 c4 c5 c6 c7 hx0
  go_wp2_with fail
  -- behind the head
  generalize w2.heap.size = g at *
  generalize w2.alloc (.cells #[.int .i64 r.kind, .int .i64 r.txn, .int .i64 r.page, .int .i64 r.slot, .string ⟨r.before.toArray⟩, .string ⟨r.after.toArray⟩, .string ⟨r.image.toArray⟩, .slice dwa r.dirty.length dwc] 24) = w3 at *
  have hdw3 := hdw.keep hk23
  refine (E.out w3 hdw3).mono ?_
  rintro e w4 ⟨v, rfl, ho, hk4⟩
  have hel := enc_length r
  have hri := r.right_iff.1 hr
  have hb4 := ho.slB
  have hA4 := hA.keep hk4
  have hdw4 := hdw3.keep hk4
  have hm4 := ((hm01.keep hk2).keep hk23).keep hk4
  have hw4 := ((hw1.trans' hk2).trans' hk23).trans' hk4
  have hdec : decOut (r.enc ++ more) = (r, (r.enc.length : Int), true) := by
    unfold decOut
    rw [dec_enc r hr hrd more]
  have HDEC := Lib.hid hdec
  have D := Lib.hid fun v w h => decode_any v (r.enc ++ more) w h (by rw [List.length_append]; omega)
  have FR := Lib.hid fun w h => frame_any r (.slice dwa r.dirty.length dwc) w (Rc.right.fits hr hrd) (by have := body_length r; omega) h
  have RI := Lib.hid fun w h => right_any r (.slice dwa r.dirty.length dwc) w h
  have SM := Lib.hid fun av w h1 h2 => same_any r r av (.slice dwa r.dirty.length dwc) w h1 h2
  unfold Rc.val at FR RI SM
  have hl395 : r.enc.length ≤ 395 := by omega
  clear hel hri hdec ho hk4 hk23 hk2 hdw hdw3 hm01 hm0 hm1 hc1 hwm hwc hA E R hd1 hd
  obtain ⟨a4, c4, rfl, hm5, hc5, -⟩ := hb4.form
  have hr2 := Lib.hid hr
  clear hr hrd
  generalize r.enc = l at *
  have t3 : decide ((l.length : Int) ≤ 395) = true := decide_eq_true (by omega)
  go_upto_region 7 with (fail)
  refine wp_region_seq ?_
  refine seqW_pure rfl ?_
  go_big_quiet_step (fail)
  refine seqW_on ?_
  refine seqW_gives (by kernel_rfl) ?_
  refine Gives.appendB (l := []) (k := l) elemB _ _ rfl rfl rfl (Own.nil w4 w4.heap.size _) hb4 (by simp; omega) (Nat.le_refl _) ?_
  intro v5 w5 ho5 hgr
  have hgr5 : w4.grownBy w5 none := hgr
  have hk5 : Keep w4 w5 := (Below.refl _ _).grown hgr5 (Nat.le_refl _) (fun j hj => by cases hj)
  rw [List.nil_append] at ho5
  obtain ⟨a5, n5, c5, rfl⟩ := ho5.slB.shape
  clear hgr hgr5
  simp only [Act.put, List.setIfInBounds_toArray, List.set_cons_zero, List.set_cons_succ]
  refine seqW_pure rfl ?_
  go_big_quiet_step (fail)
  refine seqW_on ?_
  refine seqW_gives (by kernel_rfl) ?_
  refine Gives.appendB (l := l) (k := more) elemB _ _ rfl rfl rfl ho5 (hm4.keep hk5) (by omega) hk5.size ?_
  intro v6 w6 ho6 hgr
  have hk6 : Keep w4 w6 := hk5.trans (Own.below ho5 hgr (Nat.le_refl _) hk5.size)
  have hb6 := ho6.slB
  obtain ⟨a6, n6, c6, rfl⟩ := hb6.shape
  clear hgr ho5 ho6 hk5
  simp only [Act.put, List.setIfInBounds_toArray, List.set_cons_zero, List.set_cons_succ]
  refine seqW_gives (by kernel_rfl) ?_
  refine Gives.call (by go_simp) (D.out _ w6 hb6) ?_
  rintro e w7 ⟨xv, rfl, hxd, hk7⟩
  rw [HDEC.out] at hxd ⊢
  obtain ⟨xa, xc, rfl, -, -, -⟩ := SlU.form hxd
  refine ⟨_, rfl, ?_⟩
  unfold Rc.val
  simp only [Act.put, List.setIfInBounds_toArray, List.set_cons_zero, List.set_cons_succ]
  refine seqW_pure rfl ?_
  go_big_quiet_step (fail)
  refine seqW_on ?_
  refine seqW_pure rfl ?_
  go_big_quiet_step (fail)
  refine seqW_on ?_
  refine seqW_pure rfl ?_
  go_big_quiet_step (fail)
  refine seqW_on ?_
  refine seqW_pure rfl ?_
  go_big_quiet_step (fail)
  refine seqW_on ?_
  refine seqW_gives (by kernel_rfl) ?_
  refine Gives.value (v := .pointer (some ⟨w7.heap.size, 0, none⟩)) (w' := w7.alloc (.cells #[.int .i64 0, .int .i64 0, .int .i64 0, .int .i64 0, .string ⟨[].toArray⟩, .string ⟨[].toArray⟩, .string ⟨[].toArray⟩, .slice none 0 0] 24)) (by go_simp) ?_
  simp only [Act.put, List.setIfInBounds_toArray, List.set_cons_zero, List.set_cons_succ]
  have hx8 := heap_alloc_new w7 (.cells #[.int .i64 0, .int .i64 0, .int .i64 0, .int .i64 0, .string ⟨[].toArray⟩, .string ⟨[].toArray⟩, .string ⟨[].toArray⟩, .slice none 0 0] 24)
  have hk8 := Keep.alloc w7 (.cells #[.int .i64 0, .int .i64 0, .int .i64 0, .int .i64 0, .string ⟨[].toArray⟩, .string ⟨[].toArray⟩, .string ⟨[].toArray⟩, .slice none 0 0] 24)
  generalize hgx : w7.heap.size = gx at *
  have hgx' := Lib.hid hgx
  generalize w7.alloc (.cells #[.int .i64 0, .int .i64 0, .int .i64 0, .int .i64 0, .string ⟨[].toArray⟩, .string ⟨[].toArray⟩, .string ⟨[].toArray⟩, .slice none 0 0] 24) = w8 at *
  obtain ⟨n0, n1, n2, n3, n4, n5, n6, n7⟩ := cells8 hx8
  obtain ⟨z0, z1, z2, z3, z4, z5, z6, z7⟩ := free8 hx8
  refine seqW_gives (by kernel_rfl) ?_
  refine Gives.skip (w' := laidOver w8 gx (.int .i64 r.kind) (.int .i64 r.txn) (.int .i64 r.page) (.int .i64 r.slot) (.string ⟨r.before.toArray⟩) (.string ⟨r.after.toArray⟩) (.string ⟨r.image.toArray⟩) ((.slice xa r.dirty.length xc))) (by unfold laidOver; go_simp) ?_
  have hX : RcAt (laidOver w8 gx (.int .i64 r.kind) (.int .i64 r.txn) (.int .i64 r.page) (.int .i64 r.slot) (.string ⟨r.before.toArray⟩) (.string ⟨r.after.toArray⟩) (.string ⟨r.image.toArray⟩) ((.slice xa r.dirty.length xc))) gx r (.slice xa r.dirty.length xc) := laidOver_at hx8 (.int .i64 r.kind) (.int .i64 r.txn) (.int .i64 r.page) (.int .i64 r.slot) (.string ⟨r.before.toArray⟩) (.string ⟨r.after.toArray⟩) (.string ⟨r.image.toArray⟩) ((.slice xa r.dirty.length xc))
  have hbut := laidOver_but w8 gx (.int .i64 r.kind) (.int .i64 r.txn) (.int .i64 r.page) (.int .i64 r.slot) (.string ⟨r.before.toArray⟩) (.string ⟨r.after.toArray⟩) (.string ⟨r.image.toArray⟩) ((.slice xa r.dirty.length xc))
  have hk9 : Keep w7 (laidOver w8 gx (.int .i64 r.kind) (.int .i64 r.txn) (.int .i64 r.page) (.int .i64 r.slot) (.string ⟨r.before.toArray⟩) (.string ⟨r.after.toArray⟩) (.string ⟨r.image.toArray⟩) ((.slice xa r.dirty.length xc))) := hk8.trans (hbut.below (by rw [hgx'.out]; exact Nat.le_refl _) hk8.size)
  clear n0 n1 n2 n3 n4 n5 n6 n7 z0 z1 z2 z3 z4 z5 z6 z7 hgx hk8 hx8 hbut
  generalize laidOver w8 gx (.int .i64 r.kind) (.int .i64 r.txn) (.int .i64 r.page) (.int .i64 r.slot) (.string ⟨r.before.toArray⟩) (.string ⟨r.after.toArray⟩) (.string ⟨r.image.toArray⟩) ((.slice xa r.dirty.length xc)) = w9 at *
  simp only [Act.put, List.setIfInBounds_toArray, List.set_cons_zero, List.set_cons_succ]
  refine seqW_pure rfl ?_
  go_big_quiet_step (fail)
  refine seqW_on ?_
  refine seqW_pure rfl ?_
  go_big_quiet_step (fail)
  refine seqW_on ?_
  refine seqW_done ?_
  have hk49 := (hk6.trans' hk7).trans' hk9
  have hA9 := hA4.keep hk49
  have hdw9 := hdw4.keep hk49
  have hxd9 := SlU.keep hk9 hxd
  have hb9 := hb4.keep hk49
  have hw9 := hw4.trans' hk49
  have hX9 := hX
  unfold RcAt at hX
  clear hA4 hdw4 hxd hb4 hk49 hk6 hk7 hk9 hb6 hm4 D HDEC hX
  go_upto_region 8 with (fail)
  refine wp_region_ord' [some (oV (.agg #[.int .i64 r.kind, .int .i64 r.txn, .int .i64 r.page, .int .i64 r.slot, .string ⟨r.before.toArray⟩, .string ⟨r.after.toArray⟩, .string ⟨r.image.toArray⟩, .slice dwa r.dirty.length dwc])), some (oV (.bool true)), none, none, some (oV (strV (l))), some (oV (.agg #[.int .i64 r.kind, .int .i64 r.txn, .int .i64 r.page, .int .i64 r.slot, .string ⟨r.before.toArray⟩, .string ⟨r.after.toArray⟩, .string ⟨r.image.toArray⟩, .slice dwa r.dirty.length dwc])), some (oB l), some (oV (strV (l))), none, none, none, none, none, none, none, none, none, none, none, none, none, none, none, none, none, some (oV (.agg #[.int .i64 r.kind, .int .i64 r.txn, .int .i64 r.page, .int .i64 r.slot, .string ⟨r.before.toArray⟩, .string ⟨r.after.toArray⟩, .string ⟨r.image.toArray⟩, .slice xa r.dirty.length xc])), some (oV (.agg #[.int .i64 r.kind, .int .i64 r.txn, .int .i64 r.page, .int .i64 r.slot, .string ⟨r.before.toArray⟩, .string ⟨r.after.toArray⟩, .string ⟨r.image.toArray⟩, .slice dwa r.dirty.length dwc])), some (oV (.bool true)), none, none]
    #[0, 0, 0, 0, 0, 0, 0, 0, 0, 0, 0, 0, 0, 0, 0, 0, 0, 0, 0, 0, 0, 0, 0, 0, 0, 0, 0, 0, 0, 0] (w9.heap.size) (fun w' => Keep w9 w') (by kernel_rfl) (by kernel_rfl) (by kernel_rfl) ((Keep.refl w9).drew) ?_
  refine ordT_same (by kernel_rfl) (fun w2 hC => ?_) ?_
  · obtain ⟨x0, x1, x2, x3, x4, x5, x6, x7⟩ := (hA9.keep hC).cells
    go_simp
  simp only [Act.put, List.setIfInBounds_toArray, List.set_cons_zero, List.set_cons_succ]
  refine ordT_callV (by kernel_rfl) keepK (fun w2 own hC hF => ?_) ?_
  · refine ⟨_, _, by first | (go_simp; done) | (go_simp; rfl), (RI.out w2 (hdw9.keep hC)).mono ?_⟩
    rintro e w' ⟨rfl, hk⟩
    exact ⟨by rw [hr2.out], hk⟩
  simp only [Act.put, List.setIfInBounds_toArray, List.set_cons_zero, List.set_cons_succ]
  refine ordT_pure rfl ?_
  go_big_quiet_step (fail)
  refine ordT_on ?_
  refine ordT_pure rfl ?_
  go_big_quiet_step (fail)
  refine ordT_on ?_
  refine ordT_str Try.underlying29 Try.underlying5 Try.underlying9 _ rfl (bs := l) (by kernel_rfl) (fun w2 own hC hF => ?_) ?_
  · exact hb9.keep hC
  simp only [Act.put, List.setIfInBounds_toArray, List.set_cons_zero, List.set_cons_succ]
  refine ordT_same (by kernel_rfl) (fun w2 hC => ?_) ?_
  · obtain ⟨x0, x1, x2, x3, x4, x5, x6, x7⟩ := (hA9.keep hC).cells
    go_simp
  simp only [Act.put, List.setIfInBounds_toArray, List.set_cons_zero, List.set_cons_succ]
  refine ordT_call (by kernel_rfl) keepK (fun w2 own hC hF => ?_) ?_
  · refine ⟨_, _, by first | (go_simp; done) | (go_simp; rfl), (FR.out w2 (hdw9.keep hC)).mono ?_⟩
    rintro e w' ⟨v, rfl, hO, hk⟩
    exact ⟨v, rfl, hk, fun S hS => ⟨hO.sl, fun _ => Own.inOf hO fun g hg => hS g (.inr (World.ownsRow.lt hO g hg).1)⟩⟩
  rintro y6 wy6 owny6 hCy6 hy6
  obtain ⟨ay6, ny6, cy6, rfl⟩ := Sl.shape hy6.1
  simp only [Act.put, List.setIfInBounds_toArray, List.set_cons_zero, List.set_cons_succ]
  refine ordT_str Try.underlying29 Try.underlying5 Try.underlying9 _ rfl (bs := l) (by kernel_rfl) (fun w2 own hC hF => ?_) ?_
  · exact (((hF 6 rfl).1 rfl)).1
  simp only [Act.put, List.setIfInBounds_toArray, List.set_cons_zero, List.set_cons_succ]
  unfold strV
  refine ordT_pure rfl ?_
  go_big_quiet_step (fail)
  refine ordT_on ?_
  refine ordT_pure rfl ?_
  go_big_quiet_step (fail)
  refine ordT_on ?_
  refine ordT_pure rfl ?_
  go_big_quiet_step (fail)
  refine ordT_on ?_
  refine ordT_pure rfl ?_
  go_big_quiet_step (fail)
  refine ordT_on ?_
  refine ordT_pure rfl ?_
  go_big_quiet_step (fail)
  refine ordT_on ?_
  refine ordT_pure rfl ?_
  go_big_quiet_step (fail)
  refine ordT_on ?_
  refine ordT_pure rfl ?_
  go_big_quiet_step (fail)
  refine ordT_on ?_
  refine ordT_pure rfl ?_
  go_big_quiet_step (fail)
  refine ordT_on ?_
  refine ordT_pure rfl ?_
  go_big_quiet_step (fail)
  refine ordT_on ?_
  refine ordT_pure rfl ?_
  go_big_quiet_step (fail)
  refine ordT_on ?_
  refine ordT_pure rfl ?_
  go_big_quiet_step (fail)
  refine ordT_on ?_
  refine ordT_pure rfl ?_
  go_big_quiet_step (fail)
  refine ordT_on ?_
  refine ordT_pure rfl ?_
  go_big_quiet_step (fail)
  refine ordT_on ?_
  refine ordT_pure rfl ?_
  go_big_quiet_step (fail)
  refine ordT_on ?_
  refine ordT_pure rfl ?_
  go_big_quiet_step (fail)
  refine ordT_on ?_
  refine ordT_pure rfl ?_
  go_big_quiet_step (fail)
  refine ordT_on ?_
  refine ordT_pure rfl ?_
  go_big_quiet_step (fail)
  refine ordT_on ?_
  refine ordT_same (by kernel_rfl) (fun w2 hC => ?_) ?_
  · obtain ⟨x0, x1, x2, x3, x4, x5, x6, x7⟩ := (hX9.keep hC).cells
    go_simp
  simp only [Act.put, List.setIfInBounds_toArray, List.set_cons_zero, List.set_cons_succ]
  refine ordT_same (by kernel_rfl) (fun w2 hC => ?_) ?_
  · obtain ⟨x0, x1, x2, x3, x4, x5, x6, x7⟩ := (hA9.keep hC).cells
    go_simp
  simp only [Act.put, List.setIfInBounds_toArray, List.set_cons_zero, List.set_cons_succ]
  refine ordT_callV (by kernel_rfl) keepK (fun w2 own hC hF => ?_) ?_
  · refine ⟨_, _, by first | (go_simp; done) | (go_simp; rfl), (SM.out (.slice xa r.dirty.length xc) w2 (hxd9.keep hC) (hdw9.keep hC)).mono ?_⟩
    rintro e w' ⟨rfl, hk⟩
    exact ⟨by simp, hk⟩
  simp only [Act.put, List.setIfInBounds_toArray, List.set_cons_zero, List.set_cons_succ]
  refine ordT_pure rfl ?_
  go_big_quiet_step (fail)
  refine ordT_on ?_
  refine ordT_pure rfl ?_
  go_big_quiet_step (fail)
  refine ordT_on ?_
  refine ordT_done fun w2 own hC hF => ?_
  clear hF
  go_wp2
  go_ret
  exact ⟨rfl, hw9.trans' hC⟩
end Go.Proofs.Ytlihieefjlpadaa
