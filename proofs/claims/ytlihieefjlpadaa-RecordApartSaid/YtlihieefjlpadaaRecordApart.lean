/- The walk of RecordApart. -/
import Derived.Test.YtlihieefjlpadaaFill
import Derived.Test.YtlihieefjlpadaaOpenSd
import Derived.Test.YtlihieefjlpadaaSame
import Derived.Test.YtlihieefjlpadaaFit06
namespace Go.Proofs.Ytlihieefjlpadaa
open Go Go.RowKit
attribute [local irreducible] Go.wpQuiet

/-- frames of unlike records are unlike as far as the shorter one reaches -/
theorem enc_unlike {a b : Rc} (ha : a.right = true) (ha' : ∀ x ∈ a.dirty, x < 256 ^ 8) (hb : b.right = true) (hb' : ∀ x ∈ b.dirty, x < 256 ^ 8) (n : Nat) (hn : n = min a.enc.length b.enc.length) (h : a.enc.take n = b.enc.take n) : a = b := by
  rcases Nat.le_total a.enc.length b.enc.length with hl | hl
  · have e : n = a.enc.length := by omega
    rw [e, List.take_length] at h
    exact enc_apart ha ha' hb hb' (x := b.enc.drop a.enc.length) (y := []) (by
      rw [List.append_nil]
      exact (congrArg (· ++ b.enc.drop a.enc.length) h).trans (List.take_append_drop _ _))
  · have e : n = b.enc.length := by omega
    rw [e, List.take_length] at h
    exact enc_apart ha ha' hb hb' (x := []) (y := a.enc.drop b.enc.length) (by
      rw [List.append_nil]
      exact ((congrArg (· ++ a.enc.drop b.enc.length) h.symm).trans (List.take_append_drop _ _)).symm)

set_option maxRecDepth 100000 in
set_option maxHeartbeats 4000000 in
theorem recordApart_any (s t : Sd) (dv ev : Value) (w : World) (hd : SlU w dv s.d) (hx : ∀ x ∈ s.d, x < 256 ^ 8) (he : SlU w ev t.d) (hy : ∀ x ∈ t.d, x < 256 ^ 8) : Calls Try.prog 9 #[s.val dv, t.val ev] w fun e w' => e = .returned (.bool true) ∧ Keep w w' := by
  have R := fun w h => seed_at s dv w h
  have T := fun w h => seed_at t ev w h
  have hrs := s.right
  have hrt := t.right
  have hxs := s.dx hx
  have hxt := t.dx hy
  obtain ⟨da, dc, rfl, hm, hc, -⟩ := hd.form
  obtain ⟨ea, ec, rfl, hm2, hc2, -⟩ := he.form
  generalize s.rc = ra at *
  generalize t.rc = rb at *
  replace R := Lib.hid R
  replace T := Lib.hid T
  have HRS := Lib.hid hrs
  have HRT := Lib.hid hrt
  have HXS := Lib.hid hxs
  have HXT := Lib.hid hxt
  clear hrs hrt hxs hxt hx hy
  unfold Sd.val at *
  have hx0 := heap_alloc_new w (.cells #[.int .i64 s.k, .int .i64 s.t, .int .i64 s.p, .int .i64 s.s, .int .u8 (s.b.toNat : Int), .int .u8 (s.a.toNat : Int), .int .u8 (s.i.toNat : Int), .slice da s.d.length dc] 28)
  have hk0 := Keep.alloc w (.cells #[.int .i64 s.k, .int .i64 s.t, .int .i64 s.p, .int .i64 s.s, .int .u8 (s.b.toNat : Int), .int .u8 (s.a.toNat : Int), .int .u8 (s.i.toNat : Int), .slice da s.d.length dc] 28)
  have hs0 : (w.alloc (.cells #[.int .i64 s.k, .int .i64 s.t, .int .i64 s.p, .int .i64 s.s, .int .u8 (s.b.toNat : Int), .int .u8 (s.a.toNat : Int), .int .u8 (s.i.toNat : Int), .slice da s.d.length dc] 28)).heap.size = w.heap.size + 1 := by simp
  go_enter Try.func9, Try.ntmps9
  go_wp2_with fail
  generalize w.alloc (.cells #[.int .i64 s.k, .int .i64 s.t, .int .i64 s.p, .int .i64 s.s, .int .u8 (s.b.toNat : Int), .int .u8 (s.a.toNat : Int), .int .u8 (s.i.toNat : Int), .slice da s.d.length dc] 28) = w9 at *
  have hy0 := heap_alloc_new w9 (.cells #[.int .i64 t.k, .int .i64 t.t, .int .i64 t.p, .int .i64 t.s, .int .u8 (t.b.toNat : Int), .int .u8 (t.a.toNat : Int), .int .u8 (t.i.toNat : Int), .slice ea t.d.length ec] 28)
  have hk9 := Keep.alloc w9 (.cells #[.int .i64 t.k, .int .i64 t.t, .int .i64 t.p, .int .i64 t.s, .int .u8 (t.b.toNat : Int), .int .u8 (t.a.toNat : Int), .int .u8 (t.i.toNat : Int), .slice ea t.d.length ec] 28)
  rw [hs0] at hy0
  generalize w9.alloc (.cells #[.int .i64 t.k, .int .i64 t.t, .int .i64 t.p, .int .i64 t.s, .int .u8 (t.b.toNat : Int), .int .u8 (t.a.toNat : Int), .int .u8 (t.i.toNat : Int), .slice ea t.d.length ec] 28) = w0 at *
  have hx1 := (hk9.block _ (Array.getElem?_eq_some_iff.1 hx0).1).trans hx0
  have hk00 := hk0.trans' hk9
  refine (fit_any w0).mono ?_
  rintro e w1 ⟨rfl, hk1⟩
  have hx2 := (hk1.block _ (Array.getElem?_eq_some_iff.1 hx1).1).trans hx1
  have hy2 := (hk1.block _ (Array.getElem?_eq_some_iff.1 hy0).1).trans hy0
  have hw1 := hk00.trans' hk1
  have hd1 := hd.keep hw1
  have he1 := he.keep hw1
  clear hx0 hx1 hy0 hk0 hk9 hk00 hk1 hs0 hd he
  obtain ⟨c0, c1, c2, c3, c4, c5, c6, c7⟩ := cells8 hx2
  obtain ⟨b0, b1, b2, b3, b4, b5, b6, b7⟩ := cells8 hy2
  by_cases hl : 100 < s.d.length
  · have t1 : decide (100 < (s.d.length : Int)) = true := decide_eq_true (by omega)
    clear hl hm hc
    go_wp2
    go_ret
    exact ⟨rfl, hw1⟩
  have t1 : decide (100 < (s.d.length : Int)) = false := decide_eq_false (by omega)
  by_cases hl2 : 100 < t.d.length
  · have t2 : decide (100 < (t.d.length : Int)) = true := decide_eq_true (by omega)
    clear hl hl2 hm hc hm2 hc2
    go_wp2
    go_ret
    exact ⟨rfl, hw1⟩
  have t2 : decide (100 < (t.d.length : Int)) = false := decide_eq_false (by omega)
  go_upto_region 5 with (fail)
  clear c0 c1 c2 c3 c4 c5 c6 c7 b0 b1 b2 b3 b4 b5 b6 b7
  generalize w.heap.size + 1 = gt at *
  generalize w.heap.size = gs at *
  refine K.wp_region_ord' [some (fun _ => (oV (.agg #[.int .i64 s.k, .int .i64 s.t, .int .i64 s.p, .int .i64 s.s, .int .u8 (s.b.toNat : Int), .int .u8 (s.a.toNat : Int), .int .u8 (s.i.toNat : Int), .slice da s.d.length dc]))), some (fun _ => (oRc ra)), some (fun _ => (oV (.agg #[.int .i64 t.k, .int .i64 t.t, .int .i64 t.p, .int .i64 t.s, .int .u8 (t.b.toNat : Int), .int .u8 (t.a.toNat : Int), .int .u8 (t.i.toNat : Int), .slice ea t.d.length ec]))), some (fun _ => (oRc rb)), some (fun _ => (oAt w1.heap.size (.cells #[.int .i64 0, .int .i64 0, .int .i64 0, .int .i64 0, .string ⟨[].toArray⟩, .string ⟨[].toArray⟩, .string ⟨[].toArray⟩, .slice none 0 0] 24))), some (fun _ => (oAt w1.heap.size (.cells #[.int .i64 0, .int .i64 0, .int .i64 0, .int .i64 0, .string ⟨[].toArray⟩, .string ⟨[].toArray⟩, .string ⟨[].toArray⟩, .slice none 0 0] 24))), some (oFill w1.heap.size 24), some (oFill w1.heap.size 24)]
    #[0, 0, 0, 0, 0, 0, 16, 32] (w1.heap.size) (fun w' => Keep w1 w') (by kernel_rfl) (by kernel_rfl) (by kernel_rfl) ((Keep.refl w1).drew) ?_
  refine K.ordT_same (by kernel_rfl) (fun w2 hC => ?_) ?_
  · obtain ⟨x0, x1, x2, x3, x4, x5, x6, x7⟩ := cells8 ((hC.block _ (Array.getElem?_eq_some_iff.1 hx2).1).trans hx2)
    go_simp
  simp only [Act.put, List.setIfInBounds_toArray, List.set_cons_zero, List.set_cons_succ]
  refine K.ordT_call (by kernel_rfl) keepK (fun w2 own hC hF => ?_) ?_
  · refine ⟨_, _, by first | (go_simp; done) | (go_simp; rfl), (R.out w2 (hd1.keep hC)).mono ?_⟩
    rintro e w' ⟨dw, rfl, ⟨hin, hs⟩, hk⟩
    obtain ⟨a, c, rfl, -, -, -⟩ := hs.form
    exact ⟨_, rfl, hk, fun S hS => ⟨_, _, _, rfl, hs, fun _ => hin.mono fun b hb => hS b (.inr hb)⟩⟩
  rintro x1 wx1 ownx1 hCx1 hx1
  obtain ⟨ax1, nx1, cx1, rfl, -, -⟩ := hx1
  simp only [Act.put, List.setIfInBounds_toArray, List.set_cons_zero, List.set_cons_succ]
  refine K.ordT_same (by kernel_rfl) (fun w2 hC => ?_) ?_
  · obtain ⟨x0, x1, x2, x3, x4, x5, x6, x7⟩ := cells8 ((hC.block _ (Array.getElem?_eq_some_iff.1 hy2).1).trans hy2)
    go_simp
  simp only [Act.put, List.setIfInBounds_toArray, List.set_cons_zero, List.set_cons_succ]
  refine K.ordT_call (by kernel_rfl) keepK (fun w2 own hC hF => ?_) ?_
  · refine ⟨_, _, by first | (go_simp; done) | (go_simp; rfl), (T.out w2 (he1.keep hC)).mono ?_⟩
    rintro e w' ⟨dw, rfl, ⟨hin, hs⟩, hk⟩
    obtain ⟨a, c, rfl, -, -, -⟩ := hs.form
    exact ⟨_, rfl, hk, fun S hS => ⟨_, _, _, rfl, hs, fun _ => hin.mono fun b hb => hS b (.inr hb)⟩⟩
  rintro x3 wx3 ownx3 hCx3 hx3
  obtain ⟨ax3, nx3, cx3, rfl, -, -⟩ := hx3
  simp only [Act.put, List.setIfInBounds_toArray, List.set_cons_zero, List.set_cons_succ]
  refine K.ordT_laid (fun w2 => .pointer (some ⟨w2.heap.size, 0, none⟩)) (.cells #[.int .i64 0, .int .i64 0, .int .i64 0, .int .i64 0, .string ⟨[].toArray⟩, .string ⟨[].toArray⟩, .string ⟨[].toArray⟩, .slice none 0 0] 24) (by kernel_rfl) keepK (fun w2 hC => by go_simp) (fun w2 own hC hF S hS => ?_) ?_
  · exact ⟨_, rfl, hC.size, hS _ (.inr (Nat.le_refl _)), heap_alloc_new _ _⟩
  rintro x4 wx4 ownx4 - hx4
  obtain ⟨gx4, rfl, nx4, -, -⟩ := hx4
  simp only [Act.put, List.setIfInBounds_toArray, List.set_cons_zero, List.set_cons_succ]
  refine K.ordT_laid (fun w2 => .pointer (some ⟨w2.heap.size, 0, none⟩)) (.cells #[.int .i64 0, .int .i64 0, .int .i64 0, .int .i64 0, .string ⟨[].toArray⟩, .string ⟨[].toArray⟩, .string ⟨[].toArray⟩, .slice none 0 0] 24) (by kernel_rfl) keepK (fun w2 hC => by go_simp) (fun w2 own hC hF S hS => ?_) ?_
  · exact ⟨_, rfl, hC.size, hS _ (.inr (Nat.le_refl _)), heap_alloc_new _ _⟩
  rintro x5 wx5 ownx5 - hx5
  obtain ⟨gx5, rfl, nx5, -, -⟩ := hx5
  simp only [Act.put, List.setIfInBounds_toArray, List.set_cons_zero, List.set_cons_succ]
  refine K.ordT_fill [.pointer (some ⟨gx4, 0, none⟩), .agg #[.int .i64 ra.kind, .int .i64 ra.txn, .int .i64 ra.page, .int .i64 ra.slot, .string ⟨ra.before.toArray⟩, .string ⟨ra.after.toArray⟩, .string ⟨ra.image.toArray⟩, .slice ax1 nx1 cx1]] rfl (by kernel_rfl) (told_fillK gx4 24 (x0 := .int .i64 0) (x1 := .int .i64 0) (x2 := .int .i64 0) (x3 := .int .i64 0) (x4 := .string ⟨[].toArray⟩) (x5 := .string ⟨[].toArray⟩) (x6 := .string ⟨[].toArray⟩) (x7 := .slice none 0 0) (.int .i64 ra.kind) (.int .i64 ra.txn) (.int .i64 ra.page) (.int .i64 ra.slot) (.string ⟨ra.before.toArray⟩) (.string ⟨ra.after.toArray⟩) (.string ⟨ra.image.toArray⟩) (.slice ax1 nx1 cx1) (fun w2 hg => ?_) keepG fun w2 own hC hF => ?_) fun _ => ?_
  · obtain ⟨n0, n1, n2, n3, n4, n5, n6, n7⟩ := cells8 hg
    obtain ⟨z0, z1, z2, z3, z4, z5, z6, z7⟩ := free8 hg
    unfold Rc.val laidOver
    go_simp
  · obtain ⟨g', e', h1, h2, h3⟩ := (((hF 4 rfl).2 rfl).1 rfl)
    simp only [Value.pointer.injEq, Option.some.injEq, Addr.mk.injEq, and_true] at e'
    subst e'
    exact at_con h1 h2 h3 rfl
  simp only [Act.put, List.setIfInBounds_toArray, List.set_cons_zero, List.set_cons_succ]
  refine K.ordT_fill [.pointer (some ⟨gx5, 0, none⟩), .agg #[.int .i64 rb.kind, .int .i64 rb.txn, .int .i64 rb.page, .int .i64 rb.slot, .string ⟨rb.before.toArray⟩, .string ⟨rb.after.toArray⟩, .string ⟨rb.image.toArray⟩, .slice ax3 nx3 cx3]] rfl (by kernel_rfl) (told_fillK gx5 24 (x0 := .int .i64 0) (x1 := .int .i64 0) (x2 := .int .i64 0) (x3 := .int .i64 0) (x4 := .string ⟨[].toArray⟩) (x5 := .string ⟨[].toArray⟩) (x6 := .string ⟨[].toArray⟩) (x7 := .slice none 0 0) (.int .i64 rb.kind) (.int .i64 rb.txn) (.int .i64 rb.page) (.int .i64 rb.slot) (.string ⟨rb.before.toArray⟩) (.string ⟨rb.after.toArray⟩) (.string ⟨rb.image.toArray⟩) (.slice ax3 nx3 cx3) (fun w2 hg => ?_) keepG fun w2 own hC hF => ?_) fun _ => ?_
  · obtain ⟨n0, n1, n2, n3, n4, n5, n6, n7⟩ := cells8 hg
    obtain ⟨z0, z1, z2, z3, z4, z5, z6, z7⟩ := free8 hg
    unfold Rc.val laidOver
    go_simp
  · obtain ⟨g', e', h1, h2, h3⟩ := (((hF 5 rfl).2 rfl).1 rfl)
    simp only [Value.pointer.injEq, Option.some.injEq, Addr.mk.injEq, and_true] at e'
    subst e'
    exact at_con h1 h2 h3 rfl
  simp only [Act.put, List.setIfInBounds_toArray, List.set_cons_zero, List.set_cons_succ]
  refine K.ordT_done fun w3 own hC hF => ?_
  have hA := ((((hF 6).2 rfl).1 rfl) gx4 _ rfl).2.2
  have hB := (((hF 7).1 rfl) gx5 _ rfl).2.2
  obtain ⟨_, _, _, e1, hda, -⟩ := ((((((((hF 1).2 rfl).2 rfl).2 rfl).2 rfl).2 rfl).2 rfl).1 rfl)
  obtain ⟨_, _, _, e3, hdb, -⟩ := ((((((hF 3).2 rfl).2 rfl).2 rfl).2 rfl).1 rfl)
  unfold Rc.val at e1 e3
  simp only [Value.agg.injEq, Array.mk.injEq, List.cons.injEq, and_true, true_and, Value.slice.injEq] at e1 e3
  obtain ⟨rfl, rfl, rfl⟩ := e1
  obtain ⟨rfl, rfl, rfl⟩ := e3
  clear hF
  have hw3 := hw1.trans' hC
  obtain ⟨aa, ac, e4, -, -, -⟩ := hda.form
  simp only [Value.slice.injEq] at e4
  obtain ⟨rfl, rfl, rfl⟩ := e4
  obtain ⟨ba, bc, e5, -, -, -⟩ := hdb.form
  simp only [Value.slice.injEq] at e5
  obtain ⟨rfl, rfl, rfl⟩ := e5
  change RcAt w3 gx4 ra _ at hA
  change RcAt w3 gx5 rb _ at hB
  clear hx2 hy2 hd1 he1 hw1 hC
  have E1 := Lib.hid fun w h => encode_any ra (.slice ax1 ra.dirty.length cx1) w (Rc.right.fits HRS.out HXS.out) h
  have E2 := Lib.hid fun w h => encode_any rb (.slice ax3 rb.dirty.length cx3) w (Rc.right.fits HRT.out HXT.out) h
  have S1 := Lib.hid fun w h => same_any ra rb (.slice ax1 ra.dirty.length cx1) (.slice ax3 rb.dirty.length cx3) w (hda.keep h) (hdb.keep h)
  have hap : ra.enc = rb.enc → ra = rb := fun h => enc_apart HRS.out HXS.out HRT.out HXT.out (x := []) (y := []) (by rw [h])
  have hun := fun n h1 h2 => enc_unlike HRS.out HXS.out HRT.out HXT.out n h1 h2
  have hD : decide (ra = rb) = (ra.enc == rb.enc) := by
    rw [Bool.eq_iff_iff, decide_eq_true_eq, beq_iff_eq]
    exact ⟨fun h => by rw [h], hap⟩
  have hun2 : ∀ n, n = min ra.enc.length rb.enc.length → ra.enc.take n = rb.enc.take n → ra.enc = rb.enc := fun n h1 h2 => by rw [hun n h1 h2]
  have h68 : ra.enc.length ≤ 68000 ∧ rb.enc.length ≤ 68000 := by
    have := ra.right_iff.1 HRS.out
    have := rb.right_iff.1 HRT.out
    have := enc_length ra
    have := enc_length rb
    omega
  rw [hD] at S1
  have HUN := Lib.hid hun2
  clear hap hD hun hun2
  unfold Rc.val at *
  generalize ra.enc = la at *
  generalize rb.enc = lb at *
  go_upto_region 6 with (fail)
  refine wp_region_ord' [some (oV (.agg #[.int .i64 ra.kind, .int .i64 ra.txn, .int .i64 ra.page, .int .i64 ra.slot, .string ⟨ra.before.toArray⟩, .string ⟨ra.after.toArray⟩, .string ⟨ra.image.toArray⟩, .slice ax1 ra.dirty.length cx1])), some (oB la), some (oV (.agg #[.int .i64 rb.kind, .int .i64 rb.txn, .int .i64 rb.page, .int .i64 rb.slot, .string ⟨rb.before.toArray⟩, .string ⟨rb.after.toArray⟩, .string ⟨rb.image.toArray⟩, .slice ax3 rb.dirty.length cx3])), some (oB lb), none, none]
    #[0, 0, 0, 0, 0, 0] (w3.heap.size) (fun w' => Keep w3 w') (by kernel_rfl) (by kernel_rfl) (by kernel_rfl) ((Keep.refl w3).drew) ?_
  refine ordT_same (by kernel_rfl) (fun w2 hC => ?_) ?_
  · obtain ⟨x0, x1, x2, x3, x4, x5, x6, x7⟩ := (hA.keep hC).cells
    go_simp
  simp only [Act.put, List.setIfInBounds_toArray, List.set_cons_zero, List.set_cons_succ]
  refine ordT_call (by kernel_rfl) keepK (fun w2 own hC hF => ?_) ?_
  · refine ⟨_, _, by first | (go_simp; done) | (go_simp; rfl), (E1.out w2 (hda.keep hC)).mono ?_⟩
    rintro e w' ⟨v, rfl, hO, hk⟩
    exact ⟨v, rfl, hk, fun S hS => ⟨hO.sl, fun _ => Own.inOf hO fun g hg => hS g (.inr (World.ownsRow.lt hO g hg).1)⟩⟩
  rintro y1 wy1 owny1 hCy1 hy1
  obtain ⟨ay1, ny1, cy1, rfl⟩ := Sl.shape hy1.1
  simp only [Act.put, List.setIfInBounds_toArray, List.set_cons_zero, List.set_cons_succ]
  refine ordT_same (by kernel_rfl) (fun w2 hC => ?_) ?_
  · obtain ⟨x0, x1, x2, x3, x4, x5, x6, x7⟩ := (hB.keep hC).cells
    go_simp
  simp only [Act.put, List.setIfInBounds_toArray, List.set_cons_zero, List.set_cons_succ]
  refine ordT_call (by kernel_rfl) keepK (fun w2 own hC hF => ?_) ?_
  · refine ⟨_, _, by first | (go_simp; done) | (go_simp; rfl), (E2.out w2 (hdb.keep hC)).mono ?_⟩
    rintro e w' ⟨v, rfl, hO, hk⟩
    exact ⟨v, rfl, hk, fun S hS => ⟨hO.sl, fun _ => Own.inOf hO fun g hg => hS g (.inr (World.ownsRow.lt hO g hg).1)⟩⟩
  rintro y3 wy3 owny3 hCy3 hy3
  obtain ⟨ay3, ny3, cy3, rfl⟩ := Sl.shape hy3.1
  simp only [Act.put, List.setIfInBounds_toArray, List.set_cons_zero, List.set_cons_succ]
  refine ordT_pure rfl ?_
  go_big_quiet_step (fail)
  refine ordT_on ?_
  refine ordT_pure rfl ?_
  go_big_quiet_step (fail)
  refine ordT_on ?_
  refine ordT_done fun w4 own hC hF => ?_
  have h1 : SlB w4 (.slice ay1 ny1 cy1) la := (((((hF 1).2 rfl).2 rfl).1 rfl)).1
  have h2 : SlB w4 (.slice ay3 ny3 cy3) lb := (((hF 3).1 rfl)).1
  clear hF hy1 hy3
  obtain ⟨a1, c1, e1, hm1, hc1, -⟩ := h1.form
  simp only [Value.slice.injEq] at e1
  obtain ⟨rfl, rfl, rfl⟩ := e1
  obtain ⟨a2, c2, e2, hm2, hc2, -⟩ := h2.form
  simp only [Value.slice.injEq] at e2
  obtain ⟨rfl, rfl, rfl⟩ := e2
  have hA4 := hA.keep hC
  have hB4 := hB.keep hC
  have hw4 := hw3.trans' hC
  obtain ⟨a0, a1, a2, a3, a4, a5, a6, a7⟩ := hA4.cells
  obtain ⟨b0, b1, b2, b3, b4, b5, b6, b7⟩ := hB4.cells
  go_wp2_with fail
  refine (S1.out w4 hC).mono ?_
  rintro e w5 ⟨rfl, hk5⟩
  have h15 := h1.keep hk5
  have h25 := h2.keep hk5
  have hw5 := hw4.trans' hk5
  clear hA hB hA4 hB4 h1 h2 a0 a1 a2 a3 a4 a5 a6 a7 b0 b1 b2 b3 b4 b5 b6 b7 R T E1 E2 S1 hda hdb
  by_cases h : la = lb
  · have t5 : (la == lb) = true := by rw [beq_iff_eq]; exact h
    have HE := Lib.hid h
    clear h
    rw [t5]
    have hto1 := run_toString (P := Try.prog) Try.underlying29 Try.underlying5 Try.underlying9 h15
    have hto2 := run_toString (P := Try.prog) Try.underlying29 Try.underlying5 Try.underlying9 h25
    unfold strV at hto1 hto2
    go_wp2
    go_ret
    exact ⟨ret_bool (by simp [HE.out]), hw5⟩
  · have t5 : (la == lb) = false := by rw [beq_eq_false_iff_ne]; exact h
    rw [t5]
    go_upto_region 10 with (fail)
    obtain ⟨N, hN⟩ : ∃ N, N = min la.length lb.length := ⟨_, rfl⟩
    have hif : (if lb.length < la.length then (lb.length : Int) else (la.length : Int)) = (N : Int) := by split <;> omega
    rw [hif]
    have hN1 : N ≤ la.length := by omega
    have hN2 : N ≤ lb.length := by omega
    have hne : Hid (¬ la.take N = lb.take N) := Lib.hid fun e => h (HUN.out N hN e)
    clear hif hN HUN
    refine wp_region_ord' [none, none, none, some (oV (strV ((la.take N)))), none, none, none, some (oV (strV ((lb.take N)))), none, none]
      #[0, 0, 0, 0, 0, 0, 0, 0, 0, 0] (w5.heap.size) (fun w' => Keep w5 w') (by kernel_rfl) (by kernel_rfl) (by kernel_rfl) ((Keep.refl w5).drew) ?_
    refine ordT_pure rfl ?_
    go_big_quiet_step (fail)
    refine ordT_on ?_
    refine ordT_pure rfl ?_
    go_big_quiet_step (fail)
    refine ordT_on ?_
    refine ordT_pure rfl ?_
    go_big_quiet_step (fail)
    refine ordT_on ?_
    refine ordT_str Try.underlying29 Try.underlying5 Try.underlying9 _ rfl (bs := (la.take N)) (by kernel_rfl) (fun w2 own hC hF => ?_) ?_
    · exact (h15.first N hN1).keep hC
    simp only [Act.put, List.setIfInBounds_toArray, List.set_cons_zero, List.set_cons_succ]
    refine ordT_pure rfl ?_
    go_big_quiet_step (fail)
    refine ordT_on ?_
    refine ordT_pure rfl ?_
    go_big_quiet_step (fail)
    refine ordT_on ?_
    refine ordT_pure rfl ?_
    go_big_quiet_step (fail)
    refine ordT_on ?_
    refine ordT_str Try.underlying29 Try.underlying5 Try.underlying9 _ rfl (bs := (lb.take N)) (by kernel_rfl) (fun w2 own hC hF => ?_) ?_
    · exact (h25.first N hN2).keep hC
    simp only [Act.put, List.setIfInBounds_toArray, List.set_cons_zero, List.set_cons_succ]
    unfold strV
    refine ordT_pure rfl ?_
    go_big_quiet_step (fail)
    refine ordT_on ?_
    refine ordT_pure rfl ?_
    go_big_quiet_step (fail)
    refine ordT_on ?_
    refine ordT_done fun w2 own hC hF => ?_
    clear hF
    go_wp2
    go_ret
    exact ⟨ret_bool (by simp [hne.out]), hw5.trans' hC⟩
end Go.Proofs.Ytlihieefjlpadaa
