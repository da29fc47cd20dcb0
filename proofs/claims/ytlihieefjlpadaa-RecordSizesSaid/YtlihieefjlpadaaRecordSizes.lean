/- The walk of RecordSizes. -/
import Derived.Test.YtlihieefjlpadaaSeed
import Derived.Test.YtlihieefjlpadaaOpenSd
namespace Go.Proofs.Ytlihieefjlpadaa
open Go Go.RowKit
attribute [local irreducible] Go.wpQuiet

theorem or_i64 (n : Int) (h : 0 ≤ n ∧ n < 65536) : (Go.bits .or .i64 (n / 256 * 256) (n % 256) == n) = true := by
  rw [beq_iff_eq, bits_join .i64 63 (by decide) (fun n h0 h1 => by rw [IntKind.wrap_i64]; omega) 8 (n / 256 * 256) (n % 256) (by omega) (by omega) (by omega) (by omega) (by omega) (by omega)]
  omega

set_option maxRecDepth 100000 in
set_option maxHeartbeats 4000000 in
theorem recordSizes_any (s : Sd) (dv : Value) (w : World) (hd : SlU w dv s.d) (hx : ∀ x ∈ s.d, x < 256 ^ 8) : Calls Try.prog 5 #[s.val dv] w fun e w' => e = .returned (.bool true) ∧ Keep w w' := by
  have hx0 := heap_alloc_new w (.cells #[.int .i64 s.k, .int .i64 s.t, .int .i64 s.p, .int .i64 s.s, .int .u8 (s.b.toNat : Int), .int .u8 (s.a.toNat : Int), .int .u8 (s.i.toNat : Int), dv] 28)
  have hk0 := Keep.alloc w (.cells #[.int .i64 s.k, .int .i64 s.t, .int .i64 s.p, .int .i64 s.s, .int .u8 (s.b.toNat : Int), .int .u8 (s.a.toNat : Int), .int .u8 (s.i.toNat : Int), dv] 28)
  have R := fun w h => seed_any s dv w h
  obtain ⟨da, dc, rfl, hm, hc, -⟩ := hd.form
  have R := Lib.hid R
  unfold Sd.val at *
  go_enter Try.func5, Try.ntmps5
  go_wp2_with fail
  generalize w.alloc (.cells #[.int .i64 s.k, .int .i64 s.t, .int .i64 s.p, .int .i64 s.s, .int .u8 (s.b.toNat : Int), .int .u8 (s.a.toNat : Int), .int .u8 (s.i.toNat : Int), .slice da s.d.length dc] 28) = w0 at *
  refine (fit_any w0).mono ?_
  rintro e w1 ⟨rfl, hk1⟩
  have hd1 := (hd.keep hk0).keep hk1
  have hw1 := hk0.trans' hk1
  obtain ⟨c0, c1, c2, c3, c4, c5, c6, c7⟩ := cells8 ((hk1.block _ (Array.getElem?_eq_some_iff.1 hx0).1).trans hx0)
  by_cases hl : 100 < s.d.length
  · have t1 : decide (100 < (s.d.length : Int)) = true := decide_eq_true (by omega)
    clear hl hm hc
    go_wp2
    go_ret
    exact ⟨rfl, hw1⟩
  have t1 : decide (100 < (s.d.length : Int)) = false := decide_eq_false (by omega)
  go_wp2_with fail
  refine (R.out w1 hd1).mono ?_
  rintro e w2 ⟨dw, rfl, hdw, hk2⟩
  have hr := s.right
  have hrd := s.dx hx
  generalize s.rc = r at *
  obtain ⟨dwa, dwc, rfl, hwm, hwc, -⟩ := hdw.form
  have hA := RcAt.laid w2 r (.slice dwa r.dirty.length dwc)
  have hk23 := Keep.alloc w2 (.cells #[.int .i64 r.kind, .int .i64 r.txn, .int .i64 r.page, .int .i64 r.slot, .string ⟨r.before.toArray⟩, .string ⟨r.after.toArray⟩, .string ⟨r.image.toArray⟩, .slice dwa r.dirty.length dwc] 24)
  have E := Lib.hid fun w h => encode_any r (.slice dwa r.dirty.length dwc) w (Rc.right.fits hr hrd) h
  unfold Rc.val at *
  clear c0 c1 c2 c3 c4 c5 c6 c7
  go_upto_region 5 with (fail)
  generalize w2.heap.size = g at *
  generalize w2.alloc (.cells #[.int .i64 r.kind, .int .i64 r.txn, .int .i64 r.page, .int .i64 r.slot, .string ⟨r.before.toArray⟩, .string ⟨r.after.toArray⟩, .string ⟨r.image.toArray⟩, .slice dwa r.dirty.length dwc] 24) = w3 at *
  refine (E.out w3 (hdw.keep hk23)).mono ?_
  rintro e w4 ⟨v, rfl, ho, hk4⟩
  have hbl := body_length r
  have hel := enc_length r
  have hri := r.right_iff.1 hr
  have hs1 := size_str r.before
  have hs2 := size_str r.after
  have hs3 := size_str r.image
  have hA4 := hA.keep hk4
  obtain ⟨c0, c1, c2, c3, c4, c5, c6, c7⟩ := hA4.cells
  obtain ⟨gb, cb, rfl, hgb1, hgb2⟩ := ho.head (by rw [List.length_map]; omega)
  have x0 := ho.cellOf 0 (by rw [List.length_map]; omega)
  have x1 := ho.cellOf 1 (by rw [List.length_map]; omega)
  rw [List.getElem_map] at x0 x1
  rw [List.length_map, hel] at *
  -- the region
  have hlh : (r.body.length : Int) / 256 < 256 := by omega
  have e01 : r.enc[0]'(by omega) = UInt8.ofNat (r.body.length / 256 ^ 1 % 256) ∧ r.enc[1]'(by omega) = UInt8.ofNat (r.body.length / 256 ^ 0 % 256) := by
    unfold Rc.enc Pk.be Pk.be
    exact ⟨rfl, rfl⟩
  rw [e01.1] at x0
  rw [e01.2] at x1
  have hb0 : B (UInt8.ofNat (r.body.length / 256 ^ 1 % 256)) = .int .u8 ((r.body.length / 256 : Nat) : Int) := by
    unfold B
    rw [UInt8.toNat_ofNat']
    congr 1
    omega
  have hb1 : B (UInt8.ofNat (r.body.length / 256 ^ 0 % 256)) = .int .u8 ((r.body.length % 256 : Nat) : Int) := by
    unfold B
    rw [UInt8.toNat_ofNat']
    congr 1
    omega
  rw [hb0] at x0
  rw [hb1] at x1
  have t2 : decide ((11 + (r.before.length : Int) + (r.after.length : Int) + (r.image.length : Int) + 8 * (r.dirty.length : Int)) ≤ 395) = true := decide_eq_true (by omega)
  have hbl' : ((r.body.length : Nat) : Int) = 11 + (r.before.length : Int) + (r.after.length : Int) + (r.image.length : Int) + 8 * (r.dirty.length : Int) - 2 := by omega
  have hnn : ((11 + r.before.length + r.after.length + r.image.length + 8 * r.dirty.length : Nat) : Int) = 11 + (r.before.length : Int) + (r.after.length : Int) + (r.image.length : Int) + 8 * (r.dirty.length : Int) := by omega
  have hw4 := ((hw1.trans' hk2).trans' hk23).trans' hk4
  go_upto_region 8 with (fail)
  clear hA hA4 hdw hd1 hd hr hrd hri hx0 c0 c1 c2 c3 c4 c5 c6 c7 hbl hel e01 hb0 hb1 hwm hwc hm hc hgb1 hgb2 hs1 hs2 hs3
  generalize 11 + r.before.length + r.after.length + r.image.length + 8 * r.dirty.length = N at *
  generalize 11 + (r.before.length : Int) + (r.after.length : Int) + (r.image.length : Int) + 8 * (r.dirty.length : Int) = NN at *
  subst hnn
  clear ho
  have l0 := World.block_lt_of_cell? w4 _ x0
  have l1 := World.block_lt_of_cell? w4 _ x1
  generalize r.body.length = bl at *
  have t3 := or_i64 ((N : Int) - 2) (by omega)
  refine wp_region_ord' [none, none, none, none, none, none, none, none, none, none, none, some (oV (.int .u8 ((bl / 256 : Nat) : Int))), none, none, none, none, some (oV (.int .u8 ((bl % 256 : Nat) : Int))), none, none, none, none, none, none, none]
    #[0, 0, 0, 0, 0, 0, 0, 0, 0, 0, 0, 0, 0, 0, 0, 0, 0, 0, 0, 0, 0, 0, 0, 0] (w4.heap.size) (fun w' => Keep w4 w') (by kernel_rfl) (by kernel_rfl) (by kernel_rfl) ((Keep.refl w4).drew) ?_
  refine ordT_pure rfl ?_
  go_big_quiet_step (fail)
  refine ordT_on ?_
  refine ordT_pure rfl ?_
  go_big_quiet_step (fail)
  refine ordT_on ?_
  refine ordT_pure rfl ?_
  go_big_quiet_step (fail)
  refine ordT_on ?_
  refine ordT_pure rfl ?_
  go_big_quiet_step (fail)
  refine ordT_on ?_
  refine ordT_pure rfl ?_
  go_big_quiet_step (fail)
  refine ordT_on ?_
  refine ordT_pure rfl ?_
  go_big_quiet_step (fail)
  refine ordT_on ?_
  refine ordT_pure rfl ?_
  go_big_quiet_step (fail)
  refine ordT_on ?_
  refine ordT_pure rfl ?_
  go_big_quiet_step (fail)
  refine ordT_on ?_
  refine ordT_pure rfl ?_
  go_big_quiet_step (fail)
  refine ordT_on ?_
  refine ordT_pure rfl ?_
  go_big_quiet_step (fail)
  refine ordT_on ?_
  refine ordT_pure rfl ?_
  go_big_quiet_step (fail)
  refine ordT_on ?_
  refine ordT_same (by kernel_rfl) (fun w2 hC => ?_) ?_
  · have y0 := (hC.cell l0).trans x0
    go_simp
  simp only [Act.put, List.setIfInBounds_toArray, List.set_cons_zero, List.set_cons_succ]
  refine ordT_pure rfl ?_
  go_big_quiet_step (fail)
  refine ordT_on ?_
  refine ordT_pure rfl ?_
  go_big_quiet_step (fail)
  refine ordT_on ?_
  refine ordT_pure rfl ?_
  go_big_quiet_step (fail)
  refine ordT_on ?_
  refine ordT_pure rfl ?_
  go_big_quiet_step (fail)
  refine ordT_on ?_
  refine ordT_same (by kernel_rfl) (fun w2 hC => ?_) ?_
  · have y1 := (hC.cell l1).trans x1
    go_simp
  simp only [Act.put, List.setIfInBounds_toArray, List.set_cons_zero, List.set_cons_succ]
  refine ordT_pure rfl ?_
  go_big_quiet_step (fail)
  refine ordT_on ?_
  refine ordT_pure rfl ?_
  go_big_quiet_step (fail)
  refine ordT_on ?_
  refine ordT_pure rfl ?_
  go_big_quiet_step (fail)
  refine ordT_on ?_
  refine ordT_pure rfl ?_
  go_big_quiet_step (fail)
  refine ordT_on ?_
  refine ordT_pure rfl ?_
  go_big_quiet_step (fail)
  refine ordT_on ?_
  refine ordT_pure rfl ?_
  go_big_quiet_step (fail)
  refine ordT_on ?_
  refine ordT_pure rfl ?_
  go_big_quiet_step (fail)
  refine ordT_on ?_
  refine ordT_done fun w2 own hC hF => ?_
  clear hF
  go_wp2
  go_ret
  exact ⟨rfl, hw4.trans' hC⟩
end Go.Proofs.Ytlihieefjlpadaa
