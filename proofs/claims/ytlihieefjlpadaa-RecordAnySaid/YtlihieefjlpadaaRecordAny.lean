/- The walk of RecordAny. -/
import Derived.Test.YtlihieefjlpadaaSeed
import Derived.Test.YtlihieefjlpadaaOpenSd
import Derived.Test.YtlihieefjlpadaaFrame
import Derived.Test.YtlihieefjlpadaaFit06
namespace Go.Proofs.Ytlihieefjlpadaa
open Go Go.RowKit
attribute [local irreducible] Go.wpQuiet

theorem and1023 (x : Int) : 0 ≤ Go.bits .and .i64 x 1023 ∧ Go.bits .and .i64 x 1023 ≤ 1023 := by
  have h : (BitVec.ofInt 64 x &&& 1023#64).toNat ≤ 1023 := by
    rw [BitVec.toNat_and]
    exact Nat.and_le_right
  have e : Go.bits .and .i64 x 1023 = ((BitVec.ofInt 64 x &&& 1023#64).toNat : Int) := by
    show IntKind.i64.wrap (((BitVec.ofInt 64 x &&& BitVec.ofInt 64 1023).toNat : Nat) : Int) = _
    rw [show (BitVec.ofInt 64 1023 : BitVec 64) = 1023#64 from rfl, IntKind.wrap_i64]
    omega
  omega
/-- a frame without its last byte begins with none -/
theorem dec_cut (r : Rc) (hr : r.right = true) (hd : ∀ x ∈ r.dirty, x < 256 ^ 8) (N : Nat) (hN : r.enc.length = N + 1) : dec (r.enc.take N) = none := by
  cases h : dec (r.enc.take N) with
  | none => rfl
  | some p =>
    exfalso
    obtain ⟨q, n⟩ := p
    obtain ⟨h1, h2, h3, more, h4⟩ := dec_some h
    have h5 : r = q := enc_apart hr hd h1 h2 (x := []) (y := more ++ r.enc.drop N) (by
      rw [List.append_nil, ← List.append_assoc, ← h4, List.take_append_drop])
    have h6 := congrArg List.length h4
    rw [h5, List.length_append, List.length_take] at h6
    rw [h5] at hN
    omega

set_option maxRecDepth 100000 in
set_option maxHeartbeats 4000000 in
theorem recordAny_any (s : Sd) (at_ : Int) (x : UInt8) (dv : Value) (w : World) (hd : SlU w dv s.d) (hx : ∀ x ∈ s.d, x < 256 ^ 8) : Calls Try.prog 4 #[s.val dv, .int .i64 at_, .int .u8 (x.toNat : Int)] w fun e w' => e = .returned (.bool true) ∧ Keep w w' := by
  have hx0 := heap_alloc_new w (.cells #[.int .i64 s.k, .int .i64 s.t, .int .i64 s.p, .int .i64 s.s, .int .u8 (s.b.toNat : Int), .int .u8 (s.a.toNat : Int), .int .u8 (s.i.toNat : Int), dv] 28)
  have hk0 := Keep.alloc w (.cells #[.int .i64 s.k, .int .i64 s.t, .int .i64 s.p, .int .i64 s.s, .int .u8 (s.b.toNat : Int), .int .u8 (s.a.toNat : Int), .int .u8 (s.i.toNat : Int), dv] 28)
  have R := fun w h => seed_any s dv w h
  have hr := s.right
  have hrd := s.dx hx
  generalize s.rc = r at *
  obtain ⟨da, dc, rfl, hm, hc, -⟩ := hd.form
  replace R := Lib.hid R
  unfold Sd.val at *
  go_enter Try.func4, Try.ntmps4
  go_wp2_with fail
  generalize w.alloc (.cells #[.int .i64 s.k, .int .i64 s.t, .int .i64 s.p, .int .i64 s.s, .int .u8 (s.b.toNat : Int), .int .u8 (s.a.toNat : Int), .int .u8 (s.i.toNat : Int), .slice da s.d.length dc] 28) = w0 at *
  refine (fit_any w0).mono ?_
  rintro e w1 ⟨rfl, hk1⟩
  have hd1 := (hd.keep hk0).keep hk1
  have hw1 := hk0.trans' hk1
  obtain ⟨c0, c1, c2, c3, c4, c5, c6, c7⟩ := cells8 ((hk1.block _ (Array.getElem?_eq_some_iff.1 hx0).1).trans hx0)
  by_cases hl : 100 < s.d.length
  · have t1 : decide (100 < (s.d.length : Int)) = true := decide_eq_true (by omega)
    clear hl hm hc
    go_wp2
    go_ret
    exact ⟨rfl, hw1⟩
  have t1 : decide (100 < (s.d.length : Int)) = false := decide_eq_false (by omega)
  go_wp2_with fail
  -- behind the head
  refine (R.out w1 hd1).mono ?_
  rintro e w2 ⟨dw, rfl, hdw, hk2⟩
  obtain ⟨dwa, dwc, rfl, hwm, hwc, -⟩ := hdw.form
  have hk23 := Keep.alloc w2 (.cells #[.int .i64 r.kind, .int .i64 r.txn, .int .i64 r.page, .int .i64 r.slot, .string ⟨r.before.toArray⟩, .string ⟨r.after.toArray⟩, .string ⟨r.image.toArray⟩, .slice dwa r.dirty.length dwc] 24)
  have E := encode_any r (.slice dwa r.dirty.length dwc) w2 (Rc.right.fits hr hrd) hdw
  unfold Rc.val at *
  go_wp2_with fail
  refine E.mono ?_
  rintro e w4 ⟨v, rfl, ho, hk4⟩
  have hel := enc_length r
  have hri := r.right_iff.1 hr
  have hl395 : r.enc.length ≤ 395 := by omega
  obtain ⟨N, hN⟩ : ∃ N, r.enc.length = N + 1 := ⟨r.enc.length - 1, by omega⟩
  have hcut := dec_cut r hr hrd N hN
  have hdz : decOut (r.enc.take N) = (Rc.zero, 0, false) := by
    unfold decOut
    rw [hcut]
  have HDZ := Lib.hid hdz
  have hN10 : 10 ≤ N := by omega
  have hw4 := (hw1.trans' hk2).trans' hk4
  obtain ⟨gb, cb, rfl, hgb1, hgb2⟩ := ho.head (by rw [List.length_map]; omega)
  rw [List.length_map, hN] at ho ⊢
  have hN394 : N ≤ 394 := by omega
  have hcb : N + 1 ≤ cb := by
    obtain ⟨_, _, e, _, h, _⟩ := ho.slB.form
    simp only [Value.slice.injEq] at e
    omega
  have hgw : w.heap.size ≤ gb := Nat.le_trans (hw1.trans' hk2).size hgb1
  have HN := Lib.hid hN
  have D1 := Lib.hid fun v w h => decode_any v (r.enc.take N) w h (by rw [List.length_take]; omega)
  clear E hr hrd hel hri hcut hdz hk23 hdw hwm hwc hd hd1 hm hc hx hx0 hk1 hk0 R hk2 hk4 hN c0 c1 c2 c3 c4 c5 c6 c7
  generalize r.enc = l at *
  generalize w2.heap.size = base at *
  have t2 : decide ((N : Int) + 1 < 11) = false := decide_eq_false (by omega)
  have hb4 := ho.slB
  go_upto_region 8 with (fail)
  refine wp_region_seq ?_
  refine seqW_pure rfl ?_
  go_big_quiet_step (fail)
  refine seqW_on ?_
  refine seqW_pure rfl ?_
  go_big_quiet_step (fail)
  refine seqW_on ?_
  refine seqW_pure rfl ?_
  go_big_quiet_step (fail)
  refine seqW_on ?_
  refine seqW_pure rfl ?_
  go_big_quiet_step (fail)
  refine seqW_on ?_
  refine seqW_pure rfl ?_
  go_big_quiet_step (fail)
  refine seqW_on ?_
  refine seqW_gives (by kernel_rfl) ?_
  refine Gives.call (by go_simp) (D1.out (.slice (some ⟨gb, 0, none⟩) N cb) w4 (hb4.first N (by omega))) ?_
  rintro e w5 ⟨xv, rfl, hxd, hk5⟩
  rw [HDZ.out] at hxd ⊢
  obtain ⟨xa, xc, rfl, -, -, -⟩ := SlU.form hxd
  refine ⟨_, rfl, ?_⟩
  unfold Rc.val
  simp only [Act.put, List.setIfInBounds_toArray, List.set_cons_zero, List.set_cons_succ]
  refine seqW_pure rfl ?_
  go_big_quiet_step (fail)
  refine seqW_on ?_
  refine seqW_pure rfl ?_
  go_big_quiet_step (fail)
  refine seqW_on ?_
  refine seqW_pure rfl ?_
  go_big_quiet_step (fail)
  refine seqW_on ?_
  refine seqW_pure rfl ?_
  go_big_quiet_step (fail)
  refine seqW_on ?_
  refine seqW_gives (by kernel_rfl) ?_
  refine Gives.value (v := .pointer (some ⟨w5.heap.size, 0, none⟩)) (w' := w5.alloc (.cells #[.int .i64 0, .int .i64 0, .int .i64 0, .int .i64 0, .string ⟨[].toArray⟩, .string ⟨[].toArray⟩, .string ⟨[].toArray⟩, .slice none 0 0] 24)) (by go_simp) ?_
  simp only [Act.put, List.setIfInBounds_toArray, List.set_cons_zero, List.set_cons_succ]
  have hx8 := heap_alloc_new w5 (.cells #[.int .i64 0, .int .i64 0, .int .i64 0, .int .i64 0, .string ⟨[].toArray⟩, .string ⟨[].toArray⟩, .string ⟨[].toArray⟩, .slice none 0 0] 24)
  have hk8 := Keep.alloc w5 (.cells #[.int .i64 0, .int .i64 0, .int .i64 0, .int .i64 0, .string ⟨[].toArray⟩, .string ⟨[].toArray⟩, .string ⟨[].toArray⟩, .slice none 0 0] 24)
  generalize hgx : w5.heap.size = gy at *
  have hgx' := Lib.hid hgx
  generalize w5.alloc (.cells #[.int .i64 0, .int .i64 0, .int .i64 0, .int .i64 0, .string ⟨[].toArray⟩, .string ⟨[].toArray⟩, .string ⟨[].toArray⟩, .slice none 0 0] 24) = w6 at *
  obtain ⟨n0, n1, n2, n3, n4, n5, n6, n7⟩ := cells8 hx8
  obtain ⟨z0, z1, z2, z3, z4, z5, z6, z7⟩ := free8 hx8
  refine seqW_gives (by kernel_rfl) ?_
  refine Gives.skip (w' := laidOver w6 gy (.int .i64 Rc.zero.kind) (.int .i64 Rc.zero.txn) (.int .i64 Rc.zero.page) (.int .i64 Rc.zero.slot) (.string ⟨Rc.zero.before.toArray⟩) (.string ⟨Rc.zero.after.toArray⟩) (.string ⟨Rc.zero.image.toArray⟩) ((.slice xa Rc.zero.dirty.length xc))) (by unfold laidOver; go_simp) ?_
  have hX7 : RcAt (laidOver w6 gy (.int .i64 Rc.zero.kind) (.int .i64 Rc.zero.txn) (.int .i64 Rc.zero.page) (.int .i64 Rc.zero.slot) (.string ⟨Rc.zero.before.toArray⟩) (.string ⟨Rc.zero.after.toArray⟩) (.string ⟨Rc.zero.image.toArray⟩) ((.slice xa Rc.zero.dirty.length xc))) gy Rc.zero (.slice xa Rc.zero.dirty.length xc) := laidOver_at hx8 (.int .i64 Rc.zero.kind) (.int .i64 Rc.zero.txn) (.int .i64 Rc.zero.page) (.int .i64 Rc.zero.slot) (.string ⟨Rc.zero.before.toArray⟩) (.string ⟨Rc.zero.after.toArray⟩) (.string ⟨Rc.zero.image.toArray⟩) ((.slice xa Rc.zero.dirty.length xc))
  have hbut := laidOver_but w6 gy (.int .i64 Rc.zero.kind) (.int .i64 Rc.zero.txn) (.int .i64 Rc.zero.page) (.int .i64 Rc.zero.slot) (.string ⟨Rc.zero.before.toArray⟩) (.string ⟨Rc.zero.after.toArray⟩) (.string ⟨Rc.zero.image.toArray⟩) ((.slice xa Rc.zero.dirty.length xc))
  have hk7 : Keep w5 (laidOver w6 gy (.int .i64 Rc.zero.kind) (.int .i64 Rc.zero.txn) (.int .i64 Rc.zero.page) (.int .i64 Rc.zero.slot) (.string ⟨Rc.zero.before.toArray⟩) (.string ⟨Rc.zero.after.toArray⟩) (.string ⟨Rc.zero.image.toArray⟩) ((.slice xa Rc.zero.dirty.length xc))) := hk8.trans (hbut.below (by rw [hgx'.out]; exact Nat.le_refl _) hk8.size)
  clear n0 n1 n2 n3 n4 n5 n6 n7 z0 z1 z2 z3 z4 z5 z6 z7 hgx hk8 hx8 hbut hgx'
  generalize laidOver w6 gy (.int .i64 Rc.zero.kind) (.int .i64 Rc.zero.txn) (.int .i64 Rc.zero.page) (.int .i64 Rc.zero.slot) (.string ⟨Rc.zero.before.toArray⟩) (.string ⟨Rc.zero.after.toArray⟩) (.string ⟨Rc.zero.image.toArray⟩) ((.slice xa Rc.zero.dirty.length xc)) = w7 at *
  simp only [Act.put, List.setIfInBounds_toArray, List.set_cons_zero, List.set_cons_succ]
  refine seqW_pure rfl ?_
  go_big_quiet_step (fail)
  refine seqW_on ?_
  refine seqW_pure rfl ?_
  go_big_quiet_step (fail)
  refine seqW_on ?_
  refine seqW_done ?_
  have ho7 := (ho.keep hk5).keep hk7
  have hw7 := (hw4.trans' hk5).trans' hk7
  have hgb7 : gb < w7.heap.size := Nat.lt_of_lt_of_le hgb2 (hk5.trans' hk7).size
  clear ho hb4 hxd hk5 hk7 hX7 hw4 hgb2 D1 HDZ
  have ha := and1023 at_
  go_upto_region 9 with (fail)
  refine wp_region_seq ?_
  refine seqW_pure rfl ?_
  go_big_quiet_step (fail)
  refine seqW_on ?_
  refine seqW_pure rfl ?_
  go_big_quiet_step (fail)
  refine seqW_on ?_
  refine seqW_pure rfl ?_
  go_big_quiet_step (fail)
  refine seqW_on ?_
  obtain ⟨k, hk⟩ := Int.eq_ofNat_of_zero_le ha.1
  rw [hk] at ha ⊢
  clear hk
  refine seqW_pure rfl ?_
  go_big_quiet_step (fail)
  refine seqW_on ?_
  refine seqW_pure rfl ?_
  go_big_quiet_step (fail)
  refine seqW_on ?_
  refine seqW_pure rfl ?_
  go_big_quiet_step (fail)
  refine seqW_on ?_
  obtain ⟨j, hj, hjN⟩ : ∃ j : Nat, (k : Int) % ((N : Int) + 1) = (j : Int) ∧ j ≤ N := ⟨k % (N + 1), by rw [Int.natCast_emod, Int.natCast_add]; rfl, by have := Nat.mod_lt k (show 0 < N + 1 by omega); omega⟩
  rw [hj]
  clear hj ha
  have hln : l.length = N + 1 := HN.out
  have x7 := ho7.cellOf j (by rw [List.length_map]; omega)
  have f7 := ho7.freeOf j
  have hjc : (j : Int) < (N : Int) + 1 := by omega
  refine seqW_pure rfl ?_
  go_big_quiet_step (fail)
  refine seqW_on ?_
  refine seqW_pure rfl ?_
  go_big_quiet_step (fail)
  refine seqW_on ?_
  refine seqW_gives (by kernel_rfl) ?_
  refine Gives.skip (w' := w7.setCell ⟨gb, j, none⟩ (.int .u8 (x.toNat : Int))) (by go_simp) ?_
  have ho8 := ho7.stored j (.int .u8 (x.toNat : Int))
  rw [show (List.map B l).set j (.int .u8 (x.toNat : Int)) = List.map B (l.set j x) from List.map_set.symm] at ho8
  have hw8 : Keep w (w7.setCell ⟨gb, j, none⟩ (.int .u8 (x.toNat : Int))) := Below.setCell hw7 hgw _
  have hl8 : (l.set j x).length = N + 1 := by rw [List.length_set]; exact hln
  clear ho7 x7 f7 hw7 hgb7 hjc hjN
  generalize w7.setCell ⟨gb, j, none⟩ (.int .u8 (x.toNat : Int)) = w8 at *
  generalize l.set j x = m at *
  clear HN hln
  simp only [Act.put, List.setIfInBounds_toArray, List.set_cons_zero, List.set_cons_succ]
  refine seqW_done ?_
  have hb8 := ho8.slB
  have D2 := Lib.hid fun v w h => decode_any v m w h (by omega)
  have HL8 := Lib.hid hl8
  go_upto_region 10 with (fail)
  cases hdm : dec m with
  | none =>
    have hdz : decOut m = (Rc.zero, 0, false) := by
      unfold decOut
      rw [hdm]
    have HDZ := Lib.hid hdz
    clear hdz hdm
    refine wp_region_seq ?_
    refine seqW_pure rfl ?_
    go_big_quiet_step (fail)
    refine seqW_on ?_
    refine seqW_gives (by kernel_rfl) ?_
    refine Gives.call (by go_simp) (D2.out _ w8 hb8) ?_
    rintro e w9 ⟨yv, rfl, hyd, hk9⟩
    rw [HDZ.out] at hyd ⊢
    obtain ⟨ya, yc, rfl, -, -, -⟩ := SlU.form hyd
    refine ⟨_, rfl, ?_⟩
    unfold Rc.val
    simp only [Act.put, List.setIfInBounds_toArray, List.set_cons_zero, List.set_cons_succ]
    refine seqW_pure rfl ?_
    go_big_quiet_step (fail)
    refine seqW_on ?_
    refine seqW_pure rfl ?_
    go_big_quiet_step (fail)
    refine seqW_on ?_
    refine seqW_pure rfl ?_
    go_big_quiet_step (fail)
    refine seqW_on ?_
    refine seqW_pure rfl ?_
    go_big_quiet_step (fail)
    refine seqW_on ?_
    refine seqW_gives (by kernel_rfl) ?_
    refine Gives.value (v := .pointer (some ⟨w9.heap.size, 0, none⟩)) (w' := w9.alloc (.cells #[.int .i64 0, .int .i64 0, .int .i64 0, .int .i64 0, .string ⟨[].toArray⟩, .string ⟨[].toArray⟩, .string ⟨[].toArray⟩, .slice none 0 0] 24)) (by go_simp) ?_
    simp only [Act.put, List.setIfInBounds_toArray, List.set_cons_zero, List.set_cons_succ]
    have hx8 := heap_alloc_new w9 (.cells #[.int .i64 0, .int .i64 0, .int .i64 0, .int .i64 0, .string ⟨[].toArray⟩, .string ⟨[].toArray⟩, .string ⟨[].toArray⟩, .slice none 0 0] 24)
    have hk8 := Keep.alloc w9 (.cells #[.int .i64 0, .int .i64 0, .int .i64 0, .int .i64 0, .string ⟨[].toArray⟩, .string ⟨[].toArray⟩, .string ⟨[].toArray⟩, .slice none 0 0] 24)
    generalize hgx : w9.heap.size = gz at *
    have hgx' := Lib.hid hgx
    generalize w9.alloc (.cells #[.int .i64 0, .int .i64 0, .int .i64 0, .int .i64 0, .string ⟨[].toArray⟩, .string ⟨[].toArray⟩, .string ⟨[].toArray⟩, .slice none 0 0] 24) = w10 at *
    obtain ⟨n0, n1, n2, n3, n4, n5, n6, n7⟩ := cells8 hx8
    obtain ⟨z0, z1, z2, z3, z4, z5, z6, z7⟩ := free8 hx8
    refine seqW_gives (by kernel_rfl) ?_
    refine Gives.skip (w' := laidOver w10 gz (.int .i64 Rc.zero.kind) (.int .i64 Rc.zero.txn) (.int .i64 Rc.zero.page) (.int .i64 Rc.zero.slot) (.string ⟨Rc.zero.before.toArray⟩) (.string ⟨Rc.zero.after.toArray⟩) (.string ⟨Rc.zero.image.toArray⟩) ((.slice ya Rc.zero.dirty.length yc))) (by unfold laidOver; go_simp) ?_
    have hX11 : RcAt (laidOver w10 gz (.int .i64 Rc.zero.kind) (.int .i64 Rc.zero.txn) (.int .i64 Rc.zero.page) (.int .i64 Rc.zero.slot) (.string ⟨Rc.zero.before.toArray⟩) (.string ⟨Rc.zero.after.toArray⟩) (.string ⟨Rc.zero.image.toArray⟩) ((.slice ya Rc.zero.dirty.length yc))) gz Rc.zero (.slice ya Rc.zero.dirty.length yc) := laidOver_at hx8 (.int .i64 Rc.zero.kind) (.int .i64 Rc.zero.txn) (.int .i64 Rc.zero.page) (.int .i64 Rc.zero.slot) (.string ⟨Rc.zero.before.toArray⟩) (.string ⟨Rc.zero.after.toArray⟩) (.string ⟨Rc.zero.image.toArray⟩) ((.slice ya Rc.zero.dirty.length yc))
    have hbut := laidOver_but w10 gz (.int .i64 Rc.zero.kind) (.int .i64 Rc.zero.txn) (.int .i64 Rc.zero.page) (.int .i64 Rc.zero.slot) (.string ⟨Rc.zero.before.toArray⟩) (.string ⟨Rc.zero.after.toArray⟩) (.string ⟨Rc.zero.image.toArray⟩) ((.slice ya Rc.zero.dirty.length yc))
    have hk11 : Keep w9 (laidOver w10 gz (.int .i64 Rc.zero.kind) (.int .i64 Rc.zero.txn) (.int .i64 Rc.zero.page) (.int .i64 Rc.zero.slot) (.string ⟨Rc.zero.before.toArray⟩) (.string ⟨Rc.zero.after.toArray⟩) (.string ⟨Rc.zero.image.toArray⟩) ((.slice ya Rc.zero.dirty.length yc))) := hk8.trans (hbut.below (by rw [hgx'.out]; exact Nat.le_refl _) hk8.size)
    clear n0 n1 n2 n3 n4 n5 n6 n7 z0 z1 z2 z3 z4 z5 z6 z7 hgx hk8 hx8 hbut hgx'
    generalize laidOver w10 gz (.int .i64 Rc.zero.kind) (.int .i64 Rc.zero.txn) (.int .i64 Rc.zero.page) (.int .i64 Rc.zero.slot) (.string ⟨Rc.zero.before.toArray⟩) (.string ⟨Rc.zero.after.toArray⟩) (.string ⟨Rc.zero.image.toArray⟩) ((.slice ya Rc.zero.dirty.length yc)) = w11 at *
    simp only [Act.put, List.setIfInBounds_toArray, List.set_cons_zero, List.set_cons_succ]
    refine seqW_pure rfl ?_
    go_big_quiet_step (fail)
    refine seqW_on ?_
    refine seqW_pure rfl ?_
    go_big_quiet_step (fail)
    refine seqW_on ?_
    refine seqW_done ?_
    have hw11 := (hw8.trans' hk9).trans' hk11
    obtain ⟨c0, c1, c2, c3, c4, c5, c6, c7⟩ := hX11.cells
    unfold Rc.zero at c0
    go_wp2
    go_ret
    exact ⟨rfl, hw11⟩
  | some p =>
    obtain ⟨q, n⟩ := p
    obtain ⟨hq, hqd, hqn, more, hm⟩ := dec_some hdm
    have hdz : decOut m = (q, (n : Int), true) := by
      unfold decOut
      rw [hdm]
    have HDZ := Lib.hid hdz
    have hnN : n ≤ N + 1 := by
      rw [← hl8, hqn, hm, List.length_append]
      omega
    have htk : m.take n = q.enc := by rw [hqn, hm, List.take_left]
    have HTK := Lib.hid htk
    have HQ := Lib.hid hq
    have RI := Lib.hid fun v w h => right_law_any q v w h
    have FR := Lib.hid fun v w h => frame_any q v w (Rc.right.fits hq hqd) (Rc.right.body hq) h
    unfold Rc.val at RI FR
    clear hdz hdm hq hqd hqn hm htk
    refine wp_region_seq ?_
    refine seqW_pure rfl ?_
    go_big_quiet_step (fail)
    refine seqW_on ?_
    refine seqW_gives (by kernel_rfl) ?_
    refine Gives.call (by go_simp) (D2.out _ w8 hb8) ?_
    rintro e w9 ⟨yv, rfl, hyd, hk9⟩
    rw [HDZ.out] at hyd ⊢
    obtain ⟨ya, yc, rfl, -, -, -⟩ := SlU.form hyd
    refine ⟨_, rfl, ?_⟩
    unfold Rc.val
    simp only [Act.put, List.setIfInBounds_toArray, List.set_cons_zero, List.set_cons_succ]
    refine seqW_pure rfl ?_
    go_big_quiet_step (fail)
    refine seqW_on ?_
    refine seqW_pure rfl ?_
    go_big_quiet_step (fail)
    refine seqW_on ?_
    refine seqW_pure rfl ?_
    go_big_quiet_step (fail)
    refine seqW_on ?_
    refine seqW_pure rfl ?_
    go_big_quiet_step (fail)
    refine seqW_on ?_
    refine seqW_gives (by kernel_rfl) ?_
    refine Gives.value (v := .pointer (some ⟨w9.heap.size, 0, none⟩)) (w' := w9.alloc (.cells #[.int .i64 0, .int .i64 0, .int .i64 0, .int .i64 0, .string ⟨[].toArray⟩, .string ⟨[].toArray⟩, .string ⟨[].toArray⟩, .slice none 0 0] 24)) (by go_simp) ?_
    simp only [Act.put, List.setIfInBounds_toArray, List.set_cons_zero, List.set_cons_succ]
    have hx8 := heap_alloc_new w9 (.cells #[.int .i64 0, .int .i64 0, .int .i64 0, .int .i64 0, .string ⟨[].toArray⟩, .string ⟨[].toArray⟩, .string ⟨[].toArray⟩, .slice none 0 0] 24)
    have hk8 := Keep.alloc w9 (.cells #[.int .i64 0, .int .i64 0, .int .i64 0, .int .i64 0, .string ⟨[].toArray⟩, .string ⟨[].toArray⟩, .string ⟨[].toArray⟩, .slice none 0 0] 24)
    generalize hgx : w9.heap.size = gz at *
    have hgx' := Lib.hid hgx
    generalize w9.alloc (.cells #[.int .i64 0, .int .i64 0, .int .i64 0, .int .i64 0, .string ⟨[].toArray⟩, .string ⟨[].toArray⟩, .string ⟨[].toArray⟩, .slice none 0 0] 24) = w10 at *
    obtain ⟨n0, n1, n2, n3, n4, n5, n6, n7⟩ := cells8 hx8
    obtain ⟨z0, z1, z2, z3, z4, z5, z6, z7⟩ := free8 hx8
    refine seqW_gives (by kernel_rfl) ?_
    refine Gives.skip (w' := laidOver w10 gz (.int .i64 q.kind) (.int .i64 q.txn) (.int .i64 q.page) (.int .i64 q.slot) (.string ⟨q.before.toArray⟩) (.string ⟨q.after.toArray⟩) (.string ⟨q.image.toArray⟩) ((.slice ya q.dirty.length yc))) (by unfold laidOver; go_simp) ?_
    have hX11 : RcAt (laidOver w10 gz (.int .i64 q.kind) (.int .i64 q.txn) (.int .i64 q.page) (.int .i64 q.slot) (.string ⟨q.before.toArray⟩) (.string ⟨q.after.toArray⟩) (.string ⟨q.image.toArray⟩) ((.slice ya q.dirty.length yc))) gz q (.slice ya q.dirty.length yc) := laidOver_at hx8 (.int .i64 q.kind) (.int .i64 q.txn) (.int .i64 q.page) (.int .i64 q.slot) (.string ⟨q.before.toArray⟩) (.string ⟨q.after.toArray⟩) (.string ⟨q.image.toArray⟩) ((.slice ya q.dirty.length yc))
    have hbut := laidOver_but w10 gz (.int .i64 q.kind) (.int .i64 q.txn) (.int .i64 q.page) (.int .i64 q.slot) (.string ⟨q.before.toArray⟩) (.string ⟨q.after.toArray⟩) (.string ⟨q.image.toArray⟩) ((.slice ya q.dirty.length yc))
    have hk11 : Keep w9 (laidOver w10 gz (.int .i64 q.kind) (.int .i64 q.txn) (.int .i64 q.page) (.int .i64 q.slot) (.string ⟨q.before.toArray⟩) (.string ⟨q.after.toArray⟩) (.string ⟨q.image.toArray⟩) ((.slice ya q.dirty.length yc))) := hk8.trans (hbut.below (by rw [hgx'.out]; exact Nat.le_refl _) hk8.size)
    clear n0 n1 n2 n3 n4 n5 n6 n7 z0 z1 z2 z3 z4 z5 z6 z7 hgx hk8 hx8 hbut hgx'
    generalize laidOver w10 gz (.int .i64 q.kind) (.int .i64 q.txn) (.int .i64 q.page) (.int .i64 q.slot) (.string ⟨q.before.toArray⟩) (.string ⟨q.after.toArray⟩) (.string ⟨q.image.toArray⟩) ((.slice ya q.dirty.length yc)) = w11 at *
    simp only [Act.put, List.setIfInBounds_toArray, List.set_cons_zero, List.set_cons_succ]
    refine seqW_pure rfl ?_
    go_big_quiet_step (fail)
    refine seqW_on ?_
    refine seqW_pure rfl ?_
    go_big_quiet_step (fail)
    refine seqW_on ?_
    refine seqW_done ?_
    have hw11 := (hw8.trans' hk9).trans' hk11
    have hb11 := (hb8.keep hk9).keep hk11
    have hyd11 := SlU.keep hk11 hyd
    have hn1 : (n : Int) ≤ (N : Int) + 1 := by omega
    have hn2 : n ≤ cb := by omega
    have t5 : decide ((n : Int) ≤ (N : Int) + 1) = true := decide_eq_true hn1
    clear ho8 hb8 hyd hk9 hk11 hw8 D2 HDZ hl8
    go_upto_region 15 with (fail)
    refine wp_region_ord' [some (oV (.agg #[.int .i64 q.kind, .int .i64 q.txn, .int .i64 q.page, .int .i64 q.slot, .string ⟨q.before.toArray⟩, .string ⟨q.after.toArray⟩, .string ⟨q.image.toArray⟩, .slice ya q.dirty.length yc])), some (oV (.bool true)), none, none, none, none, none, none, none, some (oV (.agg #[.int .i64 q.kind, .int .i64 q.txn, .int .i64 q.page, .int .i64 q.slot, .string ⟨q.before.toArray⟩, .string ⟨q.after.toArray⟩, .string ⟨q.image.toArray⟩, .slice ya q.dirty.length yc])), some (oB q.enc), some (oV (strV (q.enc))), none, none, none, some (oV (strV (q.enc))), none, none, none]
      #[0, 0, 0, 0, 0, 0, 0, 0, 0, 0, 0, 0, 0, 0, 0, 0, 0, 0, 0] (w11.heap.size) (fun w' => Keep w11 w') (by kernel_rfl) (by kernel_rfl) (by kernel_rfl) ((Keep.refl w11).drew) ?_
    refine ordT_same (by kernel_rfl) (fun w2 hC => ?_) ?_
    · obtain ⟨x0, x1, x2, x3, x4, x5, x6, x7⟩ := (hX11.keep hC).cells
      go_simp
    simp only [Act.put, List.setIfInBounds_toArray, List.set_cons_zero, List.set_cons_succ]
    refine ordT_callV (by kernel_rfl) keepK (fun w2 own hC hF => ?_) ?_
    · refine ⟨_, _, by first | (go_simp; done) | (go_simp; rfl), (RI.out _ w2 (hyd11.keep hC)).mono ?_⟩
      rintro e w' ⟨rfl, hk⟩
      exact ⟨by rw [HQ.out], hk⟩
    simp only [Act.put, List.setIfInBounds_toArray, List.set_cons_zero, List.set_cons_succ]
    refine ordT_pure rfl ?_
    go_big_quiet_step (fail)
    refine ordT_on ?_
    refine ordT_pure rfl ?_
    go_big_quiet_step (fail)
    refine ordT_on ?_
    refine ordT_pure rfl ?_
    go_big_quiet_step (fail)
    refine ordT_on ?_
    refine ordT_pure rfl ?_
    go_big_quiet_step (fail)
    refine ordT_on ?_
    refine ordT_pure rfl ?_
    go_big_quiet_step (fail)
    refine ordT_on ?_
    refine ordT_pure rfl ?_
    go_big_quiet_step (fail)
    refine ordT_on ?_
    refine ordT_pure rfl ?_
    go_big_quiet_step (fail)
    refine ordT_on ?_
    refine ordT_same (by kernel_rfl) (fun w2 hC => ?_) ?_
    · obtain ⟨x0, x1, x2, x3, x4, x5, x6, x7⟩ := (hX11.keep hC).cells
      go_simp
    simp only [Act.put, List.setIfInBounds_toArray, List.set_cons_zero, List.set_cons_succ]
    refine ordT_call (by kernel_rfl) keepK (fun w2 own hC hF => ?_) ?_
    · refine ⟨_, _, by first | (go_simp; done) | (go_simp; rfl), (FR.out _ w2 (hyd11.keep hC)).mono ?_⟩
      rintro e w' ⟨v, rfl, hO, hk⟩
      exact ⟨v, rfl, hk, fun S hS => ⟨hO.sl, fun _ => Own.inOf hO fun g hg => hS g (.inr (World.ownsRow.lt hO g hg).1)⟩⟩
    rintro y6 wy6 owny6 hCy6 hy6
    obtain ⟨ay6, ny6, cy6, rfl⟩ := Sl.shape hy6.1
    simp only [Act.put, List.setIfInBounds_toArray, List.set_cons_zero, List.set_cons_succ]
    refine ordT_str Try.underlying29 Try.underlying5 Try.underlying9 _ rfl (bs := q.enc) (by kernel_rfl) (fun w2 own hC hF => ?_) ?_
    · exact (((hF 10 rfl).1 rfl)).1
    simp only [Act.put, List.setIfInBounds_toArray, List.set_cons_zero, List.set_cons_succ]
    refine ordT_pure rfl ?_
    go_big_quiet_step (fail)
    refine ordT_on ?_
    refine ordT_pure rfl ?_
    go_big_quiet_step (fail)
    refine ordT_on ?_
    refine ordT_pure rfl ?_
    go_big_quiet_step (fail)
    refine ordT_on ?_
    refine ordT_str Try.underlying29 Try.underlying5 Try.underlying9 _ rfl (bs := q.enc) (by kernel_rfl) (fun w2 own hC hF => ?_) ?_
    · have h := (hb11.first n hnN).keep hC
      rw [HTK.out] at h
      exact h
    simp only [Act.put, List.setIfInBounds_toArray, List.set_cons_zero, List.set_cons_succ]
    unfold strV
    refine ordT_pure rfl ?_
    go_big_quiet_step (fail)
    refine ordT_on ?_
    refine ordT_pure rfl ?_
    go_big_quiet_step (fail)
    refine ordT_on ?_
    refine ordT_pure rfl ?_
    go_big_quiet_step (fail)
    refine ordT_on ?_
    refine ordT_done fun w2 own hC hF => ?_
    clear hF
    go_wp2
    go_ret
    exact ⟨rfl, hw11.trans' hC⟩
end Go.Proofs.Ytlihieefjlpadaa
