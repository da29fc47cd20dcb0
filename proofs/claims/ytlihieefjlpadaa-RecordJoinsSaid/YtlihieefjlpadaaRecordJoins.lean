/- The walk of RecordJoins. -/
import Derived.Test.YtlihieefjlpadaaFill
import Derived.Test.YtlihieefjlpadaaSds
import Derived.Test.YtlihieefjlpadaaSame
import Derived.Test.YtlihieefjlpadaaFit06
namespace Go.Proofs.Ytlihieefjlpadaa
open Go Go.RowKit
attribute [local irreducible] Go.wpQuiet

def joins (l : List Sd) : List UInt8 := l.flatMap fun s => s.rc.enc
theorem joins_take (l : List Sd) (j : Nat) (h : j < l.length) : joins (l.take (j + 1)) = joins (l.take j) ++ (l[j]).rc.enc := by
  unfold joins
  rw [List.take_add_one, List.getElem?_eq_getElem h, List.flatMap_append]
  simp
theorem joins_drop (l : List Sd) (j : Nat) (h : j < l.length) : joins (l.drop j) = (l[j]).rc.enc ++ joins (l.drop (j + 1)) := by
  unfold joins
  rw [List.drop_eq_getElem_cons h, List.flatMap_cons]
theorem enc_bound (r : Rc) (h : r.right = true) : r.enc.length ≤ 395 := by
  have := r.right_iff.1 h
  have := enc_length r
  omega
theorem joins_bound : ∀ (l : List Sd), (joins l).length ≤ 395 * l.length
  | [] => by simp [joins]
  | s :: l => by
    have h1 := joins_bound l
    have h2 := enc_bound s.rc s.right
    unfold joins at *
    rw [List.flatMap_cons, List.length_append, List.length_cons]
    omega
theorem dec_nil : decOut [] = (Rc.zero, 0, false) := rfl

set_option maxRecDepth 100000 in
set_option maxHeartbeats 8000000 in
theorem recordJoins_any (v : Value) (ss : List Sd) (w : World) (hS : SlSd w v ss) (hx : ∀ s ∈ ss, ∀ x ∈ s.d, x < 256 ^ 8) : Calls Try.prog 8 #[v] w fun e w' => e = .returned (.bool true) ∧ Keep w w' := by
  obtain ⟨qa, qc, rfl, hm, hc⟩ := hS.form
  have HX := Lib.hid hx
  clear hx
  go_enter Try.func8, Try.ntmps8
  go_wp2_with fail
  refine (fit_any w).mono ?_
  rintro e w1 ⟨rfl, hk1⟩
  by_cases hl : 20 < ss.length
  · have t1 : decide (20 < (ss.length : Int)) = true := decide_eq_true (by omega)
    clear hl hm hc
    go_wp2
    go_ret
    exact ⟨rfl, hk1⟩
  have t1 : decide (20 < (ss.length : Int)) = false := decide_eq_false (by omega)
  have hl20 : ss.length ≤ 20 := by omega
  clear hl
  have HJB := Lib.hid joins_bound
  go_wp2
  go_loopw [3, 21] (fun b i wr => ∃ j : Nat, j ≤ ss.length ∧ i = .int .i64 j ∧ Own wr w.heap.size 5 b ((joins (ss.take j)).map B) ∧ Keep w wr) (fun _ i _ => ss.length - (intOf i).toNat)
  case atStart => exact ⟨0, Nat.zero_le _, rfl, Own.nil _ _ _, hk1⟩
  case round =>
    obtain ⟨j, hj, rfl, hO, hk⟩ := hrel
    clear hk1
    obtain ⟨ob, on, oc, rfl⟩ := Sl.shape hO.sl
    by_cases hjn : j < ss.length
    rotate_left
    · have hjl : j = ss.length := by omega
      rw [hjl, List.take_length] at hO
      have hjd : ¬ ((j : Int) < (ss.length : Int)) := by omega
      clear hjl hjn
      have hb0 := hO.slB
      clear hO
      go_wp2
      go_loopw [3, 37] (fun b i wr => ∃ j : Nat, j ≤ ss.length ∧ i = .int .i64 j ∧ SlB wr b (joins (ss.drop j)) ∧ Keep w wr) (fun _ i _ => ss.length - (intOf i).toNat)
      case atStart => exact ⟨0, Nat.zero_le _, rfl, by simpa using hb0, hk⟩
      case round =>
        rename_i wr0 _ _ _ _ _ _ _
        obtain ⟨j, hj, rfl, hb, hk⟩ := hrel
        obtain ⟨ob, oc, rfl, hbm, hbc, -⟩ := hb.form
        have hjb := HJB.out (ss.drop j)
        rw [List.length_drop] at hjb
        by_cases hjn : j < ss.length
        rotate_left
        · have hjl : j = ss.length := by omega
          have hnil : joins (ss.drop j) = [] := by rw [hjl, List.drop_length]; rfl
          have hjd : ¬ ((j : Int) < (ss.length : Int)) := by omega
          rw [hnil] at hb ⊢
          clear hjl hjn hjb hbm hbc
          go_upto_region 21 with (fail)
          refine wp_region_seq ?_
          refine seqW_pure rfl ?_
          go_big_quiet_step (fail)
          refine seqW_on ?_
          refine seqW_gives (by kernel_rfl) ?_
          refine Gives.call (by go_simp) (decode_any _ [] wr hb (by simp)) ?_
          rintro e v7 ⟨xv, rfl, hxd, hk7⟩
          rw [dec_nil] at hxd ⊢
          obtain ⟨xa, xc, rfl, -, -, -⟩ := SlU.form hxd
          refine ⟨_, rfl, ?_⟩
          unfold Rc.val
          simp only [Act.put, List.setIfInBounds_toArray, List.set_cons_zero, List.set_cons_succ]
          refine seqW_pure rfl ?_
          go_big_quiet_step (fail)
          refine seqW_on ?_
          refine seqW_pure rfl ?_
          go_big_quiet_step (fail)
          refine seqW_on ?_
          refine seqW_pure rfl ?_
          go_big_quiet_step (fail)
          refine seqW_on ?_
          refine seqW_pure rfl ?_
          go_big_quiet_step (fail)
          refine seqW_on ?_
          refine seqW_gives (by kernel_rfl) ?_
          refine Gives.value (v := .pointer (some ⟨v7.heap.size, 0, none⟩)) (w' := v7.alloc (.cells #[.int .i64 0, .int .i64 0, .int .i64 0, .int .i64 0, .string ⟨[].toArray⟩, .string ⟨[].toArray⟩, .string ⟨[].toArray⟩, .slice none 0 0] 24)) (by go_simp) ?_
          simp only [Act.put, List.setIfInBounds_toArray, List.set_cons_zero, List.set_cons_succ]
          have hx8 := heap_alloc_new v7 (.cells #[.int .i64 0, .int .i64 0, .int .i64 0, .int .i64 0, .string ⟨[].toArray⟩, .string ⟨[].toArray⟩, .string ⟨[].toArray⟩, .slice none 0 0] 24)
          have hk8 := Keep.alloc v7 (.cells #[.int .i64 0, .int .i64 0, .int .i64 0, .int .i64 0, .string ⟨[].toArray⟩, .string ⟨[].toArray⟩, .string ⟨[].toArray⟩, .slice none 0 0] 24)
          generalize hgx : v7.heap.size = gy at *
          have hgx' := Lib.hid hgx
          generalize v7.alloc (.cells #[.int .i64 0, .int .i64 0, .int .i64 0, .int .i64 0, .string ⟨[].toArray⟩, .string ⟨[].toArray⟩, .string ⟨[].toArray⟩, .slice none 0 0] 24) = v8 at *
          obtain ⟨n0, n1, n2, n3, n4, n5, n6, n7⟩ := cells8 hx8
          obtain ⟨z0, z1, z2, z3, z4, z5, z6, z7⟩ := free8 hx8
          refine seqW_gives (by kernel_rfl) ?_
          refine Gives.skip (w' := laidOver v8 gy (.int .i64 Rc.zero.kind) (.int .i64 Rc.zero.txn) (.int .i64 Rc.zero.page) (.int .i64 Rc.zero.slot) (.string ⟨Rc.zero.before.toArray⟩) (.string ⟨Rc.zero.after.toArray⟩) (.string ⟨Rc.zero.image.toArray⟩) ((.slice xa Rc.zero.dirty.length xc))) (by unfold laidOver; go_simp) ?_
          have hX9 : RcAt (laidOver v8 gy (.int .i64 Rc.zero.kind) (.int .i64 Rc.zero.txn) (.int .i64 Rc.zero.page) (.int .i64 Rc.zero.slot) (.string ⟨Rc.zero.before.toArray⟩) (.string ⟨Rc.zero.after.toArray⟩) (.string ⟨Rc.zero.image.toArray⟩) ((.slice xa Rc.zero.dirty.length xc))) gy Rc.zero (.slice xa Rc.zero.dirty.length xc) := laidOver_at hx8 (.int .i64 Rc.zero.kind) (.int .i64 Rc.zero.txn) (.int .i64 Rc.zero.page) (.int .i64 Rc.zero.slot) (.string ⟨Rc.zero.before.toArray⟩) (.string ⟨Rc.zero.after.toArray⟩) (.string ⟨Rc.zero.image.toArray⟩) ((.slice xa Rc.zero.dirty.length xc))
          have hbut := laidOver_but v8 gy (.int .i64 Rc.zero.kind) (.int .i64 Rc.zero.txn) (.int .i64 Rc.zero.page) (.int .i64 Rc.zero.slot) (.string ⟨Rc.zero.before.toArray⟩) (.string ⟨Rc.zero.after.toArray⟩) (.string ⟨Rc.zero.image.toArray⟩) ((.slice xa Rc.zero.dirty.length xc))
          have hk9 : Keep v7 (laidOver v8 gy (.int .i64 Rc.zero.kind) (.int .i64 Rc.zero.txn) (.int .i64 Rc.zero.page) (.int .i64 Rc.zero.slot) (.string ⟨Rc.zero.before.toArray⟩) (.string ⟨Rc.zero.after.toArray⟩) (.string ⟨Rc.zero.image.toArray⟩) ((.slice xa Rc.zero.dirty.length xc))) := hk8.trans (hbut.below (by rw [hgx'.out]; exact Nat.le_refl _) hk8.size)
          clear n0 n1 n2 n3 n4 n5 n6 n7 z0 z1 z2 z3 z4 z5 z6 z7 hgx hk8 hx8 hbut hgx'
          generalize laidOver v8 gy (.int .i64 Rc.zero.kind) (.int .i64 Rc.zero.txn) (.int .i64 Rc.zero.page) (.int .i64 Rc.zero.slot) (.string ⟨Rc.zero.before.toArray⟩) (.string ⟨Rc.zero.after.toArray⟩) (.string ⟨Rc.zero.image.toArray⟩) ((.slice xa Rc.zero.dirty.length xc)) = v9 at *
          simp only [Act.put, List.setIfInBounds_toArray, List.set_cons_zero, List.set_cons_succ]
          refine seqW_pure rfl ?_
          go_big_quiet_step (fail)
          refine seqW_on ?_
          refine seqW_pure rfl ?_
          go_big_quiet_step (fail)
          refine seqW_on ?_
          refine seqW_done ?_
          go_wp2
          go_ret
          exact ⟨rfl, (hk.trans' hk7).trans' hk9⟩
        have hjt := joins_drop ss j hjn
        have hel := hS.keep hk
        obtain ⟨b, off, rfl, dv, hdv, hcell⟩ := hel.elem j hjn
        have hxx := HX.out ss[j] (List.getElem_mem _)
        generalize ss[j] = s at *
        have x0 := hcell 0 _ rfl
        have x1 := hcell 1 _ rfl
        have x2 := hcell 2 _ rfl
        have x3 := hcell 3 _ rfl
        have x4 := hcell 4 _ rfl
        have x5 := hcell 5 _ rfl
        have x6 := hcell 6 _ rfl
        have x7 := hcell 7 _ rfl
        rw [Nat.add_zero] at x0
        obtain ⟨da, dc, rfl, -, -, -⟩ := hdv.form
        have hjl : (j : Int) < (ss.length : Int) := by omega
        clear hcell hel
        have R := Lib.hid (fun w h => seed_at s (.slice da s.d.length dc) w h)
        have hr := s.right
        have hrd := s.dx hxx
        generalize s.rc = r at *
        have heb := enc_bound r hr
        have hdec : decOut (joins (ss.drop j)) = (r, (r.enc.length : Int), true) := by
          unfold decOut
          rw [hjt, dec_enc r hr hrd (joins (ss.drop (j + 1)))]
        have HDEC := Lib.hid hdec
        have D := Lib.hid fun v w h => decode_any v (joins (ss.drop j)) w h (by omega)
        have hcut : (joins (ss.drop j)).drop r.enc.length = joins (ss.drop (j + 1)) := by rw [hjt, List.drop_left]
        have hlen : r.enc.length ≤ (joins (ss.drop j)).length := by rw [hjt, List.length_append]; omega
        have HCUT := Lib.hid hcut
        clear hdec hjt hcut hjb
        generalize joins (ss.drop j) = L at *
        generalize hL' : joins (ss.drop (j + 1)) = L' at *
        have HL' := Lib.hid hL'
        clear hL'
        generalize r.enc.length = K at *
        go_upto_region 16 with (fail)
        have hs6 := heap_alloc_new wr (.cells #[.int .i64 s.k, .int .i64 s.t, .int .i64 s.p, .int .i64 s.s, .int .u8 (s.b.toNat : Int), .int .u8 (s.a.toNat : Int), .int .u8 (s.i.toNat : Int), .slice da s.d.length dc] 28)
        have hk6 := Keep.alloc wr (.cells #[.int .i64 s.k, .int .i64 s.t, .int .i64 s.p, .int .i64 s.s, .int .u8 (s.b.toNat : Int), .int .u8 (s.a.toNat : Int), .int .u8 (s.i.toNat : Int), .slice da s.d.length dc] 28)
        have hkw6 := hk.trans' hk6
        have hdv6 := hdv.keep hk6
        have hb6 := hb.keep hk6
        clear x0 x1 x2 x3 x4 x5 x6 x7 hk hdv hb hk6
        generalize wr.alloc (.cells #[.int .i64 s.k, .int .i64 s.t, .int .i64 s.p, .int .i64 s.s, .int .u8 (s.b.toNat : Int), .int .u8 (s.a.toNat : Int), .int .u8 (s.i.toNat : Int), .slice da s.d.length dc] 28) = v6 at *
        generalize wr.heap.size = gs at *
        refine wp_region_seq ?_
        refine seqW_pure rfl ?_
        go_big_quiet_step (fail)
        refine seqW_on ?_
        refine seqW_gives (by kernel_rfl) ?_
        refine Gives.call (by go_simp) (D.out _ v6 hb6) ?_
        rintro e v7 ⟨xv, rfl, hxd, hk7⟩
        rw [HDEC.out] at hxd ⊢
        obtain ⟨xa, xc, rfl, -, -, -⟩ := SlU.form hxd
        refine ⟨_, rfl, ?_⟩
        unfold Rc.val
        simp only [Act.put, List.setIfInBounds_toArray, List.set_cons_zero, List.set_cons_succ]
        refine seqW_pure rfl ?_
        go_big_quiet_step (fail)
        refine seqW_on ?_
        refine seqW_pure rfl ?_
        go_big_quiet_step (fail)
        refine seqW_on ?_
        refine seqW_pure rfl ?_
        go_big_quiet_step (fail)
        refine seqW_on ?_
        refine seqW_pure rfl ?_
        go_big_quiet_step (fail)
        refine seqW_on ?_
        refine seqW_gives (by kernel_rfl) ?_
        refine Gives.value (v := .pointer (some ⟨v7.heap.size, 0, none⟩)) (w' := v7.alloc (.cells #[.int .i64 0, .int .i64 0, .int .i64 0, .int .i64 0, .string ⟨[].toArray⟩, .string ⟨[].toArray⟩, .string ⟨[].toArray⟩, .slice none 0 0] 24)) (by go_simp) ?_
        simp only [Act.put, List.setIfInBounds_toArray, List.set_cons_zero, List.set_cons_succ]
        have hx8 := heap_alloc_new v7 (.cells #[.int .i64 0, .int .i64 0, .int .i64 0, .int .i64 0, .string ⟨[].toArray⟩, .string ⟨[].toArray⟩, .string ⟨[].toArray⟩, .slice none 0 0] 24)
        have hk8 := Keep.alloc v7 (.cells #[.int .i64 0, .int .i64 0, .int .i64 0, .int .i64 0, .string ⟨[].toArray⟩, .string ⟨[].toArray⟩, .string ⟨[].toArray⟩, .slice none 0 0] 24)
        generalize hgx : v7.heap.size = gy at *
        have hgx' := Lib.hid hgx
        generalize v7.alloc (.cells #[.int .i64 0, .int .i64 0, .int .i64 0, .int .i64 0, .string ⟨[].toArray⟩, .string ⟨[].toArray⟩, .string ⟨[].toArray⟩, .slice none 0 0] 24) = v8 at *
        obtain ⟨n0, n1, n2, n3, n4, n5, n6, n7⟩ := cells8 hx8
        obtain ⟨z0, z1, z2, z3, z4, z5, z6, z7⟩ := free8 hx8
        refine seqW_gives (by kernel_rfl) ?_
        refine Gives.skip (w' := laidOver v8 gy (.int .i64 r.kind) (.int .i64 r.txn) (.int .i64 r.page) (.int .i64 r.slot) (.string ⟨r.before.toArray⟩) (.string ⟨r.after.toArray⟩) (.string ⟨r.image.toArray⟩) ((.slice xa r.dirty.length xc))) (by unfold laidOver; go_simp) ?_
        have hX9 : RcAt (laidOver v8 gy (.int .i64 r.kind) (.int .i64 r.txn) (.int .i64 r.page) (.int .i64 r.slot) (.string ⟨r.before.toArray⟩) (.string ⟨r.after.toArray⟩) (.string ⟨r.image.toArray⟩) ((.slice xa r.dirty.length xc))) gy r (.slice xa r.dirty.length xc) := laidOver_at hx8 (.int .i64 r.kind) (.int .i64 r.txn) (.int .i64 r.page) (.int .i64 r.slot) (.string ⟨r.before.toArray⟩) (.string ⟨r.after.toArray⟩) (.string ⟨r.image.toArray⟩) ((.slice xa r.dirty.length xc))
        have hbut := laidOver_but v8 gy (.int .i64 r.kind) (.int .i64 r.txn) (.int .i64 r.page) (.int .i64 r.slot) (.string ⟨r.before.toArray⟩) (.string ⟨r.after.toArray⟩) (.string ⟨r.image.toArray⟩) ((.slice xa r.dirty.length xc))
        have hk9 : Keep v7 (laidOver v8 gy (.int .i64 r.kind) (.int .i64 r.txn) (.int .i64 r.page) (.int .i64 r.slot) (.string ⟨r.before.toArray⟩) (.string ⟨r.after.toArray⟩) (.string ⟨r.image.toArray⟩) ((.slice xa r.dirty.length xc))) := hk8.trans (hbut.below (by rw [hgx'.out]; exact Nat.le_refl _) hk8.size)
        clear n0 n1 n2 n3 n4 n5 n6 n7 z0 z1 z2 z3 z4 z5 z6 z7 hgx hk8 hx8 hbut hgx'
        generalize laidOver v8 gy (.int .i64 r.kind) (.int .i64 r.txn) (.int .i64 r.page) (.int .i64 r.slot) (.string ⟨r.before.toArray⟩) (.string ⟨r.after.toArray⟩) (.string ⟨r.image.toArray⟩) ((.slice xa r.dirty.length xc)) = v9 at *
        simp only [Act.put, List.setIfInBounds_toArray, List.set_cons_zero, List.set_cons_succ]
        refine seqW_pure rfl ?_
        go_big_quiet_step (fail)
        refine seqW_on ?_
        refine seqW_pure rfl ?_
        go_big_quiet_step (fail)
        refine seqW_on ?_
        refine seqW_done ?_
        have hs9 := (hk9.block _ (Array.getElem?_eq_some_iff.1 ((hk7.block _ (Array.getElem?_eq_some_iff.1 hs6).1).trans hs6)).1).trans ((hk7.block _ (Array.getElem?_eq_some_iff.1 hs6).1).trans hs6)
        have hdv9 := (hdv6.keep hk7).keep hk9
        have hb9 := (hb6.keep hk7).keep hk9
        have hxd9 := SlU.keep hk9 hxd
        have hkw9 := (hkw6.trans' hk7).trans' hk9
        clear hs6 hdv6 hb6 hxd hkw6 hk7 hk9 D HDEC
        go_upto_region 17 with (fail)
        refine wp_region_ord' [none, none, none, some (oV (.agg #[.int .i64 r.kind, .int .i64 r.txn, .int .i64 r.page, .int .i64 r.slot, .string ⟨r.before.toArray⟩, .string ⟨r.after.toArray⟩, .string ⟨r.image.toArray⟩, .slice xa r.dirty.length xc])), some (oV (.agg #[.int .i64 s.k, .int .i64 s.t, .int .i64 s.p, .int .i64 s.s, .int .u8 (s.b.toNat : Int), .int .u8 (s.a.toNat : Int), .int .u8 (s.i.toNat : Int), .slice da s.d.length dc])), some (oRc r), some (oV (.bool true)), none, none]
          #[0, 0, 0, 0, 0, 0, 0, 0, 0] (v9.heap.size) (fun w' => Keep v9 w') (by kernel_rfl) (by kernel_rfl) (by kernel_rfl) ((Keep.refl v9).drew) ?_
        refine ordT_pure rfl ?_
        go_big_quiet_step (fail)
        refine ordT_on ?_
        refine ordT_pure rfl ?_
        go_big_quiet_step (fail)
        refine ordT_on ?_
        refine ordT_pure rfl ?_
        go_big_quiet_step (fail)
        refine ordT_on ?_
        refine ordT_same (by kernel_rfl) (fun w2 hC => ?_) ?_
        · obtain ⟨y0, y1, y2, y3, y4, y5, y6, y7⟩ := (hX9.keep hC).cells
          go_simp
        simp only [Act.put, List.setIfInBounds_toArray, List.set_cons_zero, List.set_cons_succ]
        refine ordT_same (by kernel_rfl) (fun w2 hC => ?_) ?_
        · obtain ⟨y0, y1, y2, y3, y4, y5, y6, y7⟩ := cells8 ((hC.block _ (Array.getElem?_eq_some_iff.1 hs9).1).trans hs9)
          go_simp
        simp only [Act.put, List.setIfInBounds_toArray, List.set_cons_zero, List.set_cons_succ]
        refine ordT_call (by kernel_rfl) keepK (fun w2 own hC hF => ?_) ?_
        · refine ⟨_, _, by first | (go_simp; done) | (go_simp; rfl), (R.out w2 (hdv9.keep hC)).mono ?_⟩
          rintro e w' ⟨dw, rfl, ⟨hin, hs⟩, hk⟩
          obtain ⟨a, c, rfl, -, -, -⟩ := hs.form
          exact ⟨_, rfl, hk, fun S hS => ⟨_, _, _, rfl, hs, fun _ => hin.mono fun b hb => hS b (.inr hb)⟩⟩
        rintro x5 wx5 ownx5 hCx5 hx5
        obtain ⟨ax5, nx5, cx5, rfl, -, -⟩ := hx5
        unfold Rc.val
        simp only [Act.put, List.setIfInBounds_toArray, List.set_cons_zero, List.set_cons_succ]
        refine ordT_callV (by kernel_rfl) keepK (fun w2 own hC hF => ?_) ?_
        · obtain ⟨_, _, _, e5, h5, -⟩ := ((hF 5 rfl).1 rfl)
          unfold Rc.val at e5
          simp only [Value.agg.injEq, Array.mk.injEq, List.cons.injEq, and_true, true_and, Value.slice.injEq] at e5
          obtain ⟨rfl, rfl, rfl⟩ := e5
          have SM := same_any r r (.slice xa r.dirty.length xc) (.slice ax5 nx5 cx5) w2 (hxd9.keep hC) h5
          unfold Rc.val at SM
          refine ⟨_, _, by first | (go_simp; done) | (go_simp; rfl), (SM).mono ?_⟩
          rintro e w' ⟨rfl, hk⟩
          exact ⟨by simp, hk⟩
        simp only [Act.put, List.setIfInBounds_toArray, List.set_cons_zero, List.set_cons_succ]
        refine ordT_pure rfl ?_
        go_big_quiet_step (fail)
        refine ordT_on ?_
        refine ordT_pure rfl ?_
        go_big_quiet_step (fail)
        refine ordT_on ?_
        refine ordT_done fun v10 own hC10 hF => ?_
        clear hF
        have hb10 := hb9.keep hC10
        have hkw10 := hkw9.trans' hC10
        clear hb9 hkw9 hC10 hxd9 hX9 hs9 hdv9
        have hb11 := hb10.from K hlen
        have hKc : K ≤ oc := by omega
        go_upto_region 19 with (fail)
        refine wp_region_seq ?_
        refine seqW_pure rfl ?_
        go_big_quiet_step (fail)
        refine seqW_on ?_
        refine seqW_pure rfl ?_
        go_big_quiet_step (fail)
        refine seqW_on ?_
        refine seqW_gives (by kernel_rfl) ?_
        refine Gives.value (v := sliced ob K L.length oc 1) (w' := v10) (by go_simp) ?_
        rw [HCUT.out] at hb11
        obtain ⟨a1, n1, c1, h4⟩ := hb11.shape
        rw [h4] at hb11 ⊢
        simp only [Act.put, List.setIfInBounds_toArray, List.set_cons_zero, List.set_cons_succ]
        refine seqW_pure rfl ?_
        go_big_quiet_step (fail)
        refine seqW_on ?_
        refine seqW_done ?_
        go_wp2
        go_roundw
        case rel => exact ⟨j + 1, by omega, by go_num, by rw [HL'.out]; exact hb11, hkw10⟩
        case measure => simp [intOf]; omega
    have hjt := joins_take ss j hjn
    have HJT := Lib.hid hjt
    have hjb := HJB.out (ss.take j)
    rw [List.length_take] at hjb
    clear hjt
    have hel := hS.keep hk
    obtain ⟨b, off, rfl, dv, hdv, hcell⟩ := hel.elem j hjn
    have hxx := HX.out ss[j] (List.getElem_mem _)
    generalize ss[j] = s at *
    have x0 := hcell 0 _ rfl
    have x1 := hcell 1 _ rfl
    have x2 := hcell 2 _ rfl
    have x3 := hcell 3 _ rfl
    have x4 := hcell 4 _ rfl
    have x5 := hcell 5 _ rfl
    have x6 := hcell 6 _ rfl
    have x7 := hcell 7 _ rfl
    rw [Nat.add_zero] at x0
    obtain ⟨da, dc, rfl, -, -, -⟩ := hdv.form
    have hjl : (j : Int) < (ss.length : Int) := by omega
    clear hcell hel
    have R := Lib.hid (seed_any s (.slice da s.d.length dc))
    by_cases hl : 100 < s.d.length
    · have t2 : decide (100 < (s.d.length : Int)) = true := decide_eq_true (by omega)
      clear hl
      go_wp2
      go_ret
      exact ⟨rfl, hk.trans' (Keep.alloc _ _)⟩
    have t2 : decide (100 < (s.d.length : Int)) = false := decide_eq_false (by omega)
    have hr := s.right
    have hrd := s.dx hxx
    generalize s.rc = r at *
    have heb := enc_bound r hr
    go_upto_region 11 with (fail)
    have hx9 := heap_alloc_new wr (.cells #[.int .i64 s.k, .int .i64 s.t, .int .i64 s.p, .int .i64 s.s, .int .u8 (s.b.toNat : Int), .int .u8 (s.a.toNat : Int), .int .u8 (s.i.toNat : Int), .slice da s.d.length dc] 28)
    have hk9 := Keep.alloc wr (.cells #[.int .i64 s.k, .int .i64 s.t, .int .i64 s.p, .int .i64 s.s, .int .u8 (s.b.toNat : Int), .int .u8 (s.a.toNat : Int), .int .u8 (s.i.toNat : Int), .slice da s.d.length dc] 28)
    have hO9 := hO.keep hk9
    have hkw9 := hk.trans' hk9
    have hdv9 := hdv.keep hk9
    clear x0 x1 x2 x3 x4 x5 x6 x7 hO hk hdv hl
    generalize wr.alloc (.cells #[.int .i64 s.k, .int .i64 s.t, .int .i64 s.p, .int .i64 s.s, .int .u8 (s.b.toNat : Int), .int .u8 (s.a.toNat : Int), .int .u8 (s.i.toNat : Int), .slice da s.d.length dc] 28) = w9 at *
    generalize wr.heap.size = gs at *
    obtain ⟨x0, x1, x2, x3, x4, x5, x6, x7⟩ := cells8 hx9
    refine wp_region_seq ?_
    refine seqW_pure rfl ?_
    go_big_quiet_step (fail)
    refine seqW_on ?_
    refine seqW_gives (by kernel_rfl) ?_
    refine Gives.value (v := .agg #[.int .i64 s.k, .int .i64 s.t, .int .i64 s.p, .int .i64 s.s, .int .u8 (s.b.toNat : Int), .int .u8 (s.a.toNat : Int), .int .u8 (s.i.toNat : Int), .slice da s.d.length dc]) (w' := w9) (by go_simp) ?_
    simp only [Act.put, List.setIfInBounds_toArray, List.set_cons_zero, List.set_cons_succ]
    refine seqW_gives (by kernel_rfl) ?_
    refine Gives.call (by go_simp) (R.out w9 hdv9) ?_
    rintro e w2 ⟨dw, rfl, hdw, hk2⟩
    obtain ⟨dwa, dwc, rfl, -, -, -⟩ := hdw.form
    have E := Lib.hid (encode_any r (.slice dwa r.dirty.length dwc) w2 (Rc.right.fits hr hrd) hdw)
    unfold Rc.val at *
    refine ⟨_, rfl, ?_⟩
    simp only [Act.put, List.setIfInBounds_toArray, List.set_cons_zero, List.set_cons_succ]
    refine seqW_gives (by kernel_rfl) ?_
    refine Gives.call (by go_simp) E.out ?_
    rintro e w3 ⟨ev, rfl, hev, hk3⟩
    refine ⟨_, rfl, ?_⟩
    obtain ⟨ea, en, ec, rfl⟩ := Sl.shape hev.sl
    simp only [Act.put, List.setIfInBounds_toArray, List.set_cons_zero, List.set_cons_succ]
    refine seqW_gives (by kernel_rfl) ?_
    have hk93 := hk2.trans' hk3
    refine Gives.appendB elemB _ _ rfl rfl rfl (hO9.keep hk93) hev.slB (by omega) (hkw9.trans' hk93).size ?_
    intro v4 w4 hO4 hg4
    have hk4 : Keep w w4 := (hkw9.trans' hk93).trans (Own.below (hO9.keep hk93) hg4 (Nat.le_refl _) (hkw9.trans' hk93).size)
    rw [← HJT.out] at hO4
    obtain ⟨a4, n4, c4, rfl⟩ := Sl.shape hO4.sl
    clear hg4 hev hO9 hdw E R
    simp only [Act.put, List.setIfInBounds_toArray, List.set_cons_zero, List.set_cons_succ]
    refine seqW_pure rfl ?_
    go_big_quiet_step (fail)
    refine seqW_on ?_
    refine seqW_done ?_
    go_wp2
    go_roundw
    case rel => exact ⟨j + 1, by omega, by go_num, hO4, hk4⟩
    case measure => simp [intOf]; omega
end Go.Proofs.Ytlihieefjlpadaa
