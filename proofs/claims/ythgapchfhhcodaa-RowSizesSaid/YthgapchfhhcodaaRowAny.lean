/- The walk of RowAny. -/
import Derived.Test.YthgapchfhhcodaaFit04
import Derived.Test.YthgapchfhhcodaaRowL
import Derived.Test.YthgapchfhhcodaaTell
import Derived.Test.YthgapchfhhcodaaCopy
import Derived.Laws.Cover1
namespace Go.Proofs.Ythgapchfhhcodaa
open Go Go.RowKit
attribute [local irreducible] Go.wpQuiet

theorem Rw.dec_cases (l : List UInt8) (h : l.length = 40) : Rw.dec l = (Rw.zero, 9) ∨ (Rw.dec l = (Rw.zero, 5) ∧ l = zB 40) ∨ ∃ y, Rw.dec l = (y, 0) ∧ y.right = true ∧ y.enc = l := by
  unfold Rw.dec
  rw [if_neg (by omega)]
  split
  · exact .inr (.inl ⟨rfl, by assumption⟩)
  · split
    · rename_i h1
      exact .inr (.inr ⟨_, rfl, h1.1, h1.2⟩)
    · exact .inl rfl
/-- a number of a mask -/
theorem and_mask (x : Int) (m : Nat) (hm : m < 9223372036854775808) : ∃ q : Nat, q ≤ m ∧ Go.bits .and .i64 x (m : Int) = (q : Int) := by
  have hm2 : (BitVec.ofInt 64 (m : Int)).toNat = m := by
    rw [BitVec.toNat_ofInt]
    omega
  have h : (BitVec.ofInt 64 x &&& BitVec.ofInt 64 (m : Int)).toNat ≤ m := by
    rw [BitVec.toNat_and, hm2]
    exact Nat.and_le_right
  refine ⟨(BitVec.ofInt 64 x &&& BitVec.ofInt 64 (m : Int)).toNat, h, ?_⟩
  show IntKind.i64.wrap (((BitVec.ofInt 64 x &&& BitVec.ofInt 64 (m : Int)).toNat : Nat) : Int) = _
  rw [IntKind.wrap_i64]
  omega
theorem and_one8 (x : Int) : ∃ c : UInt8, Go.bits .and .u8 x 1 = (c.toNat : Int) := by
  have h : (BitVec.ofInt 8 x &&& 1#8).toNat ≤ 1 := by
    rw [BitVec.toNat_and]
    exact Nat.and_le_right
  refine ⟨UInt8.ofNat (BitVec.ofInt 8 x &&& 1#8).toNat, ?_⟩
  rw [UInt8.toNat_ofNat', Nat.mod_eq_of_lt (by omega)]
  show IntKind.u8.wrap (((BitVec.ofInt 8 x &&& BitVec.ofInt 8 1).toNat : Nat) : Int) = _
  rw [show (BitVec.ofInt 8 1 : BitVec 8) = 1#8 from rfl, IntKind.wrap_u8]
  omega

set_option maxRecDepth 100000 in
set_option maxHeartbeats 2000000 in
theorem rowAny_any (a : Rw) (x0 cut : Int) (x : UInt8) (w : World) (hb : -9223372036854775808 ≤ x0 ∧ x0 ≤ 9223372036854775807) (hc : -9223372036854775808 ≤ cut ∧ cut ≤ 9223372036854775807) :
    Calls Try.prog 4 #[a.val, .agg #[.int .i64 x0, .int .i64 cut], .int .u8 (x.toNat : Int)] w fun e w' => e = .returned (.bool true) ∧ Keep w w' := by
  have hk0 := Keep.alloc w (.cells #[.int .i64 a.t, .string ⟨a.k.toArray⟩, .string ⟨a.v.toArray⟩] 23)
  have hA := RwAt.laid w a
  have L1 := Lib.hid (light_any a)
  have R1 := Lib.hid (right_law_any a)
  have E1 := Lib.hid (encode_any a)
  unfold Rw.val strV at *
  go_enter Try.func4, Try.ntmps4
  go_wp2_with fail
  have hsz : (w.alloc (.cells #[.int .i64 a.t, .string ⟨a.k.toArray⟩, .string ⟨a.v.toArray⟩] 23)).heap.size = w.heap.size + 1 := by simp
  generalize w.alloc (.cells #[.int .i64 a.t, .string ⟨a.k.toArray⟩, .string ⟨a.v.toArray⟩] 23) = w9 at *
  have d0 : (w9.alloc (.cells #[.int .i64 x0, .int .i64 cut] 31)).cell? ⟨w.heap.size + 1, 0, none⟩ = some (.int .i64 x0) := by rw [← hsz, cell_of_row _ _ _ _ _ _ (heap_alloc_new _ _)]; rfl
  have d1 : (w9.alloc (.cells #[.int .i64 x0, .int .i64 cut] 31)).cell? ⟨w.heap.size + 1, 1, none⟩ = some (.int .i64 cut) := by rw [← hsz, cell_of_row _ _ _ _ _ _ (heap_alloc_new _ _)]; rfl
  clear hsz
  have hk9 := Keep.alloc w9 (.cells #[.int .i64 x0, .int .i64 cut] 31)
  have hA := hA.keep hk9
  have hk0 := hk0.trans' hk9
  generalize w9.alloc (.cells #[.int .i64 x0, .int .i64 cut] 31) = w0 at *
  clear hk9
  refine (fit_any w0).mono ?_
  rintro e w1 ⟨rfl, hk1'⟩
  obtain ⟨a0, a1, a2⟩ := hA.keep hk1'
  go_wp2_with fail
  refine (L1.out w1).mono ?_
  rintro e w2 ⟨⟨bx, rfl⟩, hk⟩
  have hk2' := hk1'.trans' hk
  clear hk a0 a1 a2
  obtain ⟨a0, a1, a2⟩ := hA.keep hk2'
  cases bx
  · go_wp2
    go_ret
    exact ⟨rfl, hk0.trans' hk2'⟩
  go_wp2_with fail
  refine (R1.out w2).mono ?_
  rintro e w3 ⟨rfl, hk⟩
  have hk3' := hk2'.trans' hk
  clear hk a0 a1 a2
  obtain ⟨a0, a1, a2⟩ := hA.keep hk3'
  cases hra : a.right
  · go_wp2
    go_ret
    exact ⟨rfl, hk0.trans' hk3'⟩
  go_wp2_with fail
  refine (E1.out hra w3).mono ?_
  clear E1 L1 R1
  rintro e w4 ⟨v, rfl, hO, hk⟩
  have hk4 := hk3'.trans' hk
  have HL := Lib.hid (enc_length a hra)
  generalize a.enc = l at *
  obtain ⟨g, cap, rfl, hg, hg2⟩ := hO.head (by rw [List.length_map, HL.out]; omega)
  have hlen : (l.map B).length = 40 := by rw [List.length_map]; exact HL.out
  rw [hlen] at *
  have e0 := (hk4.cell (World.block_lt_of_cell? w0 _ d0)).trans d0
  have e1 := (hk4.cell (World.block_lt_of_cell? w0 _ d1)).trans d1
  have hkk3 := hk0.trans' hk3'
  clear hlen a0 a1 a2 hk hk1' hk2' hk3' d0 d1
  go_wp2_with fail
  obtain ⟨j, hj, tj⟩ := and_mask x0 31 (by decide)
  obtain ⟨q, hq, tq⟩ := and_mask cut 31 (by decide)
  obtain ⟨c, tc⟩ := and_one8 (cut % 256)
  have tj : Go.bits .and .i64 x0 31 = (j : Int) := tj
  have tq : Go.bits .and .i64 cut 31 = (q : Int) := tq
  go_region
  have hk5 : Keep w4 w4.drew := (Keep.refl w4).drew
  have hkk : Keep w w4.drew := (hk0.trans' hk4).trans' hk5
  have hO5 := hO.keep hk5
  have hgw : w.heap.size ≤ g := by have := hk0.size; have := hk4.size; have := hkk3.size; omega
  rw [List.length_map, HL.out] at hO5
  generalize w4.drew = w5 at *
  have hOs : ∀ (w : World) (l : List UInt8) (j : Nat) (x : UInt8), l.length = 40 → Own w w3.heap.size 5 (.slice (some ⟨g, 0, none⟩) 40 cap) (l.map B) → Own (w.setCell ⟨g, j, none⟩ (.int .u8 (x.toNat : Int))) w3.heap.size 5 (.slice (some ⟨g, 0, none⟩) 40 cap) ((l.set j x).map B) := by
    intro w l j x hl h
    have := h.stored j (B x)
    rw [← List.map_set] at this
    exact this
  have cj := hO5.cellOf j (by rw [List.length_map, HL.out]; omega)
  have fj := hO5.freeOf j
  clear hO hk4 hk5 e0 e1 hA
  go_upto_region 10 with (fail)
  have hk6 : Keep w (w5.setCell ⟨g, j, none⟩ (.int .u8 (x.toNat : Int))) := Keep.setCell hkk hgw _
  have hO6 := hOs w5 l j x HL.out hO5
  have HL1 : Hid ((l.set j x).length = 40) := Lib.hid (by rw [List.length_set]; exact HL.out)
  generalize w5.setCell ⟨g, j, none⟩ (.int .u8 (x.toNat : Int)) = w6 at *
  generalize l.set j x = l1 at *
  clear cj fj hO5 hkk HL
  have cj := hO6.cellOf 39 (by rw [List.length_map, HL1.out]; omega)
  have fj := hO6.freeOf 39
  go_upto_region 11 with (fail)
  have hk7 : Keep w (w6.setCell ⟨g, 39, none⟩ (.int .u8 (c.toNat : Int))) := Keep.setCell hk6 hgw _
  have hO7 := hOs w6 l1 39 c HL1.out hO6
  have HL2 : Hid ((l1.set 39 c).length = 40) := Lib.hid (by rw [List.length_set]; exact HL1.out)
  generalize w6.setCell ⟨g, 39, none⟩ (.int .u8 (c.toNat : Int)) = w7 at *
  generalize l1.set 39 c = l2 at *
  clear cj fj hO6 hk6 HL1 hOs
  have hS := hO7.slB
  have hcap : 40 ≤ cap := by
    obtain ⟨_, _, _, h1, h, _⟩ := Own.row hO7
    exact h
  clear hO7
  go_wp2_with fail
  refine (decode_any _ l2 w7 hS).mono ?_
  rintro e w8 ⟨rfl, hk8⟩
  obtain ⟨y, ey, HD⟩ : ∃ y ey, Hid (Rw.dec l2 = (y, ey)) := ⟨_, _, Lib.hid rfl⟩
  rw [HD.out]
  have hkw8 := hk7.trans' hk8
  unfold Rw.val strV
  go_upto_region 12 with (fail)
  have hY := RwAt.laid w8 y
  have hk89 := Keep.alloc w8 (.cells #[.int .i64 y.t, .string ⟨y.k.toArray⟩, .string ⟨y.v.toArray⟩] 23)
  obtain ⟨gy, hgy⟩ : ∃ gy, Hid (gy = w8.heap.size) := ⟨_, Lib.hid rfl⟩
  rw [← hgy.out] at hY
  rw [← hgy.out]
  clear hgy
  have hkw9 := hkw8.trans' hk89
  have hS9 := (hS.keep hk8).keep hk89
  generalize w8.alloc (.cells #[.int .i64 y.t, .string ⟨y.k.toArray⟩, .string ⟨y.v.toArray⟩] 23) = w9 at *
  clear hk8 hk89 hkw8 hk7 hS
  go_wp2_with fail
  have hT : SlB w9 (.slice (some ⟨g, 0, none⟩) q cap) (l2.take q) := by
    have := hS9.upto q (by omega)
    simpa [sliced, show ¬ cap = 0 by omega, Addr.add] using this
  refine (decode_any _ _ w9 hT).mono ?_
  rintro e w10 ⟨rfl, hk10⟩
  rw [show Rw.dec (l2.take q) = (Rw.zero, 9) by unfold Rw.dec; rw [if_pos (by rw [List.length_take, HL2.out]; omega)]]
  unfold Rw.zero Rw.val strV
  go_upto_region 13 with (fail)
  have hk11 := hk10.trans' (Keep.alloc w10 (.cells #[.int .i64 0, .string ⟨[].toArray⟩, .string ⟨[].toArray⟩] 23))
  have hw11 := hkw9.trans' hk11
  have hY1 := hY.keep hk11
  have hS11 := hS9.keep hk11
  clear hY hS9 hT hk10 hk11 hkw9
  generalize w10.heap.size = gz at *
  generalize w10.alloc (.cells #[.int .i64 0, .string ⟨[].toArray⟩, .string ⟨[].toArray⟩] 23) = w11 at *
  obtain ⟨u0, u1, u2⟩ := hY1
  have lu0 := World.block_lt_of_cell? w11 _ u0
  have lu1 := World.block_lt_of_cell? w11 _ u1
  have lu2 := World.block_lt_of_cell? w11 _ u2
  rcases Rw.dec_cases l2 HL2.out with hd | ⟨hd, hz⟩ | ⟨y', hd, hr, he⟩
  · rw [HD.out, Prod.mk.injEq] at hd
    obtain ⟨rfl, rfl⟩ := hd
    clear HD
    simp only [Rw.zero] at u0 u1 u2
    refine wp_region_ord' [none, none, none, none, none, none, some (oV (.agg #[.int .i64 0, .string ⟨#[]⟩, .string ⟨#[]⟩])), none, none, none, none, none, none, none, none, none, none, none, none, none, none, none, none, none, none, none, none, none, none, none, none, none, none, none, none, none, none, none, none]
      #[0, 0, 0, 0, 0, 0, 0, 0, 0, 0, 0, 0, 0, 0, 0, 0, 0, 0, 0, 0, 0, 0, 0, 0, 0, 0, 0, 0, 0, 0, 0, 0, 0, 0, 0, 0, 0, 0, 0] (w11.heap.size) (fun w' => Keep w11 w') (by kernel_rfl) (by kernel_rfl) (by kernel_rfl) ((Keep.refl w11).drew) ?_
    refine ordT_pure rfl ?_
    go_big_quiet_step (fail)
    refine ordT_on ?_
    refine ordT_pure rfl ?_
    go_big_quiet_step (fail)
    refine ordT_on ?_
    refine ordT_pure rfl ?_
    go_big_quiet_step (fail)
    refine ordT_on ?_
    refine ordT_pure rfl ?_
    go_big_quiet_step (fail)
    refine ordT_on ?_
    refine ordT_pure rfl ?_
    go_big_quiet_step (fail)
    refine ordT_on ?_
    refine ordT_pure rfl ?_
    go_big_quiet_step (fail)
    refine ordT_on ?_
    refine ordT_same (by kernel_rfl) (fun w2 hC => ?_) ?_
    · have x0 := (hC.cell lu0).trans u0
      have x1 := (hC.cell lu1).trans u1
      have x2 := (hC.cell lu2).trans u2
      go_simp
    simp only [Act.put, List.setIfInBounds_toArray, List.set_cons_zero, List.set_cons_succ]
    refine ordT_pure rfl ?_
    go_big_quiet_step (fail)
    refine ordT_on ?_
    refine ordT_pure rfl ?_
    go_big_quiet_step (fail)
    refine ordT_on ?_
    refine ordT_pure rfl ?_
    go_big_quiet_step (fail)
    refine ordT_on ?_
    refine ordT_pure rfl ?_
    go_big_quiet_step (fail)
    refine ordT_on ?_
    refine ordT_skip (by kernel_rfl) ?_
    simp only [Act.put, List.setIfInBounds_toArray, List.set_cons_zero, List.set_cons_succ]
    refine ordT_skip (by kernel_rfl) ?_
    simp only [Act.put, List.setIfInBounds_toArray, List.set_cons_zero, List.set_cons_succ]
    refine ordT_skip (by kernel_rfl) ?_
    simp only [Act.put, List.setIfInBounds_toArray, List.set_cons_zero, List.set_cons_succ]
    refine ordT_skip (by kernel_rfl) ?_
    simp only [Act.put, List.setIfInBounds_toArray, List.set_cons_zero, List.set_cons_succ]
    refine ordT_skip (by kernel_rfl) ?_
    simp only [Act.put, List.setIfInBounds_toArray, List.set_cons_zero, List.set_cons_succ]
    refine ordT_skip (by kernel_rfl) ?_
    simp only [Act.put, List.setIfInBounds_toArray, List.set_cons_zero, List.set_cons_succ]
    refine ordT_skip (by kernel_rfl) ?_
    simp only [Act.put, List.setIfInBounds_toArray, List.set_cons_zero, List.set_cons_succ]
    refine ordT_skip (by kernel_rfl) ?_
    simp only [Act.put, List.setIfInBounds_toArray, List.set_cons_zero, List.set_cons_succ]
    refine ordT_skip (by kernel_rfl) ?_
    simp only [Act.put, List.setIfInBounds_toArray, List.set_cons_zero, List.set_cons_succ]
    refine ordT_skip (by kernel_rfl) ?_
    simp only [Act.put, List.setIfInBounds_toArray, List.set_cons_zero, List.set_cons_succ]
    refine ordT_skip (by kernel_rfl) ?_
    simp only [Act.put, List.setIfInBounds_toArray, List.set_cons_zero, List.set_cons_succ]
    refine ordT_skip (by kernel_rfl) ?_
    simp only [Act.put, List.setIfInBounds_toArray, List.set_cons_zero, List.set_cons_succ]
    refine ordT_skip (by kernel_rfl) ?_
    simp only [Act.put, List.setIfInBounds_toArray, List.set_cons_zero, List.set_cons_succ]
    refine ordT_skip (by kernel_rfl) ?_
    simp only [Act.put, List.setIfInBounds_toArray, List.set_cons_zero, List.set_cons_succ]
    refine ordT_pure rfl ?_
    go_big_quiet_step (fail)
    refine ordT_on ?_
    refine ordT_pure rfl ?_
    go_big_quiet_step (fail)
    refine ordT_on ?_
    refine ordT_skip (by kernel_rfl) ?_
    simp only [Act.put, List.setIfInBounds_toArray, List.set_cons_zero, List.set_cons_succ]
    refine ordT_skip (by kernel_rfl) ?_
    simp only [Act.put, List.setIfInBounds_toArray, List.set_cons_zero, List.set_cons_succ]
    refine ordT_skip (by kernel_rfl) ?_
    simp only [Act.put, List.setIfInBounds_toArray, List.set_cons_zero, List.set_cons_succ]
    refine ordT_skip (by kernel_rfl) ?_
    simp only [Act.put, List.setIfInBounds_toArray, List.set_cons_zero, List.set_cons_succ]
    refine ordT_skip (by kernel_rfl) ?_
    simp only [Act.put, List.setIfInBounds_toArray, List.set_cons_zero, List.set_cons_succ]
    refine ordT_skip (by kernel_rfl) ?_
    simp only [Act.put, List.setIfInBounds_toArray, List.set_cons_zero, List.set_cons_succ]
    refine ordT_skip (by kernel_rfl) ?_
    simp only [Act.put, List.setIfInBounds_toArray, List.set_cons_zero, List.set_cons_succ]
    refine ordT_skip (by kernel_rfl) ?_
    simp only [Act.put, List.setIfInBounds_toArray, List.set_cons_zero, List.set_cons_succ]
    refine ordT_skip (by kernel_rfl) ?_
    simp only [Act.put, List.setIfInBounds_toArray, List.set_cons_zero, List.set_cons_succ]
    refine ordT_pure rfl ?_
    go_big_quiet_step (fail)
    refine ordT_on ?_
    refine ordT_pure rfl ?_
    go_big_quiet_step (fail)
    refine ordT_on ?_
    refine ordT_pure rfl ?_
    go_big_quiet_step (fail)
    refine ordT_on ?_
    refine ordT_done fun w2 own hC hF => ?_
    clear hF
    go_wp2
    go_ret
    exact ⟨rfl, hw11.trans' hC⟩
  · rw [HD.out, Prod.mk.injEq] at hd
    obtain ⟨rfl, rfl⟩ := hd
    clear HD
    simp only [Rw.zero] at u0 u1 u2
    subst hz
    refine wp_region_ord' [none, none, none, none, none, none, none, none, none, none, none, none, none, none, none, none, none, none, none, none, none, none, none, none, none, none, none, none, none, none, none, some (oV (strV (zB 40))), some (oB (zB 40)), some (oV (strV (zB 40))), none, none, none, none, none]
      #[0, 0, 0, 0, 0, 0, 0, 0, 0, 0, 0, 0, 0, 0, 0, 0, 0, 0, 0, 0, 0, 0, 0, 0, 0, 0, 0, 0, 0, 0, 0, 0, 0, 0, 0, 0, 0, 0, 0] (w11.heap.size) (fun w' => Keep w11 w') (by kernel_rfl) (by kernel_rfl) (by kernel_rfl) ((Keep.refl w11).drew) ?_
    refine ordT_pure rfl ?_
    go_big_quiet_step (fail)
    refine ordT_on ?_
    refine ordT_pure rfl ?_
    go_big_quiet_step (fail)
    refine ordT_on ?_
    refine ordT_pure rfl ?_
    go_big_quiet_step (fail)
    refine ordT_on ?_
    refine ordT_pure rfl ?_
    go_big_quiet_step (fail)
    refine ordT_on ?_
    refine ordT_pure rfl ?_
    go_big_quiet_step (fail)
    refine ordT_on ?_
    refine ordT_pure rfl ?_
    go_big_quiet_step (fail)
    refine ordT_on ?_
    refine ordT_skip (by kernel_rfl) ?_
    simp only [Act.put, List.setIfInBounds_toArray, List.set_cons_zero, List.set_cons_succ]
    refine ordT_skip (by kernel_rfl) ?_
    simp only [Act.put, List.setIfInBounds_toArray, List.set_cons_zero, List.set_cons_succ]
    refine ordT_skip (by kernel_rfl) ?_
    simp only [Act.put, List.setIfInBounds_toArray, List.set_cons_zero, List.set_cons_succ]
    refine ordT_pure rfl ?_
    go_big_quiet_step (fail)
    refine ordT_on ?_
    refine ordT_pure rfl ?_
    go_big_quiet_step (fail)
    refine ordT_on ?_
    refine ordT_pure rfl ?_
    go_big_quiet_step (fail)
    refine ordT_on ?_
    refine ordT_pure rfl ?_
    go_big_quiet_step (fail)
    refine ordT_on ?_
    refine ordT_pure rfl ?_
    go_big_quiet_step (fail)
    refine ordT_on ?_
    refine ordT_skip (by kernel_rfl) ?_
    simp only [Act.put, List.setIfInBounds_toArray, List.set_cons_zero, List.set_cons_succ]
    refine ordT_skip (by kernel_rfl) ?_
    simp only [Act.put, List.setIfInBounds_toArray, List.set_cons_zero, List.set_cons_succ]
    refine ordT_pure rfl ?_
    go_big_quiet_step (fail)
    refine ordT_on ?_
    refine ordT_pure rfl ?_
    go_big_quiet_step (fail)
    refine ordT_on ?_
    refine ordT_skip (by kernel_rfl) ?_
    simp only [Act.put, List.setIfInBounds_toArray, List.set_cons_zero, List.set_cons_succ]
    refine ordT_skip (by kernel_rfl) ?_
    simp only [Act.put, List.setIfInBounds_toArray, List.set_cons_zero, List.set_cons_succ]
    refine ordT_skip (by kernel_rfl) ?_
    simp only [Act.put, List.setIfInBounds_toArray, List.set_cons_zero, List.set_cons_succ]
    refine ordT_skip (by kernel_rfl) ?_
    simp only [Act.put, List.setIfInBounds_toArray, List.set_cons_zero, List.set_cons_succ]
    refine ordT_skip (by kernel_rfl) ?_
    simp only [Act.put, List.setIfInBounds_toArray, List.set_cons_zero, List.set_cons_succ]
    refine ordT_skip (by kernel_rfl) ?_
    simp only [Act.put, List.setIfInBounds_toArray, List.set_cons_zero, List.set_cons_succ]
    refine ordT_pure rfl ?_
    go_big_quiet_step (fail)
    refine ordT_on ?_
    refine ordT_pure rfl ?_
    go_big_quiet_step (fail)
    refine ordT_on ?_
    refine ordT_pure rfl ?_
    go_big_quiet_step (fail)
    refine ordT_on ?_
    refine ordT_pure rfl ?_
    go_big_quiet_step (fail)
    refine ordT_on ?_
    refine ordT_pure rfl ?_
    go_big_quiet_step (fail)
    refine ordT_on ?_
    refine ordT_pure rfl ?_
    go_big_quiet_step (fail)
    refine ordT_on ?_
    refine ordT_pure rfl ?_
    go_big_quiet_step (fail)
    refine ordT_on ?_
    refine ordT_str Try.underlying26 Try.underlying5 Try.underlying9 _ rfl (bs := zB 40) (by kernel_rfl) (fun w2 own hC hF => ?_) ?_
    · exact hS11.keep hC
    simp only [Act.put, List.setIfInBounds_toArray, List.set_cons_zero, List.set_cons_succ]
    refine ordT_laid (fun w2 => .slice (some ⟨w2.heap.size, 0, none⟩) 40 40) (.cells ((zB 40).map B).toArray 5) (by kernel_rfl) keepK (fun w2 hC => ?_) (fun w2 own hC hF S hS => ?_) ?_
    · have hmk : (Instr.makeSlice 26 (.int .i64 40) (.int .i64 40)).run Try.prog w2 = .ok (.slice (some ⟨w2.heap.size, 0, none⟩) 40 40) (w2.alloc (.cells ((zB 40).map B).toArray 5)) := run_makeB (P := Try.prog) elemB w2 40 (by omega)
      go_simp
    · exact ⟨(Own.made w2 _ 0 40 (Nat.zero_le _) (by omega)).sl, in_new hS⟩
    rintro x32 wx32 ownx32 - hx32
    obtain ⟨ax32, nx32, cx32, rfl⟩ := Sl.shape hx32.1
    simp only [Act.put, List.setIfInBounds_toArray, List.set_cons_zero, List.set_cons_succ]
    refine ordT_str Try.underlying26 Try.underlying5 Try.underlying9 _ rfl (bs := zB 40) (by kernel_rfl) (fun w2 own hC hF => ?_) ?_
    · exact (((hF 32 rfl).1 rfl)).1
    simp only [Act.put, List.setIfInBounds_toArray, List.set_cons_zero, List.set_cons_succ]
    unfold strV
    refine ordT_pure rfl ?_
    go_big_quiet_step (fail)
    refine ordT_on ?_
    refine ordT_pure rfl ?_
    go_big_quiet_step (fail)
    refine ordT_on ?_
    refine ordT_pure rfl ?_
    go_big_quiet_step (fail)
    refine ordT_on ?_
    refine ordT_pure rfl ?_
    go_big_quiet_step (fail)
    refine ordT_on ?_
    refine ordT_pure rfl ?_
    go_big_quiet_step (fail)
    refine ordT_on ?_
    refine ordT_done fun w2 own hC hF => ?_
    clear hF
    go_wp2
    go_ret
    exact ⟨rfl, hw11.trans' hC⟩
  · rw [HD.out, Prod.mk.injEq] at hd
    obtain ⟨rfl, rfl⟩ := hd
    clear HD
    have R2 := Lib.hid (right_law_any y)
    have E2 := Lib.hid (encode_any y hr)
    rw [hr] at R2
    rw [← he] at hS11
    clear he
    unfold Rw.val strV at R2 E2
    refine wp_region_ord' [none, none, none, none, none, none, none, none, none, none, none, none, none, none, some (oV (.agg #[.int .i64 y.t, .string ⟨y.k.toArray⟩, .string ⟨y.v.toArray⟩])), some (oV (.bool true)), none, none, some (oV (.agg #[.int .i64 y.t, .string ⟨y.k.toArray⟩, .string ⟨y.v.toArray⟩])), some (oB y.enc), some (oV (strV (y.enc))), none, some (oV (strV (y.enc))), none, none, none, none, none, none, none, none, none, none, none, none, none, none, none, none]
      #[0, 0, 0, 0, 0, 0, 0, 0, 0, 0, 0, 0, 0, 0, 0, 0, 0, 0, 0, 0, 0, 0, 0, 0, 0, 0, 0, 0, 0, 0, 0, 0, 0, 0, 0, 0, 0, 0, 0] (w11.heap.size) (fun w' => Keep w11 w') (by kernel_rfl) (by kernel_rfl) (by kernel_rfl) ((Keep.refl w11).drew) ?_
    refine ordT_pure rfl ?_
    go_big_quiet_step (fail)
    refine ordT_on ?_
    refine ordT_pure rfl ?_
    go_big_quiet_step (fail)
    refine ordT_on ?_
    refine ordT_pure rfl ?_
    go_big_quiet_step (fail)
    refine ordT_on ?_
    refine ordT_pure rfl ?_
    go_big_quiet_step (fail)
    refine ordT_on ?_
    refine ordT_pure rfl ?_
    go_big_quiet_step (fail)
    refine ordT_on ?_
    refine ordT_pure rfl ?_
    go_big_quiet_step (fail)
    refine ordT_on ?_
    refine ordT_skip (by kernel_rfl) ?_
    simp only [Act.put, List.setIfInBounds_toArray, List.set_cons_zero, List.set_cons_succ]
    refine ordT_skip (by kernel_rfl) ?_
    simp only [Act.put, List.setIfInBounds_toArray, List.set_cons_zero, List.set_cons_succ]
    refine ordT_skip (by kernel_rfl) ?_
    simp only [Act.put, List.setIfInBounds_toArray, List.set_cons_zero, List.set_cons_succ]
    refine ordT_pure rfl ?_
    go_big_quiet_step (fail)
    refine ordT_on ?_
    refine ordT_pure rfl ?_
    go_big_quiet_step (fail)
    refine ordT_on ?_
    refine ordT_pure rfl ?_
    go_big_quiet_step (fail)
    refine ordT_on ?_
    refine ordT_pure rfl ?_
    go_big_quiet_step (fail)
    refine ordT_on ?_
    refine ordT_pure rfl ?_
    go_big_quiet_step (fail)
    refine ordT_on ?_
    refine ordT_same (by kernel_rfl) (fun w2 hC => ?_) ?_
    · have x0 := (hC.cell lu0).trans u0
      have x1 := (hC.cell lu1).trans u1
      have x2 := (hC.cell lu2).trans u2
      go_simp
    simp only [Act.put, List.setIfInBounds_toArray, List.set_cons_zero, List.set_cons_succ]
    refine ordT_callV (by kernel_rfl) keepK (fun w2 own hC hF => ?_) ?_
    · refine ⟨_, _, by go_simp, (R2.out w2).mono ?_⟩
      rintro e w' ⟨rfl, hk⟩
      exact ⟨rfl, hk⟩
    simp only [Act.put, List.setIfInBounds_toArray, List.set_cons_zero, List.set_cons_succ]
    refine ordT_pure rfl ?_
    go_big_quiet_step (fail)
    refine ordT_on ?_
    refine ordT_pure rfl ?_
    go_big_quiet_step (fail)
    refine ordT_on ?_
    refine ordT_same (by kernel_rfl) (fun w2 hC => ?_) ?_
    · have x0 := (hC.cell lu0).trans u0
      have x1 := (hC.cell lu1).trans u1
      have x2 := (hC.cell lu2).trans u2
      go_simp
    simp only [Act.put, List.setIfInBounds_toArray, List.set_cons_zero, List.set_cons_succ]
    refine ordT_call (by kernel_rfl) keepK (fun w2 own hC hF => ?_) ?_
    · refine ⟨_, _, by go_simp, (E2.out w2).mono ?_⟩
      rintro e w' ⟨v, rfl, hO, hk⟩
      exact ⟨v, rfl, hk, fun S hS => ⟨hO.sl, fun _ => Own.inOf hO fun g hg => hS g (.inr (World.ownsRow.lt hO g hg).1)⟩⟩
    rintro x19 wx19 ownx19 hCx19 hx19
    obtain ⟨ax19, nx19, cx19, rfl⟩ := Sl.shape hx19.1
    simp only [Act.put, List.setIfInBounds_toArray, List.set_cons_zero, List.set_cons_succ]
    refine ordT_str Try.underlying26 Try.underlying5 Try.underlying9 _ rfl (bs := y.enc) (by kernel_rfl) (fun w2 own hC hF => ?_) ?_
    · exact (((hF 19 rfl).1 rfl)).1
    simp only [Act.put, List.setIfInBounds_toArray, List.set_cons_zero, List.set_cons_succ]
    refine ordT_pure rfl ?_
    go_big_quiet_step (fail)
    refine ordT_on ?_
    refine ordT_str Try.underlying26 Try.underlying5 Try.underlying9 _ rfl (bs := y.enc) (by kernel_rfl) (fun w2 own hC hF => ?_) ?_
    · exact hS11.keep hC
    simp only [Act.put, List.setIfInBounds_toArray, List.set_cons_zero, List.set_cons_succ]
    unfold strV
    refine ordT_pure rfl ?_
    go_big_quiet_step (fail)
    refine ordT_on ?_
    refine ordT_pure rfl ?_
    go_big_quiet_step (fail)
    refine ordT_on ?_
    refine ordT_pure rfl ?_
    go_big_quiet_step (fail)
    refine ordT_on ?_
    refine ordT_pure rfl ?_
    go_big_quiet_step (fail)
    refine ordT_on ?_
    refine ordT_skip (by kernel_rfl) ?_
    simp only [Act.put, List.setIfInBounds_toArray, List.set_cons_zero, List.set_cons_succ]
    refine ordT_skip (by kernel_rfl) ?_
    simp only [Act.put, List.setIfInBounds_toArray, List.set_cons_zero, List.set_cons_succ]
    refine ordT_skip (by kernel_rfl) ?_
    simp only [Act.put, List.setIfInBounds_toArray, List.set_cons_zero, List.set_cons_succ]
    refine ordT_skip (by kernel_rfl) ?_
    simp only [Act.put, List.setIfInBounds_toArray, List.set_cons_zero, List.set_cons_succ]
    refine ordT_skip (by kernel_rfl) ?_
    simp only [Act.put, List.setIfInBounds_toArray, List.set_cons_zero, List.set_cons_succ]
    refine ordT_skip (by kernel_rfl) ?_
    simp only [Act.put, List.setIfInBounds_toArray, List.set_cons_zero, List.set_cons_succ]
    refine ordT_skip (by kernel_rfl) ?_
    simp only [Act.put, List.setIfInBounds_toArray, List.set_cons_zero, List.set_cons_succ]
    refine ordT_skip (by kernel_rfl) ?_
    simp only [Act.put, List.setIfInBounds_toArray, List.set_cons_zero, List.set_cons_succ]
    refine ordT_skip (by kernel_rfl) ?_
    simp only [Act.put, List.setIfInBounds_toArray, List.set_cons_zero, List.set_cons_succ]
    refine ordT_pure rfl ?_
    go_big_quiet_step (fail)
    refine ordT_on ?_
    refine ordT_pure rfl ?_
    go_big_quiet_step (fail)
    refine ordT_on ?_
    refine ordT_pure rfl ?_
    go_big_quiet_step (fail)
    refine ordT_on ?_
    refine ordT_done fun w2 own hC hF => ?_
    clear hF
    go_wp2
    go_ret
    exact ⟨rfl, hw11.trans' hC⟩
end Go.Proofs.Ythgapchfhhcodaa
