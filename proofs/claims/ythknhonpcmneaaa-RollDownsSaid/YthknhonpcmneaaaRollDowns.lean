/- The walk of RollDowns. -/
import Derived.Test.YthknhonpcmneaaaFit15
import Derived.Test.YthknhonpcmneaaaRollD
import Derived.Test.YthknhonpcmneaaaAndLow
namespace Go.Proofs.Ythknhonpcmneaaa
open Go Go.RowKit
attribute [local irreducible] Go.wpQuiet

set_option maxRecDepth 100000 in
set_option maxHeartbeats 8000000 in
theorem rollDowns_any (v : Value) (l : List Int) (junk : Int) (m : Nat) (w : World) (hv : Sl w v (l.map fun n => .int .i64 n)) (hm : m < 18446744073709551616) :
    Calls Try.prog 5 #[v, .int .i64 junk, .int .u64 m] w fun e w' => e = .returned (.bool true) ∧ Keep w w' := by
  obtain ⟨a, c, rfl, hmx⟩ := (show SlN w v l from hv).form
  unfold maxLen at hmx
  go_enter Try.func5, Try.ntmps5
  go_wp2_with fail
  refine (fit_any _).mono ?_
  rintro e w1 ⟨rfl, k1⟩
  by_cases hn : 20 < l.length
  · have hni : (20 : Int) < (l.length : Int) := by omega
    go_wp2
    go_ret
    exact ⟨rfl, k1⟩
  have hni : ¬ (20 : Int) < (l.length : Int) := by omega
  go_wp2_with fail
  refine (newDk_any 1 538 w1 (by decide) (by decide) (by decide) (by decide)).mono ?_
  rintro e w2 ⟨p, rfl, hN, kN⟩
  have hSw : ∀ b, (fun b => w1.heap.size ≤ b ∧ b < w2.heap.size) b → w.heap.size ≤ b := fun b h => Nat.le_trans k1.size h.1
  have k2 := k1.trans' kN
  generalize (fun b => w1.heap.size ≤ b ∧ b < w2.heap.size) = S at *
  have hD1 := Dt.start hN
  have hv2 : SlN w2 (.slice a l.length c) l := SlN.keep hv k2
  obtain ⟨j, hj, hje⟩ := and_low junk 63 6 rfl (by decide)
  have hje2 : Go.bits .and .i64 junk 63 = (j : Int) := hje
  have hj' : (j : Int) < 64 := by omega
  clear hN kN k1 hje
  go_wp2_with fail
  go_loopw [26] (fun z wr => ∃ (i : Nat) (S1 : Nat → Prop) (dk : Dk), i ≤ j ∧ z = .int .i64 i ∧ Dt w2 S wr S1 p dk ∧ Hid (Up dk i)) (fun z _ => j - (intOf z).toNat)
  case atStart => exact ⟨0, S, _, Nat.zero_le _, rfl, hD1, Lib.hid newD_up⟩
  case round =>
    obtain ⟨i, S1, dk, hij, rfl, hD, HU⟩ := hrel
    clear hD1
    by_cases hi : i < j
    rotate_left
    · have hii : ¬ (i : Int) < (j : Int) := by omega
      have eij : i = j := by omega
      subst eij
      have hv3 := hv2
      clear hje2 hv2
      go_wp2_with fail
      refine (barrier_any p dk 0 wr S1 hD.dsk).mono ?_
      rintro e w3 ⟨rfl, h3, b3⟩
      have HB := Lib.hid (HU.out.bar hD.ok)
      have hD3 := hD.step (Dt.old hD.dsk.low h3 b3)
      clear hD h3 b3 HU
      generalize dk.barD 0 = d3 at *
      go_wp2_with fail
      refine (rwrite_any p d3 0 2 5 i w3 S1 hD3.dsk (by rw [HB.out.regs]; decide) (by decide) (by decide) HB.out.small (by omega)).mono ?_
      rintro e w4 ⟨d4, x, rfl, hD4, hF4⟩
      have HL4 := Lib.hid (HB.out.line hF4)
      have hE4 := hD3.step hD4
      clear hD3 hD4 hF4 HB
      generalize Fresh S1 w3 w4 = S4 at *
      clear hi hii
      have HI : Hid (i ≤ 63) := Lib.hid hj
      clear hj hj' hij
      go_wp2_with fail
      go_loopw [43] (fun z wr => ∃ (k : Nat) (S2 : Nat → Prop) (d : Dk), k ≤ l.length ∧ z = .int .i64 k ∧ Dt w2 S wr S2 p d ∧ Hid (Lin d (64 + 538 * k) ∧ (d.rg 0).armed = false)) (fun z _ => l.length - (intOf z).toNat)
      case atStart => exact ⟨0, S4, d4, Nat.zero_le _, rfl, hE4, Lib.hid ⟨HL4.out.1.mono (by have := HI.out; omega), HL4.out.2⟩⟩
      case round =>
        obtain ⟨k, S2, d, hkl, rfl, hD, HL⟩ := hrel
        clear hE4 HL4 HI
        have hkw := hD.keeps k2 hSw
        by_cases hk : k < l.length
        rotate_left
        · have hki : ¬ (k : Int) < (l.length : Int) := by omega
          go_wp2_with fail
          refine (settle_any p d 0 _ wr S2 hD.dsk (by rw [HL.out.1.regs]; decide) HL.out.1.size HL.out.1.small (by omega)).mono ?_
          rintro e w6 ⟨d6, st, er, rfl, hD6, hS⟩
          have HS := Lib.hid (HL.out.1.settled hS)
          have HT := Lib.hid (HS.out.2.2.2 HL.out.2)
          have hE6 := hD.step hD6
          rw [HS.out.2.2.1, HT.out.1, HT.out.2.1]
          clear hD hD6 hS HL hkw hk hkl hki
          generalize Fresh S2 wr w6 = S6 at *
          go_upto_region 23 with (fail)
          have hE7 := hE6.keep (Keep.alloc w6 (.cells #[.int .i64 (0 : Nat), .int .u64 (5 : Nat)] 29))
          have hx := heap_alloc_new w6 (.cells #[.int .i64 (0 : Nat), .int .u64 (5 : Nat)] 29)
          generalize w6.alloc (.cells #[.int .i64 (0 : Nat), .int .u64 (5 : Nat)] 29) = w7 at *
          generalize w6.heap.size = gx at *
          clear hE6
          have x0 : w7.cell? ⟨gx, 0, none⟩ = some (.int .i64 0) := cell_of_row w7 gx 0 _ _ _ hx
          have x1 : w7.cell? ⟨gx, 1, none⟩ = some (.int .u64 5) := cell_of_row w7 gx 1 _ _ _ hx
          clear hx
          go_wp2_with fail
          clear x0 x1
          go_loopw [15] (fun z wr => ∃ t : Nat, 1 ≤ t ∧ t ≤ 538 ∧ z = .int .i64 t ∧ Dt w2 S wr S6 p d6) (fun z _ => 538 - (intOf z).toNat)
          case atStart => exact ⟨1, by decide, by decide, rfl, hE7⟩
          case round =>
            obtain ⟨t, ht1, ht2, rfl, hD⟩ := hrel
            clear hE7
            by_cases ht : t < 538
            rotate_left
            · have hti : ¬ (t : Int) < 538 := by omega
              have hkw := hD.keeps k2 hSw
              have hwt : d6.waitsI 0 = 0 := by
                unfold Dk.waitsI
                have h0 : (d6.rg 0).waits = [] := HT.out.2.2.1
                split
                · show (d6.rg 0).waits.length = 0
                  rw [h0]; rfl
                · rfl
              clear ht ht1 ht2
              go_wp2_with fail
              refine (waits_any p d6 0 wr S6 hD.dsk).mono ?_
              rintro e w8 ⟨rfl, rfl⟩
              rw [hwt]
              go_wp2
              go_ret
              exact ⟨rfl, hkw⟩
            have hti : (t : Int) < 538 := by omega
            have htl : (1 : Int) ≤ (t : Int) := by omega
            have hr0 : 0 < d6.regs.length := by rw [HS.out.1.regs]; decide
            have hrd := HT.out.2.2.2 t ht1 ht
            have hs6 : t < d6.size := by rw [HS.out.1.size]; exact ht
            go_wp2_with fail
            refine (read_any p d6 0 t wr S6 hD.dsk).mono ?_
            rintro e w8 ⟨v8, rfl, hO, k8⟩
            rw [show d6.readI 0 t = d6.read 0 t from Dk.readI_at (r := 0) hD.ok hr0 hs6, hrd] at hO
            rw [show d6.there 0 t = true from Dk.there_at (r := 0) hD.ok hr0 hs6, if_pos rfl]
            have hD8 := hD.keep k8
            have hb8 := hO.slB
            obtain ⟨a8, c8, rfl, -, -, -⟩ := hb8.form
            rw [z64_length] at hb8 ⊢
            obtain ⟨b8, o8, rfl, hc8⟩ := hb8.cells (by rw [z64_length]; decide)
            have y0 : w8.cell? ⟨b8, o8, none⟩ = some (.int .u8 0) := hc8 0 (by rw [z64_length]; decide)
            clear hD k8 hO hb8 hc8 hrd hr0 hs6
            go_wp2
            go_roundw
            case rel => exact ⟨t + 1, by omega, by omega, by go_num, hD8⟩
            case measure => simp [intOf]; omega
        have hki : (k : Int) < (l.length : Int) := by omega
        have hk20 : (k : Int) < 20 := by omega
        obtain ⟨b, off, rfl, x0⟩ := (SlN.keep hv hkw).elem k hk
        obtain ⟨c5, hc5, hce⟩ := and_low l[k] 31 5 rfl (by decide)
        generalize l[k] = x at *
        have hce2 : Go.bits .and .i64 x 31 = (c5 : Int) := hce
        clear hce
        go_wp2_with fail
        refine (arm_any p d 0 c5 wr S2 hD.dsk (by omega)).mono ?_
        rintro e w5 ⟨rfl, h5, b5⟩
        have HA := Lib.hid (HL.out.1.arm hD.ok c5)
        have hD5 := hD.step (Dt.old hD.dsk.low h5 b5)
        clear hD h5 b5 x0 hce2 hkw
        generalize d.arm 0 c5 = d5 at *
        go_wp2_with fail
        refine (settle_any p d5 0 _ w5 S2 hD5.dsk (by rw [HA.out.regs]; decide) HA.out.size HA.out.small (by omega)).mono ?_
        rintro e w6 ⟨d6, st, er, rfl, hD6, hS⟩
        have HS := Lib.hid (HA.out.settled hS)
        have hE6 := hD5.step hD6
        rw [HS.out.2.2.1]
        clear hD5 hD6 hS HA
        generalize Fresh S2 w5 w6 = S6 at *
        have hok := hE6.ok
        have HC := Lib.hid (fun m => HS.out.1.crash hok m)
        have hor := HS.out.2.1
        clear hok HS
        have he63 := and_63 k (by omega)
        rw [show k % 64 = k by omega] at he63
        rcases hor with rfl | ⟨rfl, rfl⟩
        · go_upto_region 20 with (fail)
          have hE7 := hE6.keep (Keep.alloc w6 (.cells #[.int .i64 (st : Nat), .int .u64 (5 : Nat)] 29))
          generalize w6.alloc (.cells #[.int .i64 (st : Nat), .int .u64 (5 : Nat)] 29) = w7 at *
          clear hE6
          go_wp2_with fail
          rw [show (m : Int) / 2 ^ k = ((m / 2 ^ k : Nat) : Int) by simp]
          have hm8 : m / 2 ^ k < 18446744073709551616 := Nat.lt_of_le_of_lt (Nat.div_le_self _ _) hm
          refine (crash_any p d6 (m / 2 ^ k) w7 S6 hE7.dsk hm8).mono ?_
          rintro e w8 ⟨rfl, h8, b8⟩
          have HN := Lib.hid (HC.out (m / 2 ^ k))
          have hE8 := hE7.step (Dt.old hE7.dsk.low h8 b8)
          clear hE7 h8 b8 HC
          generalize d6.crash (m / 2 ^ k) = d8 at *
          go_wp2
          go_roundw
          case rel => exact ⟨k + 1, _, d8, by omega, by go_num, hE8, Lib.hid ⟨HN.out.1.mono (by omega), HN.out.2⟩⟩
          case measure => simp [intOf]; omega
        · go_upto_region 20 with (fail)
          have hE7 := hE6.keep (Keep.alloc w6 (.cells #[.int .i64 (0 : Nat), .int .u64 (5 : Nat)] 29))
          generalize w6.alloc (.cells #[.int .i64 (0 : Nat), .int .u64 (5 : Nat)] 29) = w7 at *
          clear hE6
          go_wp2_with fail
          rw [show (m : Int) / 2 ^ k = ((m / 2 ^ k : Nat) : Int) by simp]
          have hm8 : m / 2 ^ k < 18446744073709551616 := Nat.lt_of_le_of_lt (Nat.div_le_self _ _) hm
          refine (crash_any p d6 (m / 2 ^ k) w7 S6 hE7.dsk hm8).mono ?_
          rintro e w8 ⟨rfl, h8, b8⟩
          have HN := Lib.hid (HC.out (m / 2 ^ k))
          have hE8 := hE7.step (Dt.old hE7.dsk.low h8 b8)
          clear hE7 h8 b8 HC
          generalize d6.crash (m / 2 ^ k) = d8 at *
          go_wp2
          go_roundw
          case rel => exact ⟨k + 1, _, d8, by omega, by go_num, hE8, Lib.hid ⟨HN.out.1.mono (by omega), HN.out.2⟩⟩
          case measure => simp [intOf]; omega
    have hii : (i : Int) < (j : Int) := by omega
    have hi4 : (i : Int) < 64 := by omega
    go_wp2_with fail
    have hD2 := hD.keep (Keep.alloc wr (.cells #[.int .u8 9] 5))
    have hb := slB_one wr 9
    have HV := Lib.hid (HU.out.write hD.ok (s := 1 + 3 * i) (by omega) [9] (by decide))
    have hroom := HU.out.room (by omega)
    have es : (1 : Int) + 3 * (i : Int) = ((1 + 3 * i : Nat) : Int) := by omega
    rw [es]
    refine (write_any p dk 0 ((1 + 3 * i : Nat) : Int) _ [9] _ S1 hD2.dsk hb hroom).mono ?_
    rintro e w3 ⟨rfl, h3, b3⟩
    have hD3 := hD2.step (Dt.of hD2.dsk.low h3 b3)
    clear hD hD2 h3 b3 hb
    go_wp2
    go_roundw
    case rel => exact ⟨i + 1, _, _, by omega, by go_num, hD3, HV⟩
    case measure => simp [intOf]; omega
end Go.Proofs.Ythknhonpcmneaaa
