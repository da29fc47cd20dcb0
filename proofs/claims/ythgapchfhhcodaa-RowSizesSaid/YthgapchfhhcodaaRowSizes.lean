/- The walk of RowSizes. -/
import Derived.Test.YthgapchfhhcodaaRowAny
namespace Go.Proofs.Ythgapchfhhcodaa
open Go Go.RowKit
attribute [local irreducible] Go.wpQuiet

theorem List.splice_map {α β : Type} (f : α → β) (l : List α) (off : Nat) (k : List α) : splice (l.map f) off (k.map f) = (splice l off k).map f := by
  simp [splice, List.map_take, List.map_drop]
/-- what is no place of a row is zero -/
theorem Rw.enc_spare (a : Rw) (h : a.right = true) (i : Nat) (hi : i < a.enc.length) (hu : ¬ (i < 3 + a.k.length ∨ i = 18 ∨ 19 ≤ i ∧ i < 19 + a.v.length)) : a.enc[i] = 0 := by
  obtain ⟨h1, h2, h3, h4⟩ := a.right_iff.1 h
  have hl := enc_length a h
  have e : a.enc[i]? = some 0 := by
    rw [Rw.enc_eq, List.getElem?_append_right (by simp; omega)]
    simp only [List.length_cons, List.length_nil]
    rw [List.append_assoc, List.getElem?_append_right (by omega)]
    by_cases hb : i < 18
    · rw [List.getElem?_append_left (by simp; omega), List.getElem?_replicate, if_pos (by omega)]
    · rw [List.getElem?_append_right (by simp; omega), List.length_replicate, List.getElem?_append_right (by simp; omega), List.getElem?_append_right (by simp; omega), List.getElem?_replicate, if_pos (by simp; omega)]
  rw [List.getElem?_eq_getElem hi] at e
  exact Option.some.inj e

set_option maxRecDepth 100000 in
set_option maxHeartbeats 2000000 in
theorem rowSizes_any (a : Rw) (x0 : Int) (w : World) :
    Calls Try.prog 6 #[a.val, .int .i64 x0] w fun e w' => e = .returned (.bool true) ∧ Keep w w' := by
  have hk0 := Keep.alloc w (.cells #[.int .i64 a.t, .string ⟨a.k.toArray⟩, .string ⟨a.v.toArray⟩] 23)
  have hA := RwAt.laid w a
  have L1 := Lib.hid (light_any a)
  have R1 := Lib.hid (right_law_any a)
  have E1 := Lib.hid (encode_any a)
  unfold Rw.val strV at *
  go_enter Try.func6, Try.ntmps6
  go_wp2_with fail
  generalize w.alloc (.cells #[.int .i64 a.t, .string ⟨a.k.toArray⟩, .string ⟨a.v.toArray⟩] 23) = w0 at *
  refine (fit_any w0).mono ?_
  rintro e w1 ⟨rfl, hk1'⟩
  obtain ⟨a0, a1, a2⟩ := hA.keep hk1'
  go_wp2_with fail
  refine (L1.out w1).mono ?_
  rintro e w2 ⟨⟨bx, rfl⟩, hk⟩
  have hk2' := hk1'.trans' hk
  clear hk a0 a1 a2
  obtain ⟨a0, a1, a2⟩ := hA.keep hk2'
  cases bx
  · go_wp2
    go_ret
    exact ⟨rfl, hk0.trans' hk2'⟩
  go_wp2_with fail
  refine (R1.out w2).mono ?_
  rintro e w3 ⟨rfl, hk⟩
  have hk3' := hk2'.trans' hk
  clear hk a0 a1 a2
  obtain ⟨a0, a1, a2⟩ := hA.keep hk3'
  cases hra : a.right
  · go_wp2
    go_ret
    exact ⟨rfl, hk0.trans' hk3'⟩
  go_wp2_with fail
  refine (E1.out hra w3).mono ?_
  clear E1 L1 R1
  rintro e w4 ⟨v, rfl, hO, hk⟩
  have hk4 := hk3'.trans' hk
  have HL := Lib.hid (enc_length a hra)
  have HZ := Lib.hid (Rw.enc_spare a hra)
  have HD := Lib.hid (Rw.dec_enc a hra)
  generalize a.enc = l at *
  obtain ⟨g, cap, rfl, hg, hg2⟩ := hO.head (by rw [List.length_map, HL.out]; omega)
  have hlen : (l.map B).length = 40 := by rw [List.length_map]; exact HL.out
  rw [hlen] at *
  have hgw : w.heap.size ≤ g := by have := hk0.size; have := hk3'.size; omega
  have hkk := hk0.trans' hk4
  have hA4 := hA.keep hk4
  clear hlen a0 a1 a2 hk hk1' hk2' hk3'
  have hra' := hra
  obtain ⟨r1, r2, r3, r4⟩ := a.right_iff.1 hra
  have hs1 := size_str a.k
  have hs2 := size_str a.v
  obtain ⟨u0, u1, u2⟩ := hA4
  go_wp2
  go_loopw [25] (fun i wr => ∃ j : Nat, j ≤ 40 ∧ i = .int .i64 j ∧ wr = w4) (fun i _ => 40 - (intOf i).toNat)
  case atStart => exact ⟨0, by omega, rfl, rfl⟩
  case round =>
    obtain ⟨j, hj, rfl, rfl⟩ := hrel
    by_cases hjn : j < 40
    · have hcell := hO.cellOf j (by rw [List.length_map, HL.out]; omega)
      rw [List.getElem_map] at hcell
      by_cases h1 : j < 3 + a.k.length
      · have t1 : decide ((j : Int) < 3 + (a.k.length : Int)) = true := decide_eq_true (by omega)
        go_wp2
        go_roundw
        case rel => exact ⟨j + 1, by omega, by go_num, trivial⟩
        case measure => simp [intOf]; omega
      have t1 : decide ((j : Int) < 3 + (a.k.length : Int)) = false := decide_eq_false (by omega)
      by_cases h2 : j = 18
      · have t2 : ((j : Int) == 18) = true := by rw [beq_iff_eq]; omega
        go_wp2
        go_roundw
        case rel => exact ⟨j + 1, by omega, by go_num, trivial⟩
        case measure => simp [intOf]; omega
      have t2 : ((j : Int) == 18) = false := by rw [beq_eq_false_iff_ne]; omega
      by_cases h3 : 19 ≤ j
      · have t3 : decide (19 ≤ (j : Int)) = true := decide_eq_true (by omega)
        by_cases h4 : j < 19 + a.v.length
        · have t4 : decide ((j : Int) < 19 + (a.v.length : Int)) = true := decide_eq_true (by omega)
          go_wp2
          go_roundw
          case rel => exact ⟨j + 1, by omega, by go_num, trivial⟩
          case measure => simp [intOf]; omega
        have t4 : decide ((j : Int) < 19 + (a.v.length : Int)) = false := decide_eq_false (by omega)
        have hz := HZ.out j (by rw [HL.out]; omega) (by omega)
        rw [hz] at hcell
        unfold B at hcell
        go_wp2
        go_roundw
        case rel => exact ⟨j + 1, by omega, by go_num, trivial⟩
        case measure => simp [intOf]; omega
      have t3 : decide (19 ≤ (j : Int)) = false := decide_eq_false (by omega)
      have hz := HZ.out j (by rw [HL.out]; omega) (by omega)
      rw [hz] at hcell
      unfold B at hcell
      go_wp2
      go_roundw
      case rel => exact ⟨j + 1, by omega, by go_num, trivial⟩
      case measure => simp [intOf]; omega
    · have hjl : j = 40 := by omega
      subst hjl
      obtain ⟨q, hq, tq⟩ := and_mask x0 63 (by decide)
      have tq : Go.bits .and .i64 x0 63 = (q : Int) := tq
      have hmk : (Instr.makeSlice 26 (.int .i64 (q : Int)) (.int .i64 (q : Int))).run Try.prog wr = .ok (.slice (some ⟨wr.heap.size, 0, none⟩) q q) (wr.alloc (.cells ((zB q).map B).toArray 5)) := run_makeB (P := Try.prog) elemB wr q (by omega)
      go_upto_region 15 with (fail)
      have hM : Own (wr.alloc (.cells ((zB q).map B).toArray 5)) wr.heap.size 5 (.slice (some ⟨wr.heap.size, 0, none⟩) q q) ((zB q).map B) := Own.made wr _ _ q (Nat.le_refl _) (by omega)
      have hkm := Keep.alloc wr (.cells ((zB q).map B).toArray 5)
      have hSl : Sl (wr.alloc (.cells ((zB q).map B).toArray 5)) (.slice (some ⟨g, 0, none⟩) 40 cap) (l.map B) := by
        have := (hO.keep hkm).sl
        rw [List.length_map, HL.out] at this
        exact this
      generalize wr.alloc (.cells ((zB q).map B).toArray 5) = wm at *
      clear hmk
      refine wp_region_seq ?_
      refine seqW_pure rfl ?_
      go_big_quiet_step (fail)
      refine seqW_on ?_
      refine seqW_pure rfl ?_
      go_big_quiet_step (fail)
      refine seqW_on ?_
      refine seqW_gives (by kernel_rfl) ?_
      refine Gives.copyB elemB _ _ rfl (off := 0) (dLen := q) (dCap := q) (fun _ => rfl) ⟨_, rfl⟩ rfl hSl (B_oneCell l) hM (by omega) fun wc hOc hgc _ => ?_
      simp only [Act.put, List.setIfInBounds_toArray, List.set_cons_zero, List.set_cons_succ]
      refine seqW_done ?_
      have hkc : Keep wr wc := hkm.grown hgc hkm.size (fun k hk => by cases hk; exact Nat.le_refl _)
      obtain ⟨c, hc, hcl, hc40⟩ : ∃ c : List UInt8, SlB wc (.slice (some ⟨wr.heap.size, 0, none⟩) q q) c ∧ Hid (c.length = q) ∧ Hid (q = 40 → c = l) := by
        rw [← List.map_take, List.splice_map] at hOc
        refine ⟨_, hOc.slB, ?_, fun h => ?_⟩
        · show (splice (zB q) 0 (l.take q)).length = q
          rw [length_splice _ _ _ (by rw [List.length_take, zB_length]; omega), zB_length]
        · subst h
          unfold splice
          have ht : l.take 40 = l := List.take_of_length_le (by rw [HL.out]; omega)
          rw [ht, HL.out]
          simp [zB]
      have hkq := hkk.trans' hkc
      clear hOc hgc hkc hkm hM hSl
      go_wp2_with fail
      refine (decode_any _ c wc hc).mono ?_
      rintro e w9 ⟨rfl, hk9⟩
      by_cases h40 : q = 40
      · rw [hc40.out h40, HD.out]
        subst h40
        unfold Rw.val strV
        go_wp2
        go_ret
        exact ⟨rfl, (hkq.trans' hk9).trans' (Keep.alloc _ _)⟩
      · rw [show Rw.dec c = (Rw.zero, 9) by unfold Rw.dec; rw [if_pos (by rw [hcl.out]; exact h40)]]
        unfold Rw.val Rw.zero strV
        have t1 : ((q : Int) == 40) = false := by rw [beq_eq_false_iff_ne]; omega
        go_wp2
        go_ret
        exact ⟨rfl, (hkq.trans' hk9).trans' (Keep.alloc _ _)⟩
end Go.Proofs.Ythgapchfhhcodaa
