/- The walk of PageMarks. -/
import Derived.Test.YtdnmddfnlkaahaaPageL
namespace Go.Proofs.Ytdnmddfnlkaahaa
open Go Go.RowKit
attribute [local irreducible] Go.wpQuiet

set_option maxRecDepth 100000 in
set_option maxHeartbeats 8000000 in
theorem pageMarks_any (v : Value) (l : List Rw) (mark : Nat) (w : World) (hS : SlR w v l) (hmk : mark < 18446744073709551616) : Calls Try.prog 6 #[v, .int .u64 mark] w fun e w' => e = .returned (.bool true) ∧ Keep w w' := by
  obtain ⟨va, vc, rfl, -, -⟩ := hS.form
  go_enter Try.func6, Try.ntmps6
  go_wp2_with fail
  refine (fit_any _).mono ?_
  rintro e w1 ⟨rfl, k1⟩
  go_wp2_with fail
  refine (light_any _ l w1 (hS.keep k1)).mono ?_
  rintro e w2 ⟨b, rfl, -, kw2⟩
  have kw2 := k1.trans' kw2
  cases b
  · go_wp2
    go_ret
    exact ⟨rfl, kw2⟩
  go_wp2_with fail
  refine (fill_any _ l mark (1) (2) w2 (hS.keep kw2) (by first | assumption | decide)).mono ?_
  rintro e w3 ⟨p, g, gm, rfl, H⟩
  have htp : p.tenant = 1 := H.t.trans (by decide)
  have hnp : p.number = 2 := H.n.trans (by decide)
  have hP := H.at_
  have k3 := kw2.trans' H.k
  have hm3 := H.m
  clear H
  go_upto_region 6 with (fail)
  refine wp_region_seq ?_
  refine seqW_pure rfl ?_
  go_big_quiet_step (fail)
  refine seqW_on ?_
  refine seqW_gives (by kernel_rfl) ?_
  refine Gives.value (v := .pointer (some ⟨g, 0, none⟩)) (w' := w3) (by go_simp) ?_
  simp only [Act.put, List.setIfInBounds_toArray, List.set_cons_zero, List.set_cons_succ]
  refine seqW_gives (by kernel_rfl) ?_
  refine Gives.loadBig bigP _ rfl (g := g) (off := 0) rfl p.cells hP.ok.cells (fun j v hj => cell_of hP.h _ v (by rw [Nat.zero_add]; exact hj)) ?_
  simp only [Act.put, List.setIfInBounds_toArray, List.set_cons_zero, List.set_cons_succ]
  refine seqW_gives (by kernel_rfl) ?_
  refine Gives.call (by first | (go_simp; done) | (go_simp; rfl)) (pencode_any p hP.ok (by rw [htp]; decide) (by rw [hnp]; decide) w3) ?_
  rintro e w4 ⟨v4, rfl, hO4, k4⟩
  refine ⟨_, rfl, ?_⟩
  have hb4 := hO4.slB
  have k4 := k3.trans' k4
  have hel := hP.ok.enc
  obtain ⟨a4, c4, rfl, -, hc4, -⟩ := hb4.form
  rw [hel] at hb4 hc4
  rw [hel]
  clear hO4 k3
  simp only [Act.put, List.setIfInBounds_toArray, List.set_cons_zero, List.set_cons_succ]
  refine seqW_pure rfl ?_
  go_big_quiet_step (fail)
  refine seqW_on ?_
  refine seqW_done ?_
  by_cases hm : mark = 0
  · subst hm
    have he : p.enc = zB 256 := by unfold Pg.enc; rw [if_pos hm3]
    rw [he] at hb4
    clear hP htp hnp hel he hm3
    go_upto_region 8 with (fail)
    refine wp_region_ord' [none, some (oV (strV (zB 256))), some (oB (zB 256)), some (oV (strV (zB 256))), none, none]
      #[0, 0, 0, 0, 0, 0] (w4.heap.size) (fun w' => Keep w4 w') (by kernel_rfl) (by kernel_rfl) (by kernel_rfl) ((Keep.refl w4).drew) ?_
    refine ordT_pure rfl ?_
    go_big_quiet_step (fail)
    refine ordT_on ?_
    refine ordT_str Try.underlying38 Try.underlying5 Try.underlying9 _ rfl (bs := zB 256) (by kernel_rfl) (fun w2 own hC hF => ?_) ?_
    · exact hb4.keep hC
    simp only [Act.put, List.setIfInBounds_toArray, List.set_cons_zero, List.set_cons_succ]
    simp only [strV]
    refine ordT_laid (fun w2 => .slice (some ⟨w2.heap.size, 0, none⟩) 256 256) (.cells ((zB 256).map B).toArray 5) (by kernel_rfl) keepK (fun w2 hC => ?_) (fun w2 own hC hF S hS => ?_) ?_
    · have hmk : (Instr.makeSlice 38 (.int .i64 256) (.int .i64 256)).run Try.prog w2 = .ok (.slice (some ⟨w2.heap.size, 0, none⟩) 256 256) (w2.alloc (.cells ((zB 256).map B).toArray 5)) := run_makeB (P := Try.prog) elemB w2 256 (by omega)
      go_simp
    · exact ⟨(Own.made w2 _ 0 256 (Nat.zero_le _) (by omega)).sl, in_new hS⟩
    rintro x2 wx2 ownx2 - hx2
    obtain ⟨ax2, nx2, cx2, rfl⟩ := Sl.shape hx2.1
    simp only [Act.put, List.setIfInBounds_toArray, List.set_cons_zero, List.set_cons_succ]
    refine ordT_str Try.underlying38 Try.underlying5 Try.underlying9 _ rfl (bs := zB 256) (by kernel_rfl) (fun w2 own hC hF => ?_) ?_
    · exact (((hF 2 rfl).1 rfl)).1
    simp only [Act.put, List.setIfInBounds_toArray, List.set_cons_zero, List.set_cons_succ]
    simp only [strV]
    refine ordT_pure rfl ?_
    go_big_quiet_step (fail)
    refine ordT_on ?_
    refine ordT_pure rfl ?_
    go_big_quiet_step (fail)
    refine ordT_on ?_
    refine ordT_done fun w5 own hC hF => ?_
    have kE := hC
    clear hF hC hx2
    have kz := k4.trans' kE
    clear hb4 k4 kE
    go_wp2
    go_ret
    exact ⟨rfl, kz⟩
  have hmz : ((mark : Int) == 0) = false := by rw [beq_eq_false_iff_ne]; omega
  have hmk2 := Lib.hid (fun i (hi : i < 4) => (Pg.enc_mark hP.ok i hi).trans hm3)
  clear hP htp hnp hm3
  generalize p.enc = E at *
  go_wp2_with fail
  go_loopw [34] (fun z wr => ∃ i : Nat, i ≤ 4 ∧ z = .int .i64 i ∧ w4 = wr) (fun z _ => 4 - (intOf z).toNat)
  case atStart => exact ⟨0, by decide, rfl, rfl⟩
  case round =>
    obtain ⟨i, hi, rfl, rfl⟩ := hrel
    by_cases hi4 : i < 4
    rotate_left
    · have hid : ¬ ((i : Int) < 4) := by omega
      clear hb4 hmk2
      go_wp2
      go_ret
      exact ⟨rfl, k4⟩
    have hid : (i : Int) < 4 := by omega
    have hcut := hb4.cut (i * 64) (i * 64 + 8) (by omega) (by omega)
    rw [show i * 64 + 8 - i * 64 = 8 by omega] at hcut
    have hx := hmk2.out i hi4
    have hL : ((E.drop (i * 64)).take 8).length = 8 := by rw [List.length_take, List.length_drop, hel]; omega
    generalize (E.drop (i * 64)).take 8 = L at *
    have i1 : (64 : Int) * (i : Int) ≤ 64 * (i : Int) + 8 := by omega
    have i2 : (64 : Int) * (i : Int) + 8 ≤ (c4 : Int) := by omega
    have i3 : (0 : Int) ≤ 64 * (i : Int) := by omega
    have HX := Lib.hid hx
    clear hx
    go_upto_region 13 with (fail)
    refine wp_region_seq ?_
    refine seqW_pure rfl ?_
    go_big_quiet_step (fail)
    refine seqW_on ?_
    refine seqW_pure rfl ?_
    go_big_quiet_step (fail)
    refine seqW_on ?_
    refine seqW_pure rfl ?_
    go_big_quiet_step (fail)
    refine seqW_on ?_
    refine seqW_pure rfl ?_
    go_big_quiet_step (fail)
    refine seqW_on ?_
    refine seqW_pure rfl ?_
    go_big_quiet_step (fail)
    refine seqW_on ?_
    refine seqW_pure rfl ?_
    go_big_quiet_step (fail)
    refine seqW_on ?_
    refine seqW_gives (by kernel_rfl) ?_
    refine Gives.value (v := sliced a4 (i * 64) (i * 64 + 8) c4 1) (w' := w4) ((exec_cut elemB _ _ _ rfl rfl (64 * (i : Int)) (64 * (i : Int) + 8) rfl rfl i3 i1 i2 w4).trans (by rw [show (64 * (i : Int)).toNat = i * 64 by omega, show (64 * (i : Int) + 8).toNat = i * 64 + 8 by omega])) ?_
    obtain ⟨aq, cq, hq, -, -, -⟩ := hcut.form
    rw [hL] at hq
    rw [hq] at hcut
    rw [hq]
    clear hq
    simp only [Act.put, List.setIfInBounds_toArray, List.set_cons_zero, List.set_cons_succ]
    refine seqW_gives (by kernel_rfl) ?_
    refine Gives.value (v := .int .i64 8) (w' := w4) (by go_simp) ?_
    simp only [Act.put, List.setIfInBounds_toArray, List.set_cons_zero, List.set_cons_succ]
    refine seqW_pure rfl ?_
    go_big_quiet_step (fail)
    refine seqW_on ?_
    refine seqW_done ?_
    go_wp2_with fail
    go_loopw [9, 45] (fun x z wr => ∃ k : Nat, k ≤ 8 ∧ z = .int .i64 k ∧ x = .int .u64 (Pk.num (L.take k)) ∧ w4 = wr) (fun _ z _ => 8 - (intOf z).toNat)
    case atStart => exact ⟨0, by decide, rfl, rfl, rfl⟩
    case round =>
      obtain ⟨k, hk, rfl, rfl, rfl⟩ := hrel
      by_cases hk2 : k < 8
      rotate_left
      · have hkd : ¬ ((k : Int) < 8) := by omega
        have hk3 : k = 8 := by omega
        subst hk3
        have e : Pk.num (L.take 8) = mark := by rw [List.take_of_length_le (by omega)]; exact HX.out
        rw [e]
        clear e
        go_wp2
        go_roundw
        case rel => exact ⟨i + 1, by omega, by go_num, (by first | rfl | trivial)⟩
        case measure => simp [intOf]; omega
      have hkd : (k : Int) < 8 := by omega
      obtain ⟨gb, ob, rfl, hcells⟩ := hcut.cells (by omega)
      have hcell := hcells k (by omega)
      have hs := num_snoc L k (by omega)
      have HS := Lib.hid hs
      clear hs hcells
      have hx := num_lt (L.take k)
      have hu := (L[k]'(by omega)).toNat_lt
      generalize L[k]'(by omega) = u at *
      generalize Pk.num (L.take k) = x at *
      go_wp2
      go_roundw
      case rel =>
        refine ⟨k + 1, by omega, by go_num, ?_, (by first | rfl | trivial)⟩
        rw [HS.out, or_byte]
      case measure => simp [intOf]; omega
end Go.Proofs.Ytdnmddfnlkaahaa
