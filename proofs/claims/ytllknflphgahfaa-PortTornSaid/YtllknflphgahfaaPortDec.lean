/- The walk of port.Decode. -/
import Derived.Test.YtllknflphgahfaaPortDecL
import Derived.Test.YtllknflphgahfaaRw
import Derived.Test.YtllknflphgahfaaSum
import Derived.Test.YtllknflphgahfaaRdOrd
import Derived.Test.YtllknflphgahfaaAhead
namespace Go.Proofs.Ytllknflphgahfaa
open Go Go.RowKit
attribute [local irreducible] Go.wpQuiet

set_option maxRecDepth 100000 in
set_option maxHeartbeats 8000000 in
theorem decode_any (v : Value) (b : List UInt8) (w : World) (hv : SlB w v b) (hl : b.length ≤ 1000000) : Calls Try.prog 15 #[v] w fun e w' => ∃ v', e = .returned (.tuple #[v', .int .i64 (portDec b).2]) ∧ SlR w' v' (portDec b).1 ∧ Keep w w' := by
  obtain ⟨PD, hPD⟩ : ∃ PD, portDec b = PD := ⟨_, rfl⟩
  have HPD := Lib.hid hPD
  rw [hPD]
  clear hPD
  obtain ⟨a0, c0, rfl, -, hc0, -⟩ := hv.form
  go_enter Try.func15, Try.ntmps15
  by_cases h10 : b.length < 10
  · have hP : PD = ([], 9) := by rw [← HPD.out]; unfold portDec; rw [if_neg (fun h => absurd h.1 (by omega))]
    have t1 : decide ((b.length : Int) < 10) = true := decide_eq_true (by omega)
    subst hP
    clear h10
    go_wp2
    exact bodyPost_ret (v := .tuple #[.slice none 0 0, .int .i64 9]) (by simp [results, Try.results15, go_sem]) rfl ⟨_, rfl, SlR.nil _, Keep.refl _⟩
  have t1 : decide ((b.length : Int) < 10) = false := decide_eq_false (by omega)
  have hv4 := hv.first 4 (by omega)
  have hto := run_toString (P := Try.prog) Try.underlying26 Try.underlying5 Try.underlying9 hv4
  unfold strV at hto
  by_cases hmag : b.take 4 = magicL
  rotate_left
  · have hP : PD = ([], 9) := by rw [← HPD.out]; unfold portDec; rw [if_neg (fun h => hmag h.2.1)]
    have tm : (List.take 4 b == [84, 78, 77, 49]) = false := beq_eq_false_iff_ne.2 hmag
    subst hP
    clear hmag
    go_wp2
    exact bodyPost_ret (v := .tuple #[.slice none 0 0, .int .i64 9]) (by simp [results, Try.results15, go_sem]) rfl ⟨_, rfl, SlR.nil _, Keep.refl _⟩
  have tm : (List.take 4 b == [84, 78, 77, 49]) = true := beq_iff_eq.2 hmag
  have HM := Lib.hid hmag
  clear hmag
  go_upto_region 4 with (fail)
  clear hto tm hv4
  clear t1
  have hbl : (b.length : Int) - 4 = ((b.length - 4 : Nat) : Int) := by omega
  rw [hbl]
  have hm4 : b.length - 4 ≤ b.length := by omega
  have hsl := hv.from (b.length - 4) hm4
  have hsf := hv.first (b.length - 4) hm4
  have hl4 : (b.drop (b.length - 4)).length = 4 := by rw [List.length_drop]; omega
  have hlf : (b.take (b.length - 4)).length = b.length - 4 := by rw [List.length_take]; omega
  have hsl' : SlB w (.slice (Option.map (fun x => x.add (b.length - 4)) a0) (b.length - (b.length - 4)) (c0 - (b.length - 4))) (b.drop (b.length - 4)) := by
    have h := hsl
    unfold sliced at h
    rw [if_neg (by omega)] at h
    simpa using h
  have hnum : Pk.numN ⟨b.drop (b.length - 4), false⟩ 4 = (Pk.num (b.drop (b.length - 4)), ⟨[], false⟩) := by
    have h := Pk.numN_front (b.drop (b.length - 4)) [] 4 (by omega) (by omega) (by omega)
    rwa [List.append_nil] at h
  have hnl : Pk.num (b.drop (b.length - 4)) < 4294967296 := by
    have h := Pk.num_lt_pow (b.drop (b.length - 4)) (by omega)
    rw [hl4] at h
    omega
  have hc0' := cn_lo (Crc.sum (b.take (b.length - 4)))
  have hc1' := cn_hi (Crc.sum (b.take (b.length - 4)))
  refine wp_region_ord' [none, none, none, some (oRd w.heap.size ⟨b.drop (b.length - 4), false⟩), some (oV (.int .u64 (Pk.num (b.drop (b.length - 4)) : Int))), none, none, none, some (oBB [b.take (b.length - 4)]), some (oV (.int .u32 (cn (Crc.sum (b.take (b.length - 4)))))), none, none]
    #[0, 0, 0, 0, 8, 0, 0, 0, 0, 0, 0, 0] (w.heap.size) (fun w' => Keep w w') (by kernel_rfl) (by kernel_rfl) (by kernel_rfl) ((Keep.refl w).drew) ?_
  refine ordT_pure rfl ?_
  go_big_quiet_step (fail)
  refine ordT_on ?_
  refine ordT_pure rfl ?_
  go_big_quiet_step (fail)
  refine ordT_on ?_
  refine ordT_pure rfl ?_
  go_big_quiet_step (fail)
  refine ordT_on ?_
  refine ordT_call (by kernel_rfl) keepK (fun w2 own hC hF => ?_) ?_
  · refine ⟨_, _, by first | (go_simp; done) | (go_simp; rfl), (new_raw (Option.map (fun x => x.add (b.length - 4)) a0) (b.length - (b.length - 4)) (c0 - (b.length - 4)) w2).mono ?_⟩
    rintro e w' ⟨rfl, rfl⟩
    exact ⟨_, rfl, Keep.alloc _ _, fun S hS => oRd.made hC hsl' rfl S hS⟩
  rintro x3 wx3 ownx3 hCx3 hx3
  obtain ⟨g3, rfl, -⟩ := hx3
  simp only [Act.put, List.setIfInBounds_toArray, List.set_cons_zero, List.set_cons_succ]
  refine ordT_told (by kernel_rfl) ?_ ?_
  · intro w2 own hC hF
    obtain ⟨h1, h2, h3⟩ := oRd.get ((hF 3 rfl).1 rfl)
    refine Gives.call (by go_simp) (num_any g3 _ 4 w2 h3 (by rw [hl4]; omega)) ?_
    rintro e w' ⟨rfl, hb, hr⟩
    exact ⟨_, rfl, hC.trans (hb.below h1 hC.size), moved_but hb h1 h2 rfl, by rw [hnum]; rfl⟩
  rintro x4 wx4 ownx4 - hx4
  obtain rfl := hx4
  simp only [Act.put, List.setIfInBounds_toArray, List.set_cons_zero, List.set_cons_succ]
  refine ordT_pure rfl ?_
  go_big_quiet_step (fail)
  refine ordT_on ?_
  refine ordT_pure rfl ?_
  go_big_quiet_step (fail)
  refine ordT_on ?_
  refine ordT_pure rfl ?_
  go_big_quiet_step (fail)
  refine ordT_on ?_
  refine ordT_told (by kernel_rfl) (told_parts 26 [.slice a0 (b.length - 4) c0] [b.take (b.length - 4)] rfl (by simp) keepK (fun w2 hC => by go_simp) fun w2 own hC hF => ?_) ?_
  · exact parts1 (p := fun v l => SlB w2 v l ∧ (l.map B ≠ [] → In (Used _ _ own) v)) ⟨(hsf).keep hC, in_old (hsf)⟩
  rintro x8 wx8 ownx8 - hx8
  obtain ⟨ax8, nx8, cx8, rfl⟩ := SlBB.shape hx8.bb
  simp only [Act.put, List.setIfInBounds_toArray, List.set_cons_zero, List.set_cons_succ]
  refine ordT_callV (by kernel_rfl) keepK (fun w2 own hC hF => ?_) ?_
  · refine ⟨_, _, by first | (go_simp; done) | (go_simp; rfl), (of_any _ [b.take (b.length - 4)] w2 (((hF 8 rfl).1 rfl)).bb).mono ?_⟩
    rintro e w' ⟨rfl, rfl⟩
    exact ⟨by simp, Keep.refl _⟩
  simp only [Act.put, List.setIfInBounds_toArray, List.set_cons_zero, List.set_cons_succ]
  refine ordT_pure rfl ?_
  go_big_quiet_step (fail)
  refine ordT_on ?_
  refine ordT_pure rfl ?_
  go_big_quiet_step (fail)
  refine ordT_on ?_
  refine ordT_done fun w2 own hC hF => ?_
  clear hF hx8 hsl hsl' hsf own
  have hw2 : Keep w w2 := hC
  clear hC
  have hv2 := hv.keep hw2
  clear hv hCx3
  by_cases hs : Pk.num (b.drop (b.length - 4)) = (Crc.sum (b.take (b.length - 4))).toNat
  rotate_left
  · have hP : PD = ([], 9) := by rw [← HPD.out]; unfold portDec; rw [if_neg (fun h => hs h.2.2)]
    have tx : (((Pk.num (b.drop (b.length - 4)) : Nat) : Int) != cn (Crc.sum (b.take (b.length - 4)))) = true := bne_iff_ne.2 (fun h => hs (by unfold cn at h; omega))
    rw [tx]
    subst hP
    clear hs hbl hnum hnl tx
    go_wp2
    exact bodyPost_ret (v := .tuple #[.slice none 0 0, .int .i64 9]) (by simp [results, Try.results15, go_sem]) rfl ⟨_, rfl, SlR.nil _, hw2⟩
  have tx : (((Pk.num (b.drop (b.length - 4)) : Nat) : Int) != cn (Crc.sum (b.take (b.length - 4)))) = false := by
    rw [bne_eq_false_iff_eq, hs]
    rfl
  rw [tx]
  have hP : PD = endR (decR (Pk.numN (midR b) 2).1 [] (Pk.numN (midR b) 2).2) := by rw [← HPD.out]; unfold portDec; rw [if_pos ⟨by omega, HM.out, hs⟩]
  have HP := Lib.hid hP
  clear hP hs hnum hnl tx HPD HM hc0' hc1' hbl
  have hcut : SlB w2 (.slice (Option.map (fun x => x.add 4) a0) (b.length - 4 - 4) (c0 - 4)) (midR b).l := by
    have h := hv2.cut 4 (b.length - 4) (by omega) (by omega)
    unfold sliced at h
    rw [if_neg (by omega), ← List.drop_take] at h
    have h2 : SlB w2 (.slice (Option.map (fun x => x.add 4) a0) (b.length - 4 - 4) (c0 - 4)) ((b.take (b.length - 4)).drop 4) := by simpa using h
    exact h2
  have hml : (midR b).l.length ≤ 1000000 := by show ((b.take (b.length - 4)).drop 4).length ≤ _; rw [List.length_drop]; omega
  clear hl4 hlf
  go_wp2_with fail
  refine (new_any _ (midR b).l w2 hcut).mono ?_
  rintro e w3 ⟨rfl, hr3, hk3, hsz3⟩
  have hw3 := hw2.trans' hk3
  have hgl : w2.heap.size < w3.heap.size := by omega
  have hrbw := hw2.size
  clear hsz3 hk3 hv2 hcut hw2
  generalize w2.heap.size = rb at *
  have hmid : (⟨(midR b).l, false⟩ : Pk.RS) = midR b := rfl
  rw [hmid] at hr3
  generalize midR b = s0 at *
  clear hmid
  go_wp2_with fail
  refine (num_any rb s0 2 w3 hr3 (by omega)).mono ?_
  rintro e w4 ⟨rfl, hb4, hr4⟩
  have hN := numN_lt s0 2 (by omega)
  rw [show ((2 : Nat) : Int) = 2 from rfl] at hN
  have hl4 := numN_len s0 2
  have hw4 := hw3.trans (hb4.below hrbw hw3.size)
  have hg4 := Nat.lt_of_lt_of_le hgl hb4.size
  clear hr3 hw3 hb4 hgl
  generalize Pk.numN s0 2 = q0 at *
  obtain ⟨N, s1⟩ := q0
  simp only at *
  have hs1 : s1.l.length ≤ 1000000 := by omega
  clear hl4 hml
  go_wp2
  go_loopw [6, 38] (fun o i wr => ∃ (j : Nat) (outs : List Rw) (s : Pk.RS), j ≤ N ∧ i = .int .u64 j ∧ OwnR wr (rb + 1) o outs ∧ Rd wr rb s ∧ Hid (PD = endR (decR (N - j) outs s)) ∧ outs.length = j ∧ s.l.length ≤ 1000000 ∧ Keep w wr ∧ rb < wr.heap.size) (fun _ i _ => N - (intOf i).toNat)
  case atStart => exact ⟨0, [], s1, Nat.zero_le _, rfl, OwnR.nil _ _, hr4, HP, rfl, hs1, hw4, hg4⟩
  case round =>
    obtain ⟨j, outs, s, hj, rfl, hO, hr, hD, hoj, hsl, hk, hg⟩ := hrel
    clear HP hr4 hs1 hw4 hg4
    obtain ⟨oa, oc, rfl, -, -⟩ := hO.slr.form
    have HOJ := Lib.hid hoj
    clear hoj
    by_cases hjn : j < N
    rotate_left
    · have hz : N - j = 0 := by omega
      have hjd : ¬ ((j : Int) < (N : Int)) := by omega
      have hPD := hD.out
      rw [hz] at hPD
      simp only [decR, endR] at hPD
      have HPD := Lib.hid hPD
      clear hD hPD hz hjn
      go_wp2_with fail
      refine (bad_any rb s wr hr).mono ?_
      rintro e w5 ⟨rfl, rfl⟩
      cases hb : s.bad
      rotate_left
      · have hP : PD = ([], 9) := by rw [HPD.out, if_pos (.inl hb)]
        subst hP
        clear HPD
        go_wp2_with fail
        exact bodyPost_ret (v := .tuple #[.slice none 0 0, .int .i64 9]) (by simp [results, Try.results15, go_sem]) rfl ⟨_, rfl, SlR.nil _, hk⟩
      go_wp2_with fail
      refine (rest_any rb s wr hr).mono ?_
      rintro e w5 ⟨rfl, rfl⟩
      by_cases hl0 : 0 < s.l.length
      · have hP : PD = ([], 9) := by rw [HPD.out, if_pos (.inr hl0)]
        subst hP
        clear HPD
        go_wp2_with fail
        exact bodyPost_ret (v := .tuple #[.slice none 0 0, .int .i64 9]) (by simp [results, Try.results15, go_sem]) rfl ⟨_, rfl, SlR.nil _, hk⟩
      have hPD := HPD.out
      rw [if_neg (fun h => h.elim (fun e => by rw [hb] at e; cases e) hl0)] at hPD
      have HPD := Lib.hid hPD
      clear hPD
      by_cases h30 : 30 < outs.length
      · have hP : PD = ([], 7) := by rw [HPD.out, if_pos h30]
        have t3 : (30 : Int) < (outs.length : Int) := by omega
        subst hP
        clear HPD h30
        go_wp2_with fail
        exact bodyPost_ret (v := .tuple #[.slice none 0 0, .int .i64 7]) (by simp [results, Try.results15, go_sem]) rfl ⟨_, rfl, SlR.nil _, hk⟩
      have hP : PD = (outs, 0) := by rw [HPD.out, if_neg h30]
      have t3 : ¬ ((30 : Int) < (outs.length : Int)) := by omega
      subst hP
      clear HPD h30
      go_wp2_with fail
      exact bodyPost_ret (v := .tuple #[.slice oa outs.length oc, .int .i64 0]) (by simp [results, Try.results15, go_sem]) rfl ⟨_, rfl, hO.slr, hk⟩
    have hjd : (j : Int) < (N : Int) := by omega
    have hnj : N - j = (N - (j + 1)) + 1 := by omega
    have hDD := hD.out
    rw [hnj] at hDD
    simp only [decR] at hDD
    have HD := Lib.hid hDD
    clear hD hDD hnj
    go_wp2_with fail
    refine (num_any rb s 1 wr hr (by omega)).mono ?_
    rintro e v1 ⟨rfl, hb1, hr1⟩
    have hl1 := numN_len s 1
    have ht1 := numN_lt s 1 (by omega)
    rw [show ((1 : Nat) : Int) = 1 from rfl] at ht1
    have hkw1 : Keep w v1 := hk.trans (hb1.below hrbw hk.size)
    have hO1 : OwnR v1 (rb + 1) (.slice oa outs.length oc) outs := hO.at fun g e hg => hb1.block g hg (fun e' => by have := (hO.lt g e).1; cases e'; omega)
    have hg1 := Nat.lt_of_lt_of_le hg hb1.size
    generalize hq1 : Pk.numN s 1 = q1 at *
    have HQ1 := Lib.hid hq1
    clear hq1 hr hk hO hb1 hg
    go_wp2_with fail
    refine (rtext_any rb q1.2 v1 hr1 (by omega)).mono ?_
    rintro e v2 ⟨rfl, hb2, hr2⟩
    have hl2 := text_len q1.2
    have ht2 := text_lt q1.2
    have hkw2 : Keep w v2 := hkw1.trans (hb2.below hrbw hkw1.size)
    have hO2 : OwnR v2 (rb + 1) (.slice oa outs.length oc) outs := hO1.at fun g e hg => hb2.block g hg (fun e' => by have := (hO1.lt g e).1; cases e'; omega)
    have hg2 := Nat.lt_of_lt_of_le hg1 hb2.size
    generalize hq2 : Pk.text q1.2 = q2 at *
    have HQ2 := Lib.hid hq2
    clear hq2 hr1 hkw1 hO1 hb2 hg1
    go_wp2_with fail
    refine (rtext_any rb q2.2 v2 hr2 (by omega)).mono ?_
    rintro e v3 ⟨rfl, hb3, hr3⟩
    have hl3 := text_len q2.2
    have ht3 := text_lt q2.2
    have hkw3 : Keep w v3 := hkw2.trans (hb3.below hrbw hkw2.size)
    have hO3 : OwnR v3 (rb + 1) (.slice oa outs.length oc) outs := hO2.at fun g e hg => hb3.block g hg (fun e' => by have := (hO2.lt g e).1; cases e'; omega)
    have hg3 := Nat.lt_of_lt_of_le hg2 hb3.size
    generalize hq3 : Pk.text q2.2 = q3 at *
    have HQ3 := Lib.hid hq3
    clear hq3 hr2 hkw2 hO2 hb3 hg2
    unfold strV
    go_upto_region 11 with (fail)
    have hX := RwAt.new v3 ⟨q1.1, q2.1, q3.1⟩
    have hkA := Keep.alloc v3 (.cells #[.int .i64 (q1.1 : Int), .string ⟨q2.1.toArray⟩, .string ⟨q3.1.toArray⟩] 32)
    have hrA := hr3.keep hkA
    have hOA := hO3.keep hkA
    have hwA := hkw3.trans' hkA
    have hgA := Nat.lt_of_lt_of_le hg3 hkA.size
    clear hr3 hO3 hkw3 hkA
    generalize v3.alloc (.cells #[.int .i64 (q1.1 : Int), .string ⟨q2.1.toArray⟩, .string ⟨q3.1.toArray⟩] 32) = y1 at *
    generalize v3.heap.size = gx at *
    have hRR : readR s = (⟨q1.1, q2.1, q3.1⟩, q3.2) := by
      unfold readR
      simp only [HQ1.out, HQ2.out, HQ3.out]
    have hDD := HD.out
    rw [hRR] at hDD
    simp only at hDD
    have HDD := Lib.hid hDD
    clear hRR hDD HD HQ1 HQ2 HQ3
    have hs3 : q3.2.l.length ≤ 1000000 := by omega
    have hRT := right_any ⟨q1.1, q2.1, q3.1⟩
    unfold Rw.val strV at hRT
    simp only at hRT
    cases hbad : q3.2.bad
    rotate_left
    · have hP : PD = ([], 9) := by rw [HDD.out, if_neg (by simp [stepOk, hbad])]; rfl
      subst hP
      clear HDD
      refine wp_region_dag' (C := fun w' => Keep y1 w') (R := Keep) [none, some (tV (.bool true)), none, none, none, none, none, none, none, none, none, none, none, none, none, none, none, none, none, none, none, none, none]
        (by kernel_rfl) (by kernel_rfl) (Keep.refl y1).drew ?_
      refine dagT_pure rfl ?_
      go_big_quiet_step (fail)
      refine dagT_on ?_
      refine dagT_told (by kernel_rfl) ?_ ?_
      · intro w2 hC hF
        refine Gives.call (by go_simp) (bad_any rb q3.2 w2 (hrA.keep hC)) ?_
        rintro e w' ⟨rfl, rfl⟩
        exact ⟨_, rfl, hC, Keep.refl _, by rw [hbad]; rfl⟩
      intro vv w2 hC hF hvv
      clear hC hF
      obtain rfl := hvv
      simp only [Act.put, List.setIfInBounds_toArray, List.set_cons_zero, List.set_cons_succ]
      refine dagT_pure rfl ?_
      go_big_quiet_step (fail)
      refine dagT_on ?_
      refine dagT_skip (by kernel_rfl) ?_
      simp only [Act.put, List.setIfInBounds_toArray, List.set_cons_zero, List.set_cons_succ]
      refine dagT_skip (by kernel_rfl) ?_
      simp only [Act.put, List.setIfInBounds_toArray, List.set_cons_zero, List.set_cons_succ]
      refine dagT_skip (by kernel_rfl) ?_
      simp only [Act.put, List.setIfInBounds_toArray, List.set_cons_zero, List.set_cons_succ]
      refine dagT_pure rfl ?_
      go_big_quiet_step (fail)
      refine dagT_on ?_
      refine dagT_pure rfl ?_
      go_big_quiet_step (fail)
      refine dagT_on ?_
      refine dagT_skip (by kernel_rfl) ?_
      simp only [Act.put, List.setIfInBounds_toArray, List.set_cons_zero, List.set_cons_succ]
      refine dagT_skip (by kernel_rfl) ?_
      simp only [Act.put, List.setIfInBounds_toArray, List.set_cons_zero, List.set_cons_succ]
      refine dagT_skip (by kernel_rfl) ?_
      simp only [Act.put, List.setIfInBounds_toArray, List.set_cons_zero, List.set_cons_succ]
      refine dagT_skip (by kernel_rfl) ?_
      simp only [Act.put, List.setIfInBounds_toArray, List.set_cons_zero, List.set_cons_succ]
      refine dagT_skip (by kernel_rfl) ?_
      simp only [Act.put, List.setIfInBounds_toArray, List.set_cons_zero, List.set_cons_succ]
      refine dagT_skip (by kernel_rfl) ?_
      simp only [Act.put, List.setIfInBounds_toArray, List.set_cons_zero, List.set_cons_succ]
      refine dagT_skip (by kernel_rfl) ?_
      simp only [Act.put, List.setIfInBounds_toArray, List.set_cons_zero, List.set_cons_succ]
      refine dagT_skip (by kernel_rfl) ?_
      simp only [Act.put, List.setIfInBounds_toArray, List.set_cons_zero, List.set_cons_succ]
      refine dagT_skip (by kernel_rfl) ?_
      simp only [Act.put, List.setIfInBounds_toArray, List.set_cons_zero, List.set_cons_succ]
      refine dagT_skip (by kernel_rfl) ?_
      simp only [Act.put, List.setIfInBounds_toArray, List.set_cons_zero, List.set_cons_succ]
      refine dagT_skip (by kernel_rfl) ?_
      simp only [Act.put, List.setIfInBounds_toArray, List.set_cons_zero, List.set_cons_succ]
      refine dagT_skip (by kernel_rfl) ?_
      simp only [Act.put, List.setIfInBounds_toArray, List.set_cons_zero, List.set_cons_succ]
      refine dagT_skip (by kernel_rfl) ?_
      simp only [Act.put, List.setIfInBounds_toArray, List.set_cons_zero, List.set_cons_succ]
      refine dagT_skip (by kernel_rfl) ?_
      simp only [Act.put, List.setIfInBounds_toArray, List.set_cons_zero, List.set_cons_succ]
      refine dagT_pure rfl ?_
      go_big_quiet_step (fail)
      refine dagT_on ?_
      refine dagT_done fun w2 hC hF => ?_
      clear hF
      go_wp2_with fail
      exact bodyPost_ret (v := .tuple #[.slice none 0 0, .int .i64 9]) (by simp [results, Try.results15, go_sem]) rfl ⟨_, rfl, SlR.nil _, hwA.trans' hC⟩
    cases hright : (⟨q1.1, q2.1, q3.1⟩ : Rw).right
    · have hP : PD = ([], 9) := by rw [HDD.out, if_neg (by simp [stepOk, hright])]; rfl
      subst hP
      clear HDD
      rw [hright] at hRT
      refine wp_region_dag' (C := fun w' => Keep y1 w') (R := Keep) [none, some (tV (.bool false)), none, some (tV (.agg #[.int .i64 (q1.1 : Int), .string ⟨q2.1.toArray⟩, .string ⟨q3.1.toArray⟩])), some (tV (.bool false)), none, none, none, none, none, none, none, none, none, none, none, none, none, none, none, none, none, none]
        (by kernel_rfl) (by kernel_rfl) (Keep.refl y1).drew ?_
      refine dagT_pure rfl ?_
      go_big_quiet_step (fail)
      refine dagT_on ?_
      refine dagT_told (by kernel_rfl) ?_ ?_
      · intro w2 hC hF
        refine Gives.call (by go_simp) (bad_any rb q3.2 w2 (hrA.keep hC)) ?_
        rintro e w' ⟨rfl, rfl⟩
        exact ⟨_, rfl, hC, Keep.refl _, by rw [hbad]; rfl⟩
      intro vv w2 hC hF hvv
      clear hC hF
      obtain rfl := hvv
      simp only [Act.put, List.setIfInBounds_toArray, List.set_cons_zero, List.set_cons_succ]
      refine dagT_pure rfl ?_
      go_big_quiet_step (fail)
      refine dagT_on ?_
      refine dagT_told (by kernel_rfl) ?_ ?_
      · intro w2 hC hF
        obtain ⟨c0, c1, c2⟩ := (hX.keep hC).cells
        exact Gives.value (v := .agg #[.int .i64 (q1.1 : Int), .string ⟨q2.1.toArray⟩, .string ⟨q3.1.toArray⟩]) (w' := w2) (by go_simp) ⟨hC, Keep.refl _, rfl⟩
      intro vv w2 hC hF hvv
      clear hC hF
      obtain rfl := hvv
      simp only [Act.put, List.setIfInBounds_toArray, List.set_cons_zero, List.set_cons_succ]
      refine dagT_told (by kernel_rfl) ?_ ?_
      · intro w2 hC hF
        refine Gives.call (by go_simp) (hRT w2) ?_
        rintro e w' ⟨rfl, hk⟩
        exact ⟨_, rfl, hC.trans' hk, hk, rfl⟩
      intro vv w2 hC hF hvv
      clear hC hF
      obtain rfl := hvv
      simp only [Act.put, List.setIfInBounds_toArray, List.set_cons_zero, List.set_cons_succ]
      refine dagT_pure rfl ?_
      go_big_quiet_step (fail)
      refine dagT_on ?_
      refine dagT_pure rfl ?_
      go_big_quiet_step (fail)
      refine dagT_on ?_
      refine dagT_pure rfl ?_
      go_big_quiet_step (fail)
      refine dagT_on ?_
      refine dagT_skip (by kernel_rfl) ?_
      simp only [Act.put, List.setIfInBounds_toArray, List.set_cons_zero, List.set_cons_succ]
      refine dagT_skip (by kernel_rfl) ?_
      simp only [Act.put, List.setIfInBounds_toArray, List.set_cons_zero, List.set_cons_succ]
      refine dagT_skip (by kernel_rfl) ?_
      simp only [Act.put, List.setIfInBounds_toArray, List.set_cons_zero, List.set_cons_succ]
      refine dagT_skip (by kernel_rfl) ?_
      simp only [Act.put, List.setIfInBounds_toArray, List.set_cons_zero, List.set_cons_succ]
      refine dagT_skip (by kernel_rfl) ?_
      simp only [Act.put, List.setIfInBounds_toArray, List.set_cons_zero, List.set_cons_succ]
      refine dagT_skip (by kernel_rfl) ?_
      simp only [Act.put, List.setIfInBounds_toArray, List.set_cons_zero, List.set_cons_succ]
      refine dagT_skip (by kernel_rfl) ?_
      simp only [Act.put, List.setIfInBounds_toArray, List.set_cons_zero, List.set_cons_succ]
      refine dagT_skip (by kernel_rfl) ?_
      simp only [Act.put, List.setIfInBounds_toArray, List.set_cons_zero, List.set_cons_succ]
      refine dagT_skip (by kernel_rfl) ?_
      simp only [Act.put, List.setIfInBounds_toArray, List.set_cons_zero, List.set_cons_succ]
      refine dagT_skip (by kernel_rfl) ?_
      simp only [Act.put, List.setIfInBounds_toArray, List.set_cons_zero, List.set_cons_succ]
      refine dagT_skip (by kernel_rfl) ?_
      simp only [Act.put, List.setIfInBounds_toArray, List.set_cons_zero, List.set_cons_succ]
      refine dagT_skip (by kernel_rfl) ?_
      simp only [Act.put, List.setIfInBounds_toArray, List.set_cons_zero, List.set_cons_succ]
      refine dagT_skip (by kernel_rfl) ?_
      simp only [Act.put, List.setIfInBounds_toArray, List.set_cons_zero, List.set_cons_succ]
      refine dagT_skip (by kernel_rfl) ?_
      simp only [Act.put, List.setIfInBounds_toArray, List.set_cons_zero, List.set_cons_succ]
      refine dagT_pure rfl ?_
      go_big_quiet_step (fail)
      refine dagT_on ?_
      refine dagT_done fun w2 hC hF => ?_
      clear hF
      go_wp2_with fail
      exact bodyPost_ret (v := .tuple #[.slice none 0 0, .int .i64 9]) (by simp [results, Try.results15, go_sem]) rfl ⟨_, rfl, SlR.nil _, hwA.trans' hC⟩
    rw [hright] at hRT
    by_cases hem : outs.length = 0
    · have he : outs = [] := List.eq_nil_of_length_eq_zero hem
      have hfo : follows outs ⟨q1.1, q2.1, q3.1⟩ = true := by rw [he]; rfl
      have hP : PD = endR (decR (N - (j + 1)) (outs ++ [⟨q1.1, q2.1, q3.1⟩]) q3.2) := by rw [HDD.out, if_pos (by simp [stepOk, hbad, hright, hfo])]
      have HP := Lib.hid hP
      clear hP HDD hfo
      have tz : decide (0 < (outs.length : Int)) = false := decide_eq_false (by omega)
      have hgt : ¬ (0 < outs.length) := by omega
      clear he hem
      refine wp_region_dag' (C := fun w' => Keep y1 w') (R := Keep) [none, some (tV (.bool false)), none, some (tV (.agg #[.int .i64 (q1.1 : Int), .string ⟨q2.1.toArray⟩, .string ⟨q3.1.toArray⟩])), some (tV (.bool true)), none, none, none, none, none, none, none, none, none, none, none, none, none, none, none, none, none, none]
        (by kernel_rfl) (by kernel_rfl) (Keep.refl y1).drew ?_
      refine dagT_pure rfl ?_
      go_big_quiet_step (fail)
      refine dagT_on ?_
      refine dagT_told (by kernel_rfl) ?_ ?_
      · intro w2 hC hF
        refine Gives.call (by go_simp) (bad_any rb q3.2 w2 (hrA.keep hC)) ?_
        rintro e w' ⟨rfl, rfl⟩
        exact ⟨_, rfl, hC, Keep.refl _, by rw [hbad]; rfl⟩
      intro vv w2 hC hF hvv
      clear hC hF
      obtain rfl := hvv
      simp only [Act.put, List.setIfInBounds_toArray, List.set_cons_zero, List.set_cons_succ]
      refine dagT_pure rfl ?_
      go_big_quiet_step (fail)
      refine dagT_on ?_
      refine dagT_told (by kernel_rfl) ?_ ?_
      · intro w2 hC hF
        obtain ⟨c0, c1, c2⟩ := (hX.keep hC).cells
        exact Gives.value (v := .agg #[.int .i64 (q1.1 : Int), .string ⟨q2.1.toArray⟩, .string ⟨q3.1.toArray⟩]) (w' := w2) (by go_simp) ⟨hC, Keep.refl _, rfl⟩
      intro vv w2 hC hF hvv
      clear hC hF
      obtain rfl := hvv
      simp only [Act.put, List.setIfInBounds_toArray, List.set_cons_zero, List.set_cons_succ]
      refine dagT_told (by kernel_rfl) ?_ ?_
      · intro w2 hC hF
        refine Gives.call (by go_simp) (hRT w2) ?_
        rintro e w' ⟨rfl, hk⟩
        exact ⟨_, rfl, hC.trans' hk, hk, rfl⟩
      intro vv w2 hC hF hvv
      clear hC hF
      obtain rfl := hvv
      simp only [Act.put, List.setIfInBounds_toArray, List.set_cons_zero, List.set_cons_succ]
      refine dagT_pure rfl ?_
      go_big_quiet_step (fail)
      refine dagT_on ?_
      refine dagT_pure rfl ?_
      go_big_quiet_step (fail)
      refine dagT_on ?_
      refine dagT_pure rfl ?_
      go_big_quiet_step (fail)
      refine dagT_on ?_
      refine dagT_pure rfl ?_
      go_big_quiet_step (fail)
      refine dagT_on ?_
      refine dagT_pure rfl ?_
      go_big_quiet_step (fail)
      refine dagT_on ?_
      refine dagT_pure rfl ?_
      go_big_quiet_step (fail)
      refine dagT_on ?_
      refine dagT_pure rfl ?_
      go_big_quiet_step (fail)
      refine dagT_on ?_
      refine dagT_skip (by kernel_rfl) ?_
      simp only [Act.put, List.setIfInBounds_toArray, List.set_cons_zero, List.set_cons_succ]
      refine dagT_skip (by kernel_rfl) ?_
      simp only [Act.put, List.setIfInBounds_toArray, List.set_cons_zero, List.set_cons_succ]
      refine dagT_skip (by kernel_rfl) ?_
      simp only [Act.put, List.setIfInBounds_toArray, List.set_cons_zero, List.set_cons_succ]
      refine dagT_skip (by kernel_rfl) ?_
      simp only [Act.put, List.setIfInBounds_toArray, List.set_cons_zero, List.set_cons_succ]
      refine dagT_skip (by kernel_rfl) ?_
      simp only [Act.put, List.setIfInBounds_toArray, List.set_cons_zero, List.set_cons_succ]
      refine dagT_skip (by kernel_rfl) ?_
      simp only [Act.put, List.setIfInBounds_toArray, List.set_cons_zero, List.set_cons_succ]
      refine dagT_skip (by kernel_rfl) ?_
      simp only [Act.put, List.setIfInBounds_toArray, List.set_cons_zero, List.set_cons_succ]
      refine dagT_skip (by kernel_rfl) ?_
      simp only [Act.put, List.setIfInBounds_toArray, List.set_cons_zero, List.set_cons_succ]
      refine dagT_skip (by kernel_rfl) ?_
      simp only [Act.put, List.setIfInBounds_toArray, List.set_cons_zero, List.set_cons_succ]
      refine dagT_pure rfl ?_
      go_big_quiet_step (fail)
      refine dagT_on ?_
      refine dagT_pure rfl ?_
      go_big_quiet_step (fail)
      refine dagT_on ?_
      refine dagT_done fun w2 hC hF => ?_
      clear hF
      have hXw := hX.keep hC
      have hrw := hrA.keep hC
      have hOw := hOA.keep hC
      have hww := hwA.trans' hC
      have hgw := Nat.lt_of_lt_of_le hgA hC.size
      clear hX hrA hOA hwA hgA hC
      obtain ⟨c0, c1, c2⟩ := hXw.cells
      go_upto_region 13 with (fail)
      refine wp_region_seq ?_
      refine seqW_pure rfl ?_
      go_big_quiet_step (fail)
      refine seqW_on ?_
      refine seqW_gives (by kernel_rfl) ?_
      refine Gives.value (v := .agg #[.int .i64 (q1.1 : Int), .string ⟨q2.1.toArray⟩, .string ⟨q3.1.toArray⟩]) (w' := w2) (by go_simp) ?_
      simp only [Act.put, List.setIfInBounds_toArray, List.set_cons_zero, List.set_cons_succ]
      refine seqW_gives (by kernel_rfl) ?_
      refine Gives.value (v := .slice (some ⟨w2.heap.size, 0, none⟩) 1 1) (w' := w2.alloc (.cells #[.int .i64 (q1.1 : Int), .string ⟨q2.1.toArray⟩, .string ⟨q3.1.toArray⟩] 32)) (by go_simp) ?_
      have hSl := SlR.laid (w := w2) ⟨q1.1, q2.1, q3.1⟩
      have hka := Keep.alloc w2 (.cells #[.int .i64 (q1.1 : Int), .string ⟨q2.1.toArray⟩, .string ⟨q3.1.toArray⟩] 32)
      have hO9 := hOw.keep hka
      have hk9 := hww.trans' hka
      have hr9 := hrw.keep hka
      have hg9 := Nat.lt_of_lt_of_le hgw hka.size
      clear hXw hrw hOw hww hgw c0 c1 c2 hka
      simp only at hSl
      generalize w2.alloc (.cells #[.int .i64 (q1.1 : Int), .string ⟨q2.1.toArray⟩, .string ⟨q3.1.toArray⟩] 32) = m9 at *
      simp only [Act.put, List.setIfInBounds_toArray, List.set_cons_zero, List.set_cons_succ]
      refine seqW_gives (by kernel_rfl) ?_
      refine Gives.appendR _ _ rfl rfl rfl hO9 hSl (by have := HOJ.out; simp; omega) (by omega) ?_
      intro v' w' hO' hgr
      have hb' : Below (rb + 1) m9 w' := (Below.refl _ _).grown hgr (by omega) (fun j hj => (hO9.lt j hj).1)
      have hk' : Keep w w' := hk9.trans (hb'.mono (by omega))
      have hr' := hr9.above hb' (by omega)
      have hg' : rb < w'.heap.size := Nat.lt_of_lt_of_le hg9 hb'.size
      clear hgr hO9 hSl hk9 hr9 hb'
      simp only [Act.put, List.setIfInBounds_toArray, List.set_cons_zero, List.set_cons_succ]
      refine seqW_pure rfl ?_
      go_big_quiet_step (fail)
      refine seqW_on ?_
      refine seqW_done ?_
      go_wp2
      go_roundw
      case rel => exact ⟨j + 1, outs ++ [⟨q1.1, q2.1, q3.1⟩], q3.2, by omega, by go_num, hO', hr', HP, by rw [List.length_append, HOJ.out]; rfl, hs3, hk', hg'⟩
      case measure => simp [intOf]; omega
    have hlt : outs.length - 1 < outs.length := by omega
    have hln : outs.length ≤ 65536 := by have := HOJ.out; omega
    have hLS := less_any outs[outs.length - 1] ⟨q1.1, q2.1, q3.1⟩
    have hfe : follows outs ⟨q1.1, q2.1, q3.1⟩ = (outs[outs.length - 1]'hlt).less ⟨q1.1, q2.1, q3.1⟩ := by
      unfold follows
      rw [List.getLast?_eq_getElem?, List.getElem?_eq_getElem hlt]
    obtain ⟨b0, off, rfl, x0, x1, x2⟩ := hOA.slr.elem (outs.length - 1) hlt
    unfold Rw.val strV at hLS
    simp only at hLS
    have hgt : 0 < outs.length := by omega
    have hix : (outs.length : Int) - 1 = ((outs.length - 1 : Nat) : Int) := by omega
    generalize hlast : outs[outs.length - 1]'hlt = z at *
    have HLAST := Lib.hid hlast
    clear hlast hem
    cases hless : z.less ⟨q1.1, q2.1, q3.1⟩
    · have hP : PD = ([], 9) := by rw [HDD.out, if_neg (by simp [stepOk, hfe, hless])]; rfl
      subst hP
      clear HDD hfe
      rw [hless] at hLS
      refine wp_region_dag' (C := fun w' => Keep y1 w') (R := Keep) [none, some (tV (.bool false)), none, some (tV (.agg #[.int .i64 (q1.1 : Int), .string ⟨q2.1.toArray⟩, .string ⟨q3.1.toArray⟩])), some (tV (.bool true)), none, none, none, none, none, none, none, none, none, none, none, none, some (tV (.agg #[.int .i64 z.t, .string ⟨z.k.toArray⟩, .string ⟨z.v.toArray⟩])), some (tV (.agg #[.int .i64 (q1.1 : Int), .string ⟨q2.1.toArray⟩, .string ⟨q3.1.toArray⟩])), some (tV (.bool false)), none, none, none]
        (by kernel_rfl) (by kernel_rfl) (Keep.refl y1).drew ?_
      refine dagT_pure rfl ?_
      go_big_quiet_step (fail)
      refine dagT_on ?_
      refine dagT_told (by kernel_rfl) ?_ ?_
      · intro w2 hC hF
        refine Gives.call (by go_simp) (bad_any rb q3.2 w2 (hrA.keep hC)) ?_
        rintro e w' ⟨rfl, rfl⟩
        exact ⟨_, rfl, hC, Keep.refl _, by rw [hbad]; rfl⟩
      intro vv w2 hC hF hvv
      clear hC hF
      obtain rfl := hvv
      simp only [Act.put, List.setIfInBounds_toArray, List.set_cons_zero, List.set_cons_succ]
      refine dagT_pure rfl ?_
      go_big_quiet_step (fail)
      refine dagT_on ?_
      refine dagT_told (by kernel_rfl) ?_ ?_
      · intro w2 hC hF
        obtain ⟨c0, c1, c2⟩ := (hX.keep hC).cells
        exact Gives.value (v := .agg #[.int .i64 (q1.1 : Int), .string ⟨q2.1.toArray⟩, .string ⟨q3.1.toArray⟩]) (w' := w2) (by go_simp) ⟨hC, Keep.refl _, rfl⟩
      intro vv w2 hC hF hvv
      clear hC hF
      obtain rfl := hvv
      simp only [Act.put, List.setIfInBounds_toArray, List.set_cons_zero, List.set_cons_succ]
      refine dagT_told (by kernel_rfl) ?_ ?_
      · intro w2 hC hF
        refine Gives.call (by go_simp) (hRT w2) ?_
        rintro e w' ⟨rfl, hk⟩
        exact ⟨_, rfl, hC.trans' hk, hk, rfl⟩
      intro vv w2 hC hF hvv
      clear hC hF
      obtain rfl := hvv
      simp only [Act.put, List.setIfInBounds_toArray, List.set_cons_zero, List.set_cons_succ]
      refine dagT_pure rfl ?_
      go_big_quiet_step (fail)
      refine dagT_on ?_
      refine dagT_pure rfl ?_
      go_big_quiet_step (fail)
      refine dagT_on ?_
      refine dagT_pure rfl ?_
      go_big_quiet_step (fail)
      refine dagT_on ?_
      refine dagT_pure rfl ?_
      go_big_quiet_step (fail)
      refine dagT_on ?_
      refine dagT_pure rfl ?_
      go_big_quiet_step (fail)
      refine dagT_on ?_
      refine dagT_pure rfl ?_
      go_big_quiet_step (fail)
      refine dagT_on ?_
      refine dagT_pure rfl ?_
      go_big_quiet_step (fail)
      refine dagT_on ?_
      refine dagT_pure rfl ?_
      go_big_quiet_step (fail)
      refine dagT_on ?_
      refine dagT_pure rfl ?_
      go_big_quiet_step (fail)
      refine dagT_on ?_
      refine dagT_pure rfl ?_
      go_big_quiet_step (fail)
      refine dagT_on ?_
      refine dagT_pure rfl ?_
      go_big_quiet_step (fail)
      refine dagT_on ?_
      refine dagT_pure rfl ?_
      go_big_quiet_step (fail)
      refine dagT_on ?_
      refine dagT_told (by kernel_rfl) ?_ ?_
      · intro w2 hC hF
        have z0 := (hC.cell (World.block_lt_of_cell? _ _ x0)).trans x0
        have z1 := (hC.cell (World.block_lt_of_cell? _ _ x1)).trans x1
        have z2 := (hC.cell (World.block_lt_of_cell? _ _ x2)).trans x2
        exact Gives.value (v := .agg #[.int .i64 z.t, .string ⟨z.k.toArray⟩, .string ⟨z.v.toArray⟩]) (w' := w2) (by go_simp) ⟨hC, Keep.refl _, rfl⟩
      intro vv w2 hC hF hvv
      clear hC hF
      obtain rfl := hvv
      simp only [Act.put, List.setIfInBounds_toArray, List.set_cons_zero, List.set_cons_succ]
      refine dagT_told (by kernel_rfl) ?_ ?_
      · intro w2 hC hF
        obtain ⟨c0, c1, c2⟩ := (hX.keep hC).cells
        exact Gives.value (v := .agg #[.int .i64 (q1.1 : Int), .string ⟨q2.1.toArray⟩, .string ⟨q3.1.toArray⟩]) (w' := w2) (by go_simp) ⟨hC, Keep.refl _, rfl⟩
      intro vv w2 hC hF hvv
      clear hC hF
      obtain rfl := hvv
      simp only [Act.put, List.setIfInBounds_toArray, List.set_cons_zero, List.set_cons_succ]
      refine dagT_told (by kernel_rfl) ?_ ?_
      · intro w2 hC hF
        refine Gives.call (by go_simp) (hLS w2) ?_
        rintro e w' ⟨rfl, hk⟩
        exact ⟨_, rfl, hC.trans' hk, hk, rfl⟩
      intro vv w2 hC hF hvv
      clear hC hF
      obtain rfl := hvv
      simp only [Act.put, List.setIfInBounds_toArray, List.set_cons_zero, List.set_cons_succ]
      refine dagT_pure rfl ?_
      go_big_quiet_step (fail)
      refine dagT_on ?_
      refine dagT_pure rfl ?_
      go_big_quiet_step (fail)
      refine dagT_on ?_
      refine dagT_pure rfl ?_
      go_big_quiet_step (fail)
      refine dagT_on ?_
      refine dagT_done fun w2 hC hF => ?_
      clear hF
      go_wp2_with fail
      exact bodyPost_ret (v := .tuple #[.slice none 0 0, .int .i64 9]) (by simp [results, Try.results15, go_sem]) rfl ⟨_, rfl, SlR.nil _, hwA.trans' hC⟩
    have hP : PD = endR (decR (N - (j + 1)) (outs ++ [⟨q1.1, q2.1, q3.1⟩]) q3.2) := by rw [HDD.out, if_pos (by simp [stepOk, hbad, hright, hfe, hless])]
    have HP := Lib.hid hP
    clear hP HDD hfe
    rw [hless] at hLS
    refine wp_region_dag' (C := fun w' => Keep y1 w') (R := Keep) [none, some (tV (.bool false)), none, some (tV (.agg #[.int .i64 (q1.1 : Int), .string ⟨q2.1.toArray⟩, .string ⟨q3.1.toArray⟩])), some (tV (.bool true)), none, none, none, none, none, none, none, none, none, none, none, none, some (tV (.agg #[.int .i64 z.t, .string ⟨z.k.toArray⟩, .string ⟨z.v.toArray⟩])), some (tV (.agg #[.int .i64 (q1.1 : Int), .string ⟨q2.1.toArray⟩, .string ⟨q3.1.toArray⟩])), some (tV (.bool true)), none, none, none]
      (by kernel_rfl) (by kernel_rfl) (Keep.refl y1).drew ?_
    refine dagT_pure rfl ?_
    go_big_quiet_step (fail)
    refine dagT_on ?_
    refine dagT_told (by kernel_rfl) ?_ ?_
    · intro w2 hC hF
      refine Gives.call (by go_simp) (bad_any rb q3.2 w2 (hrA.keep hC)) ?_
      rintro e w' ⟨rfl, rfl⟩
      exact ⟨_, rfl, hC, Keep.refl _, by rw [hbad]; rfl⟩
    intro vv w2 hC hF hvv
    clear hC hF
    obtain rfl := hvv
    simp only [Act.put, List.setIfInBounds_toArray, List.set_cons_zero, List.set_cons_succ]
    refine dagT_pure rfl ?_
    go_big_quiet_step (fail)
    refine dagT_on ?_
    refine dagT_told (by kernel_rfl) ?_ ?_
    · intro w2 hC hF
      obtain ⟨c0, c1, c2⟩ := (hX.keep hC).cells
      exact Gives.value (v := .agg #[.int .i64 (q1.1 : Int), .string ⟨q2.1.toArray⟩, .string ⟨q3.1.toArray⟩]) (w' := w2) (by go_simp) ⟨hC, Keep.refl _, rfl⟩
    intro vv w2 hC hF hvv
    clear hC hF
    obtain rfl := hvv
    simp only [Act.put, List.setIfInBounds_toArray, List.set_cons_zero, List.set_cons_succ]
    refine dagT_told (by kernel_rfl) ?_ ?_
    · intro w2 hC hF
      refine Gives.call (by go_simp) (hRT w2) ?_
      rintro e w' ⟨rfl, hk⟩
      exact ⟨_, rfl, hC.trans' hk, hk, rfl⟩
    intro vv w2 hC hF hvv
    clear hC hF
    obtain rfl := hvv
    simp only [Act.put, List.setIfInBounds_toArray, List.set_cons_zero, List.set_cons_succ]
    refine dagT_pure rfl ?_
    go_big_quiet_step (fail)
    refine dagT_on ?_
    refine dagT_pure rfl ?_
    go_big_quiet_step (fail)
    refine dagT_on ?_
    refine dagT_pure rfl ?_
    go_big_quiet_step (fail)
    refine dagT_on ?_
    refine dagT_pure rfl ?_
    go_big_quiet_step (fail)
    refine dagT_on ?_
    refine dagT_pure rfl ?_
    go_big_quiet_step (fail)
    refine dagT_on ?_
    refine dagT_pure rfl ?_
    go_big_quiet_step (fail)
    refine dagT_on ?_
    refine dagT_pure rfl ?_
    go_big_quiet_step (fail)
    refine dagT_on ?_
    refine dagT_pure rfl ?_
    go_big_quiet_step (fail)
    refine dagT_on ?_
    refine dagT_pure rfl ?_
    go_big_quiet_step (fail)
    refine dagT_on ?_
    refine dagT_pure rfl ?_
    go_big_quiet_step (fail)
    refine dagT_on ?_
    refine dagT_pure rfl ?_
    go_big_quiet_step (fail)
    refine dagT_on ?_
    refine dagT_pure rfl ?_
    go_big_quiet_step (fail)
    refine dagT_on ?_
    refine dagT_told (by kernel_rfl) ?_ ?_
    · intro w2 hC hF
      have z0 := (hC.cell (World.block_lt_of_cell? _ _ x0)).trans x0
      have z1 := (hC.cell (World.block_lt_of_cell? _ _ x1)).trans x1
      have z2 := (hC.cell (World.block_lt_of_cell? _ _ x2)).trans x2
      exact Gives.value (v := .agg #[.int .i64 z.t, .string ⟨z.k.toArray⟩, .string ⟨z.v.toArray⟩]) (w' := w2) (by go_simp) ⟨hC, Keep.refl _, rfl⟩
    intro vv w2 hC hF hvv
    clear hC hF
    obtain rfl := hvv
    simp only [Act.put, List.setIfInBounds_toArray, List.set_cons_zero, List.set_cons_succ]
    refine dagT_told (by kernel_rfl) ?_ ?_
    · intro w2 hC hF
      obtain ⟨c0, c1, c2⟩ := (hX.keep hC).cells
      exact Gives.value (v := .agg #[.int .i64 (q1.1 : Int), .string ⟨q2.1.toArray⟩, .string ⟨q3.1.toArray⟩]) (w' := w2) (by go_simp) ⟨hC, Keep.refl _, rfl⟩
    intro vv w2 hC hF hvv
    clear hC hF
    obtain rfl := hvv
    simp only [Act.put, List.setIfInBounds_toArray, List.set_cons_zero, List.set_cons_succ]
    refine dagT_told (by kernel_rfl) ?_ ?_
    · intro w2 hC hF
      refine Gives.call (by go_simp) (hLS w2) ?_
      rintro e w' ⟨rfl, hk⟩
      exact ⟨_, rfl, hC.trans' hk, hk, rfl⟩
    intro vv w2 hC hF hvv
    clear hC hF
    obtain rfl := hvv
    simp only [Act.put, List.setIfInBounds_toArray, List.set_cons_zero, List.set_cons_succ]
    refine dagT_pure rfl ?_
    go_big_quiet_step (fail)
    refine dagT_on ?_
    refine dagT_pure rfl ?_
    go_big_quiet_step (fail)
    refine dagT_on ?_
    refine dagT_pure rfl ?_
    go_big_quiet_step (fail)
    refine dagT_on ?_
    refine dagT_done fun w2 hC hF => ?_
    clear x0 x1 x2
    clear hF
    have hXw := hX.keep hC
    have hrw := hrA.keep hC
    have hOw := hOA.keep hC
    have hww := hwA.trans' hC
    have hgw := Nat.lt_of_lt_of_le hgA hC.size
    clear hX hrA hOA hwA hgA hC
    obtain ⟨c0, c1, c2⟩ := hXw.cells
    go_upto_region 13 with (fail)
    refine wp_region_seq ?_
    refine seqW_pure rfl ?_
    go_big_quiet_step (fail)
    refine seqW_on ?_
    refine seqW_gives (by kernel_rfl) ?_
    refine Gives.value (v := .agg #[.int .i64 (q1.1 : Int), .string ⟨q2.1.toArray⟩, .string ⟨q3.1.toArray⟩]) (w' := w2) (by go_simp) ?_
    simp only [Act.put, List.setIfInBounds_toArray, List.set_cons_zero, List.set_cons_succ]
    refine seqW_gives (by kernel_rfl) ?_
    refine Gives.value (v := .slice (some ⟨w2.heap.size, 0, none⟩) 1 1) (w' := w2.alloc (.cells #[.int .i64 (q1.1 : Int), .string ⟨q2.1.toArray⟩, .string ⟨q3.1.toArray⟩] 32)) (by go_simp) ?_
    have hSl := SlR.laid (w := w2) ⟨q1.1, q2.1, q3.1⟩
    have hka := Keep.alloc w2 (.cells #[.int .i64 (q1.1 : Int), .string ⟨q2.1.toArray⟩, .string ⟨q3.1.toArray⟩] 32)
    have hO9 := hOw.keep hka
    have hk9 := hww.trans' hka
    have hr9 := hrw.keep hka
    have hg9 := Nat.lt_of_lt_of_le hgw hka.size
    clear hXw hrw hOw hww hgw c0 c1 c2 hka
    simp only at hSl
    generalize w2.alloc (.cells #[.int .i64 (q1.1 : Int), .string ⟨q2.1.toArray⟩, .string ⟨q3.1.toArray⟩] 32) = m9 at *
    simp only [Act.put, List.setIfInBounds_toArray, List.set_cons_zero, List.set_cons_succ]
    refine seqW_gives (by kernel_rfl) ?_
    refine Gives.appendR _ _ rfl rfl rfl hO9 hSl (by have := HOJ.out; simp; omega) (by omega) ?_
    intro v' w' hO' hgr
    have hb' : Below (rb + 1) m9 w' := (Below.refl _ _).grown hgr (by omega) (fun j hj => (hO9.lt j hj).1)
    have hk' : Keep w w' := hk9.trans (hb'.mono (by omega))
    have hr' := hr9.above hb' (by omega)
    have hg' : rb < w'.heap.size := Nat.lt_of_lt_of_le hg9 hb'.size
    clear hgr hO9 hSl hk9 hr9 hb'
    simp only [Act.put, List.setIfInBounds_toArray, List.set_cons_zero, List.set_cons_succ]
    refine seqW_pure rfl ?_
    go_big_quiet_step (fail)
    refine seqW_on ?_
    refine seqW_done ?_
    go_wp2
    go_roundw
    case rel => exact ⟨j + 1, outs ++ [⟨q1.1, q2.1, q3.1⟩], q3.2, by omega, by go_num, hO', hr', HP, by rw [List.length_append, HOJ.out]; rfl, hs3, hk', hg'⟩
    case measure => simp [intOf]; omega
end Go.Proofs.Ytllknflphgahfaa
