/- The walk of the document's Rows of layer 14. -/
import Derived.Test.YtllknflphgahfaaPortRefL
import Derived.Test.YtllknflphgahfaaRefBytes
namespace Go.Proofs.Ytllknflphgahfaa
open Go Go.RowKit
attribute [local irreducible] Go.wpQuiet

theorem RwAt.set0 {w : World} {g : Nat} {r : Rw} (h : RwAt w g r) (x : Int) : RwAt (w.setCell ⟨g, 0, none⟩ (.int .i64 x)) g ⟨x, r.k, r.v⟩ := by
  have := heap_setCell_same w g 0 _ _ (.int .i64 x) h
  exact this
theorem RwAt.set1 {w : World} {g : Nat} {r : Rw} (h : RwAt w g r) (x : List UInt8) : RwAt (w.setCell ⟨g, 1, none⟩ (.string ⟨x.toArray⟩)) g ⟨r.t, x, r.v⟩ := by
  have := heap_setCell_same w g 1 _ _ (.string ⟨x.toArray⟩) h
  exact this
theorem RwAt.set2 {w : World} {g : Nat} {r : Rw} (h : RwAt w g r) (x : List UInt8) : RwAt (w.setCell ⟨g, 2, none⟩ (.string ⟨x.toArray⟩)) g ⟨r.t, r.k, x⟩ := by
  have := heap_setCell_same w g 2 _ _ (.string ⟨x.toArray⟩) h
  exact this
theorem RwAt.free {w : World} {g : Nat} {r : Rw} (h : RwAt w g r) (i : Nat) : w.frozen? ⟨g, i, none⟩ = false := by
  unfold World.frozen?
  simp [show w.heap[g]? = _ from h]
theorem SlB.mid {w : World} {blk off n cap : Nat} {l : List UInt8} (h : SlB w (.slice (some ⟨blk, off, none⟩) n cap) l) (lo k : Nat) (h0 : 0 < lo) (h1 : lo + k ≤ n) (h2 : lo < cap) : SlB w (.slice (some ⟨blk, off + lo, none⟩) (lo + k - lo) (cap - lo)) ((l.drop lo).take k) := by
  have h3 := h.cut lo (lo + k) (by omega) h1
  unfold sliced at h3
  rw [if_neg (by omega)] at h3
  have e : lo + k - lo = k := by omega
  rw [e, Nat.mul_one] at h3
  rw [e]
  have e2 : (some (⟨blk, off, none⟩ : Addr)).map (fun x => x.add lo) = some ⟨blk, off + lo, none⟩ := by
    simp only [Option.map_some]
    unfold Addr.add
    rw [if_neg (by omega)]
  rw [e2] at h3
  exact h3

set_option maxRecDepth 100000 in
set_option maxHeartbeats 8000000 in
theorem refrows_any (v : Value) (b : List UInt8) (w : World) (hv : SlB w v b) (hl : b.length ≤ 1000000) : Calls Try.prog 17 #[v] w fun e w' => ∃ v', e = .returned (.tuple #[v', .int .i64 (portDec b).2]) ∧ SlR w' v' (portDec b).1 ∧ Keep w w' := by
  obtain ⟨PD, hPD⟩ : ∃ PD, portDec b = PD := ⟨_, rfl⟩
  have HPD := Lib.hid hPD
  rw [hPD]
  clear hPD
  obtain ⟨a0, c0, rfl, -, hc0, -⟩ := hv.form
  go_enter Try.func17, Try.ntmps17
  by_cases h10 : b.length < 10
  · have hP : PD = ([], 9) := by rw [← HPD.out]; unfold portDec; rw [if_neg (fun h => absurd h.1 (by omega))]
    have t1 : decide ((b.length : Int) < 10) = true := decide_eq_true (by omega)
    subst hP
    clear h10
    go_wp2
    exact bodyPost_ret (v := .tuple #[.slice none 0 0, .int .i64 9]) (by simp [results, Try.results17, go_sem]) rfl ⟨_, rfl, SlR.nil _, Keep.refl _⟩
  have t1 : decide ((b.length : Int) < 10) = false := decide_eq_false (by omega)
  have hv4 := hv.upto 4 (by omega)
  have hv4' : SlB w (.slice a0 4 c0) (b.take 4) := by
    unfold sliced at hv4
    cases a0 with
    | none => simpa using hv4
    | some a => simpa [Addr.add] using hv4
  clear hv4
  have hto := run_toString (P := Try.prog) Try.underlying26 Try.underlying5 Try.underlying9 hv4'
  unfold strV at hto
  by_cases hmag : b.take 4 = magicL
  rotate_left
  · have hP : PD = ([], 9) := by rw [← HPD.out]; unfold portDec; rw [if_neg (fun h => hmag h.2.1)]
    have tm : (List.take 4 b == [84, 78, 77, 49]) = false := beq_eq_false_iff_ne.2 hmag
    subst hP
    clear hmag
    go_wp2
    exact bodyPost_ret (v := .tuple #[.slice none 0 0, .int .i64 9]) (by simp [results, Try.results17, go_sem]) rfl ⟨_, rfl, SlR.nil _, Keep.refl _⟩
  have tm : (List.take 4 b == [84, 78, 77, 49]) = true := beq_iff_eq.2 hmag
  clear hmag
  go_upto_region 3 with (fail)
  clear hto tm hv4' t1
  obtain ⟨blk, off, rfl, hcell⟩ := hv.cells (by omega)
  have h10' : 10 ≤ b.length := by omega
  have z4 := hcell 4 (by omega)
  have z5 := hcell 5 (by omega)
  have h4 : 4 < b.length := by omega
  have h5 : 5 < b.length := by omega
  obtain ⟨N, hN⟩ : ∃ N, N = (b[4]'h4).toNat * 256 + (b[5]'h5).toNat := ⟨_, rfl⟩
  have HN := Lib.hid hN
  generalize b[4]'h4 = b4 at z4 hN
  generalize b[5]'h5 = b5 at z5 hN
  have l4 : b4.toNat < 256 := b4.toNat_lt
  have l5 : b5.toNat < 256 := b5.toNat_lt
  have hNI : (b4.toNat : Int) * 256 + (b5.toNat : Int) = (N : Int) := by omega
  have hN2 : N < 65536 := by omega
  clear hN
  have hi4 : (4 : Int) < (b.length : Int) := by omega
  have hi5 : (5 : Int) < (b.length : Int) := by omega
  clear h10
  refine wp_region_dag' (C := fun w' => Keep w w') (R := Keep) [none, none, some (tV (.int .u8 (b4.toNat : Int))), none, none, none, none, some (tV (.int .u8 (b5.toNat : Int))), none, none, none]
    (by kernel_rfl) (by kernel_rfl) (Keep.refl w).drew ?_
  refine dagT_pure rfl ?_
  go_big_quiet_step (fail)
  refine dagT_on ?_
  refine dagT_pure rfl ?_
  go_big_quiet_step (fail)
  refine dagT_on ?_
  refine dagT_told (by kernel_rfl) ?_ ?_
  · intro w2 hC hF
    have x0 := (hC.cell (World.block_lt_of_cell? _ _ z4)).trans z4
    exact Gives.value (v := .int .u8 (b4.toNat : Int)) (w' := w2) (by go_simp) ⟨hC, Keep.refl _, rfl⟩
  intro vv w2 hC hF hvv
  clear hC hF
  obtain rfl := hvv
  simp only [Act.put, List.setIfInBounds_toArray, List.set_cons_zero, List.set_cons_succ]
  refine dagT_pure rfl ?_
  go_big_quiet_step (fail)
  refine dagT_on ?_
  refine dagT_pure rfl ?_
  go_big_quiet_step (fail)
  refine dagT_on ?_
  refine dagT_pure rfl ?_
  go_big_quiet_step (fail)
  refine dagT_on ?_
  refine dagT_pure rfl ?_
  go_big_quiet_step (fail)
  refine dagT_on ?_
  refine dagT_told (by kernel_rfl) ?_ ?_
  · intro w2 hC hF
    have x0 := (hC.cell (World.block_lt_of_cell? _ _ z5)).trans z5
    exact Gives.value (v := .int .u8 (b5.toNat : Int)) (w' := w2) (by go_simp) ⟨hC, Keep.refl _, rfl⟩
  intro vv w2 hC hF hvv
  clear hC hF
  obtain rfl := hvv
  simp only [Act.put, List.setIfInBounds_toArray, List.set_cons_zero, List.set_cons_succ]
  refine dagT_pure rfl ?_
  go_big_quiet_step (fail)
  refine dagT_on ?_
  refine dagT_pure rfl ?_
  go_big_quiet_step (fail)
  refine dagT_on ?_
  refine dagT_pure rfl ?_
  go_big_quiet_step (fail)
  refine dagT_on ?_
  refine dagT_done fun w2 hC hF => ?_
  clear hF z4 z5 hi4 hi5
  have hw2 : Keep w w2 := hC
  clear hC

  clear hNI
  go_wp2
  go_loopw [5, 6, 7] (fun av o i wr => ∃ (j at_ : Nat) (outs : List Rw), j ≤ N ∧ i = .int .i64 j ∧ av = .int .i64 at_ ∧ 6 ≤ at_ ∧ at_ ≤ b.length - 4 ∧ OwnR wr w.heap.size o outs ∧ Hid (Rise outs) ∧ Hid (outs.length = j) ∧ Hid (Sofar b N j at_ outs) ∧ Keep w wr) (fun _ _ i _ => N - (intOf i).toNat)
  case atStart => exact ⟨0, 6, [], Nat.zero_le _, rfl, rfl, Nat.le_refl _, by omega, OwnR.nil _ _, Lib.hid trivial, Lib.hid rfl, Lib.hid rfl, hw2⟩
  case round =>
    obtain ⟨j, at_, outs, hj, rfl, rfl, ha6, han, hO, HR, HLN, HSF, hk⟩ := hrel
    obtain ⟨oa, oc, rfl, -, -⟩ := hO.slr.form
    clear hw2
    by_cases hjn : j < N
    rotate_left
    · have hjd : ¬ ((j : Int) < (N : Int)) := by omega
      have hjN : j = N := by omega
      subst hjN
      have hend := end_of b h10' j at_ HN.out outs HSF.out HR.out HLN.out
      rw [HPD.out] at hend
      have HEND := Lib.hid hend
      have hro := rowsL_le outs HR.out.right
      have hln : outs.length ≤ 65535 := by have := HLN.out; omega
      have hSr := hO.slr
      have hvr := hv.keep hk
      clear hend hjn
      go_upto_region 24 with (fail)
      refine wp_region_dag' (C := fun w' => Keep wr w') (R := Keep) [none, some (tB (portL outs)), some (tV (.string ⟨(portL outs).toArray⟩)), none, some (tV (.string ⟨(b).toArray⟩)), none]
        (by kernel_rfl) (by kernel_rfl) (Keep.refl wr).drew ?_
      refine dagT_pure rfl ?_
      go_big_quiet_step (fail)
      refine dagT_on ?_
      refine dagT_told (by kernel_rfl) ?_ ?_
      · intro w2 hC hF
        refine Gives.call (by go_simp) (refbytes_any _ outs w2 (hSr.keep hC) hln (by omega)) ?_
        rintro e w' ⟨v', rfl, hO, hk⟩
        exact ⟨_, rfl, hC.trans' hk, hk, hO.slB⟩
      intro b1 w2 hC hF hb1
      clear hC hF
      obtain ⟨ab1, nb1, cb1, rfl⟩ := SlB.shape hb1
      simp only [Act.put, List.setIfInBounds_toArray, List.set_cons_zero, List.set_cons_succ]
      refine dagT_told (by kernel_rfl) ?_ ?_
      · intro w2 hC hF
        have hto := run_toString (P := Try.prog) Try.underlying26 Try.underlying5 Try.underlying9 (((hF 1 (by kernel_rfl)).1 rfl))
        unfold strV at hto
        exact Gives.value (v := .string ⟨(portL outs).toArray⟩) (w' := w2) (by go_simp) ⟨hC, Keep.refl _, rfl⟩
      intro vv w2 hC hF hvv
      clear hC hF
      obtain rfl := hvv
      simp only [Act.put, List.setIfInBounds_toArray, List.set_cons_zero, List.set_cons_succ]
      refine dagT_pure rfl ?_
      go_big_quiet_step (fail)
      refine dagT_on ?_
      refine dagT_told (by kernel_rfl) ?_ ?_
      · intro w2 hC hF
        have hto := run_toString (P := Try.prog) Try.underlying26 Try.underlying5 Try.underlying9 (hvr.keep hC)
        unfold strV at hto
        exact Gives.value (v := .string ⟨(b).toArray⟩) (w' := w2) (by go_simp) ⟨hC, Keep.refl _, rfl⟩
      intro vv w2 hC hF hvv
      clear hC hF
      obtain rfl := hvv
      simp only [Act.put, List.setIfInBounds_toArray, List.set_cons_zero, List.set_cons_succ]
      refine dagT_pure rfl ?_
      go_big_quiet_step (fail)
      refine dagT_on ?_
      refine dagT_done fun w2 hC hF => ?_
      clear hF
      have hwz := hk.trans' hC
      have hOz := hSr.keep hC
      by_cases heq : portL outs = b
      rotate_left
      · have tq : (!(portL outs == b)) = true := by rw [beq_eq_false_iff_ne.2 heq]; rfl
        rw [tq]
        clear tq
        have hP := HEND.out
        rw [if_neg heq] at hP
        subst hP
        clear heq
        go_wp2
        exact bodyPost_ret (v := .tuple #[.slice none 0 0, .int .i64 9]) (by simp [results, Try.results17, go_sem]) rfl ⟨_, rfl, SlR.nil _, hwz⟩
      have tq : (!(portL outs == b)) = false := by rw [beq_iff_eq.2 heq]; rfl
      rw [tq]
      clear tq
      have hP := HEND.out
      rw [if_pos heq] at hP
      have HP := Lib.hid hP
      clear heq hP HEND
      by_cases h30 : 30 < j
      · have t3 : (30 : Int) < (j : Int) := by omega
        have hP := HP.out
        rw [if_pos h30] at hP
        subst hP
        clear h30 HP
        go_wp2
        exact bodyPost_ret (v := .tuple #[.slice none 0 0, .int .i64 7]) (by simp [results, Try.results17, go_sem]) rfl ⟨_, rfl, SlR.nil _, hwz⟩
      have t3 : ¬ ((30 : Int) < (j : Int)) := by omega
      have hP := HP.out
      rw [if_neg h30] at hP
      subst hP
      clear h30 HP
      go_wp2
      exact bodyPost_ret (v := .tuple #[.slice oa outs.length oc, .int .i64 0]) (by simp [results, Try.results17, go_sem]) rfl ⟨_, rfl, hOz, hwz⟩
    have hjd : (j : Int) < (N : Int) := by omega
    go_upto_region 10 with (fail)
    have hX := RwAt.new wr ⟨0, [], []⟩
    have hkA := Keep.alloc wr (.cells #[.int .i64 0, .string ⟨[].toArray⟩, .string ⟨[].toArray⟩] 32)
    have hOA := hO.keep hkA
    have hwA := hk.trans' hkA
    have hgo : ∀ g', (Value.slice oa outs.length oc).ownBlock = some g' → g' < wr.heap.size := fun g' e => (hO.lt g' e).2
    have hgw := hk.size
    clear hO hk hkA
    simp only at hX
    generalize wr.alloc (.cells #[.int .i64 0, .string ⟨[].toArray⟩, .string ⟨[].toArray⟩] 32) = y1 at *
    generalize wr.heap.size = gx at *
    by_cases hA : b.length - 4 < at_ + 2
    · have tA : (b.length : Int) - 4 < (at_ : Int) + 2 := by omega
      have hP := fail_short b h10' N j at_ HN.out outs HSF.out hjn hA
      rw [HPD.out] at hP
      subst hP
      clear hA
      go_wp2
      exact bodyPost_ret (v := .tuple #[.slice none 0 0, .int .i64 9]) (by simp [results, Try.results17, go_sem]) rfl ⟨_, rfl, SlR.nil _, hwA⟩
    have tA : ¬ ((b.length : Int) - 4 < (at_ : Int) + 2) := by omega
    have hA2 : at_ + 2 ≤ b.length - 4 := by omega
    clear hA
    have hat1 : at_ + 1 < b.length := by omega
    have hat0 : at_ < b.length := by omega
    have zk := (hwA.cell (World.block_lt_of_cell? _ _ (hcell (at_ + 1) hat1))).trans (hcell (at_ + 1) hat1)
    have zt := (hwA.cell (World.block_lt_of_cell? _ _ (hcell at_ hat0))).trans (hcell at_ hat0)
    obtain ⟨K, hK⟩ : ∃ K, (b[at_ + 1]'hat1).toNat = K := ⟨_, rfl⟩
    have HK := Lib.hid hK
    rw [hK] at zk
    have hK2 : K < 256 := by rw [← hK]; exact (b[at_ + 1]'hat1).toNat_lt
    generalize ht : b[at_]'hat0 = t at *
    have HT := Lib.hid ht
    have ht2 : t.toNat < 256 := t.toNat_lt
    clear hK ht
    have hia : (at_ : Int) + 1 < (b.length : Int) := by omega
    have hib : (at_ : Int) < (b.length : Int) := by omega
    by_cases hB : b.length - 4 < at_ + 2 + K + 1
    · have tB : (b.length : Int) - 4 < (at_ : Int) + 2 + (K : Int) + 1 := by omega
      have hP := fail_key b h10' N j at_ HN.out outs HSF.out hjn hA2 (by rw [HK.out]; exact hB)
      rw [HPD.out] at hP
      subst hP
      clear hB
      go_wp2
      exact bodyPost_ret (v := .tuple #[.slice none 0 0, .int .i64 9]) (by simp [results, Try.results17, go_sem]) rfl ⟨_, rfl, SlR.nil _, hwA⟩
    have tB : ¬ ((b.length : Int) - 4 < (at_ : Int) + 2 + (K : Int) + 1) := by omega
    have hB2 : at_ + 2 + K + 1 ≤ b.length - 4 := by omega
    clear hB
    obtain ⟨n0, n1, n2⟩ := hX.cells
    have f0 := hX.free 0
    have hX2 := hX.set0 (t.toNat : Int)
    have hO2 : OwnR (y1.setCell ⟨gx, 0, none⟩ (.int .i64 (t.toNat : Int))) w.heap.size (.slice oa outs.length oc) outs := hOA.at fun g' e _ => Below.heap_setCell y1 ⟨gx, 0, none⟩ _ g' (fun e' => by have := hgo g' e; simp only at e'; omega)
    have hw2 : Keep w (y1.setCell ⟨gx, 0, none⟩ (.int .i64 (t.toNat : Int))) := Keep.setCell hwA hgw _
    go_upto_region 14 with (fail)
    clear hX hOA hwA n0 n1 n2 f0 zk zt
    simp only at hX2
    generalize y1.setCell ⟨gx, 0, none⟩ (.int .i64 (t.toNat : Int)) = y2 at *
    refine wp_region_seq ?_
    refine seqW_pure rfl ?_
    go_big_quiet_step (fail)
    refine seqW_on ?_
    refine seqW_pure rfl ?_
    go_big_quiet_step (fail)
    refine seqW_on ?_
    refine seqW_pure rfl ?_
    go_big_quiet_step (fail)
    refine seqW_on ?_
    refine seqW_pure rfl ?_
    go_big_quiet_step (fail)
    refine seqW_on ?_
    refine seqW_pure rfl ?_
    go_big_quiet_step (fail)
    refine seqW_on ?_
    refine seqW_pure rfl ?_
    go_big_quiet_step (fail)
    refine seqW_on ?_
    refine seqW_pure rfl ?_
    go_big_quiet_step (fail)
    refine seqW_on ?_
    have hca : at_ + 2 ≤ c0 := by omega
    have hcb : at_ + 2 + K ≤ c0 := by omega
    have hcb' : (at_ : Int) + 2 + (K : Int) ≤ (c0 : Int) := by omega
    have hcn : ¬ (c0 = at_ + 2) := by omega
    refine seqW_pure rfl ?_
    go_big_quiet_step (fail)
    refine seqW_on ?_
    have hm2 := (hv.keep hw2).mid (at_ + 2) K (by omega) (by omega) (by omega)
    clear hca hcb hcb' hcn
    have hKS : ((b.drop (at_ + 2)).take K).length = K := by rw [List.length_take, List.length_drop]; omega
    generalize hks : (b.drop (at_ + 2)).take K = KS at *
    have HKS := Lib.hid hks
    clear hks
    have HKL := Lib.hid hKS
    clear hKS
    refine seqW_gives (by kernel_rfl) ?_
    refine Gives.toStr Try.underlying26 Try.underlying5 Try.underlying9 _ rfl rfl hm2 ?_
    unfold strV
    simp only [Act.put, List.setIfInBounds_toArray, List.set_cons_zero, List.set_cons_succ]
    refine seqW_pure rfl ?_
    go_big_quiet_step (fail)
    refine seqW_on ?_
    obtain ⟨n0, n1, n2⟩ := hX2.cells
    have f0 := hX2.free 1
    refine seqW_gives (by kernel_rfl) ?_
    refine Gives.skip (w' := y2.setCell ⟨gx, 1, none⟩ (.string ⟨(KS).toArray⟩)) (by go_simp) ?_
    clear n0 n1 n2 f0
    have hX3 := hX2.set1 KS
    have hO3 : OwnR (y2.setCell ⟨gx, 1, none⟩ (.string ⟨KS.toArray⟩)) w.heap.size (.slice oa outs.length oc) outs := hO2.at fun g' e _ => Below.heap_setCell y2 ⟨gx, 1, none⟩ _ g' (fun e' => by have := hgo g' e; simp only at e'; omega)
    have hw3 : Keep w (y2.setCell ⟨gx, 1, none⟩ (.string ⟨KS.toArray⟩)) := Keep.setCell hw2 hgw _
    simp only at hX3
    clear hm2 hX2 hO2 hw2
    generalize y2.setCell ⟨gx, 1, none⟩ (.string ⟨KS.toArray⟩) = y3 at *
    simp only [Act.put, List.setIfInBounds_toArray, List.set_cons_zero, List.set_cons_succ]
    refine seqW_done ?_
    have hiv : (at_ : Int) + (2 + (K : Int)) < (b.length : Int) := by omega
    have hat3 : at_ + (2 + K) < b.length := by omega
    have hvv0 := hcell (at_ + (2 + K)) hat3
    have zv := (hw3.cell (World.block_lt_of_cell? _ _ hvv0)).trans hvv0
    clear hvv0
    have hvb : b[at_ + 2 + K]'(by omega) = b[at_ + (2 + K)]'hat3 := by congr 1; omega
    generalize hvg : b[at_ + (2 + K)]'hat3 = vb at *
    have HVB := Lib.hid hvb
    have hv2 : vb.toNat < 256 := vb.toNat_lt
    clear hvg hvb
    go_upto_region 17 with (fail)
    clear zv hiv
    by_cases hC : b.length - 4 < at_ + 3 + K + vb.toNat
    · have tC : (b.length : Int) - 4 < (at_ : Int) + (2 + (K : Int)) + 1 + (vb.toNat : Int) := by omega
      have hP := fail_value b h10' N j at_ K t vb HN.out outs HSF.out hjn hA2 HK.out hB2 HT.out HVB.out hC
      rw [HPD.out] at hP
      subst hP
      clear hC
      go_wp2
      exact bodyPost_ret (v := .tuple #[.slice none 0 0, .int .i64 9]) (by simp [results, Try.results17, go_sem]) rfl ⟨_, rfl, SlR.nil _, hw3⟩
    have tC : ¬ ((b.length : Int) - 4 < (at_ : Int) + (2 + (K : Int)) + 1 + (vb.toNat : Int)) := by omega
    have hC2 : at_ + 3 + K + vb.toNat ≤ b.length - 4 := by omega
    clear hC
    go_upto_region 19 with (fail)
    clear tC
    refine wp_region_seq ?_
    refine seqW_pure rfl ?_
    go_big_quiet_step (fail)
    refine seqW_on ?_
    refine seqW_pure rfl ?_
    go_big_quiet_step (fail)
    refine seqW_on ?_
    refine seqW_pure rfl ?_
    go_big_quiet_step (fail)
    refine seqW_on ?_
    refine seqW_pure rfl ?_
    go_big_quiet_step (fail)
    refine seqW_on ?_
    refine seqW_pure rfl ?_
    go_big_quiet_step (fail)
    refine seqW_on ?_
    refine seqW_pure rfl ?_
    go_big_quiet_step (fail)
    refine seqW_on ?_
    refine seqW_pure rfl ?_
    go_big_quiet_step (fail)
    refine seqW_on ?_
    have hca : at_ + (2 + K) + 1 ≤ c0 := by omega
    have hcb : at_ + (2 + K) + 1 + vb.toNat ≤ c0 := by omega
    have hcb' : (at_ : Int) + (2 + (K : Int)) + 1 + (vb.toNat : Int) ≤ (c0 : Int) := by omega
    have hcn : ¬ (c0 = at_ + (2 + K) + 1) := by omega
    refine seqW_pure rfl ?_
    go_big_quiet_step (fail)
    refine seqW_on ?_
    have hm3 := (hv.keep hw3).mid (at_ + (2 + K) + 1) vb.toNat (by omega) (by omega) (by omega)
    clear hca hcb hcb' hcn
    have hVS : ((b.drop (at_ + (2 + K) + 1)).take vb.toNat).length = vb.toNat := by rw [List.length_take, List.length_drop]; omega
    generalize hvs : (b.drop (at_ + (2 + K) + 1)).take vb.toNat = VS at *
    have HVS := Lib.hid hvs
    clear hvs
    have HVL := Lib.hid hVS
    clear hVS
    refine seqW_gives (by kernel_rfl) ?_
    refine Gives.toStr Try.underlying26 Try.underlying5 Try.underlying9 _ rfl rfl hm3 ?_
    unfold strV
    simp only [Act.put, List.setIfInBounds_toArray, List.set_cons_zero, List.set_cons_succ]
    refine seqW_pure rfl ?_
    go_big_quiet_step (fail)
    refine seqW_on ?_
    obtain ⟨n0, n1, n2⟩ := hX3.cells
    have f0 := hX3.free 2
    refine seqW_gives (by kernel_rfl) ?_
    refine Gives.skip (w' := y3.setCell ⟨gx, 2, none⟩ (.string ⟨(VS).toArray⟩)) (by go_simp) ?_
    clear n0 n1 n2 f0
    have hX4 := hX3.set2 VS
    have hO4 : OwnR (y3.setCell ⟨gx, 2, none⟩ (.string ⟨VS.toArray⟩)) w.heap.size (.slice oa outs.length oc) outs := hO3.at fun g' e _ => Below.heap_setCell y3 ⟨gx, 2, none⟩ _ g' (fun e' => by have := hgo g' e; simp only at e'; omega)
    have hw4 : Keep w (y3.setCell ⟨gx, 2, none⟩ (.string ⟨VS.toArray⟩)) := Keep.setCell hw3 hgw _
    simp only at hX4
    clear hm3 hX3 hO3 hw3
    generalize y3.setCell ⟨gx, 2, none⟩ (.string ⟨VS.toArray⟩) = y4 at *
    simp only [Act.put, List.setIfInBounds_toArray, List.set_cons_zero, List.set_cons_succ]
    refine seqW_done ?_
    have hrw : rowAt b at_ K t vb = ⟨t.toNat, KS, VS⟩ := by
      unfold rowAt
      rw [HKS.out, ← HVS.out, show at_ + 3 + K = at_ + (2 + K) + 1 by omega]
    have HFR := Lib.hid (fail_row b h10' N j at_ K t vb HN.out outs HSF.out hjn hA2 HK.out hB2 HT.out HVB.out hC2)
    have HNX := Lib.hid (next_row b N j at_ K t vb outs HSF.out hjn hA2 HK.out hB2 HT.out HVB.out hC2)
    rw [hrw, HPD.out] at HFR
    rw [hrw] at HNX
    clear hrw
    generalize hrr : (⟨t.toNat, KS, VS⟩ : Rw) = r at HFR HNX
    have HRD := Lib.hid hrr
    have s1 := size_str KS
    have s2 := size_str VS
    have hjI : Hid (outs.length = j) := HLN
    by_cases hr : r.right = true
    rotate_left
    · have hr' : r.right = false := by simpa using hr
      have hP := HFR.out (by rw [hr']; rfl)
      subst hP
      have hrn : ¬ (0 ≤ (t.toNat : Int) ∧ (t.toNat : Int) < 4 ∧ KS.length ≤ 15 ∧ VS.length ≤ 21) := fun h => hr (by rw [← hrr]; exact (Rw.right_iff _).2 h)
      clear hr hr' HFR HNX hrr
      by_cases t1 : (3 : Int) < (t.toNat : Int)
      · go_upto_region 21 with (fail)
        refine wp_region_dag' (C := fun w' => Keep y4 w') (R := Keep) [none, some (tV (.int .i64 (t.toNat : Int))), none, none, none, none, none, none, none, none, none, none, none, none, none, none, none, none, none, none, none, none, none, none, none, none, none, none, none]
          (by kernel_rfl) (by kernel_rfl) (Keep.refl y4).drew ?_
        refine dagT_pure rfl ?_
        go_big_quiet_step (fail)
        refine dagT_on ?_
        refine dagT_told (by kernel_rfl) ?_ ?_
        · intro w2 hC hF
          obtain ⟨c0, c1, c2⟩ := (hX4.keep hC).cells
          exact Gives.value (v := .int .i64 (t.toNat : Int)) (w' := w2) (by go_simp) ⟨hC, Keep.refl _, rfl⟩
        intro vv w2 hC hF hvv
        clear hC hF
        obtain rfl := hvv
        simp only [Act.put, List.setIfInBounds_toArray, List.set_cons_zero, List.set_cons_succ]
        refine dagT_pure rfl ?_
        go_big_quiet_step (fail)
        refine dagT_on ?_
        refine dagT_pure rfl ?_
        go_big_quiet_step (fail)
        refine dagT_on ?_
        refine dagT_skip (by kernel_rfl) ?_
        simp only [Act.put, List.setIfInBounds_toArray, List.set_cons_zero, List.set_cons_succ]
        refine dagT_skip (by kernel_rfl) ?_
        simp only [Act.put, List.setIfInBounds_toArray, List.set_cons_zero, List.set_cons_succ]
        refine dagT_skip (by kernel_rfl) ?_
        simp only [Act.put, List.setIfInBounds_toArray, List.set_cons_zero, List.set_cons_succ]
        refine dagT_skip (by kernel_rfl) ?_
        simp only [Act.put, List.setIfInBounds_toArray, List.set_cons_zero, List.set_cons_succ]
        refine dagT_pure rfl ?_
        go_big_quiet_step (fail)
        refine dagT_on ?_
        refine dagT_pure rfl ?_
        go_big_quiet_step (fail)
        refine dagT_on ?_
        refine dagT_skip (by kernel_rfl) ?_
        simp only [Act.put, List.setIfInBounds_toArray, List.set_cons_zero, List.set_cons_succ]
        refine dagT_skip (by kernel_rfl) ?_
        simp only [Act.put, List.setIfInBounds_toArray, List.set_cons_zero, List.set_cons_succ]
        refine dagT_skip (by kernel_rfl) ?_
        simp only [Act.put, List.setIfInBounds_toArray, List.set_cons_zero, List.set_cons_succ]
        refine dagT_skip (by kernel_rfl) ?_
        simp only [Act.put, List.setIfInBounds_toArray, List.set_cons_zero, List.set_cons_succ]
        refine dagT_pure rfl ?_
        go_big_quiet_step (fail)
        refine dagT_on ?_
        refine dagT_pure rfl ?_
        go_big_quiet_step (fail)
        refine dagT_on ?_
        refine dagT_skip (by kernel_rfl) ?_
        simp only [Act.put, List.setIfInBounds_toArray, List.set_cons_zero, List.set_cons_succ]
        refine dagT_skip (by kernel_rfl) ?_
        simp only [Act.put, List.setIfInBounds_toArray, List.set_cons_zero, List.set_cons_succ]
        refine dagT_skip (by kernel_rfl) ?_
        simp only [Act.put, List.setIfInBounds_toArray, List.set_cons_zero, List.set_cons_succ]
        refine dagT_skip (by kernel_rfl) ?_
        simp only [Act.put, List.setIfInBounds_toArray, List.set_cons_zero, List.set_cons_succ]
        refine dagT_skip (by kernel_rfl) ?_
        simp only [Act.put, List.setIfInBounds_toArray, List.set_cons_zero, List.set_cons_succ]
        refine dagT_skip (by kernel_rfl) ?_
        simp only [Act.put, List.setIfInBounds_toArray, List.set_cons_zero, List.set_cons_succ]
        refine dagT_skip (by kernel_rfl) ?_
        simp only [Act.put, List.setIfInBounds_toArray, List.set_cons_zero, List.set_cons_succ]
        refine dagT_skip (by kernel_rfl) ?_
        simp only [Act.put, List.setIfInBounds_toArray, List.set_cons_zero, List.set_cons_succ]
        refine dagT_skip (by kernel_rfl) ?_
        simp only [Act.put, List.setIfInBounds_toArray, List.set_cons_zero, List.set_cons_succ]
        refine dagT_skip (by kernel_rfl) ?_
        simp only [Act.put, List.setIfInBounds_toArray, List.set_cons_zero, List.set_cons_succ]
        refine dagT_skip (by kernel_rfl) ?_
        simp only [Act.put, List.setIfInBounds_toArray, List.set_cons_zero, List.set_cons_succ]
        refine dagT_skip (by kernel_rfl) ?_
        simp only [Act.put, List.setIfInBounds_toArray, List.set_cons_zero, List.set_cons_succ]
        refine dagT_pure rfl ?_
        go_big_quiet_step (fail)
        refine dagT_on ?_
        refine dagT_done fun w2 hC hF => ?_
        clear hF
        go_wp2
        exact bodyPost_ret (v := .tuple #[.slice none 0 0, .int .i64 9]) (by simp [results, Try.results17, go_sem]) rfl ⟨_, rfl, SlR.nil _, hw4.trans' hC⟩
      by_cases t2 : (15 : Int) < (KS.length : Int)
      · go_upto_region 21 with (fail)
        refine wp_region_dag' (C := fun w' => Keep y4 w') (R := Keep) [none, some (tV (.int .i64 (t.toNat : Int))), none, none, none, some (tV (.string ⟨KS.toArray⟩)), none, none, none, none, none, none, none, none, none, none, none, none, none, none, none, none, none, none, none, none, none, none, none]
          (by kernel_rfl) (by kernel_rfl) (Keep.refl y4).drew ?_
        refine dagT_pure rfl ?_
        go_big_quiet_step (fail)
        refine dagT_on ?_
        refine dagT_told (by kernel_rfl) ?_ ?_
        · intro w2 hC hF
          obtain ⟨c0, c1, c2⟩ := (hX4.keep hC).cells
          exact Gives.value (v := .int .i64 (t.toNat : Int)) (w' := w2) (by go_simp) ⟨hC, Keep.refl _, rfl⟩
        intro vv w2 hC hF hvv
        clear hC hF
        obtain rfl := hvv
        simp only [Act.put, List.setIfInBounds_toArray, List.set_cons_zero, List.set_cons_succ]
        refine dagT_pure rfl ?_
        go_big_quiet_step (fail)
        refine dagT_on ?_
        refine dagT_pure rfl ?_
        go_big_quiet_step (fail)
        refine dagT_on ?_
        refine dagT_pure rfl ?_
        go_big_quiet_step (fail)
        refine dagT_on ?_
        refine dagT_told (by kernel_rfl) ?_ ?_
        · intro w2 hC hF
          obtain ⟨c0, c1, c2⟩ := (hX4.keep hC).cells
          exact Gives.value (v := .string ⟨KS.toArray⟩) (w' := w2) (by go_simp) ⟨hC, Keep.refl _, rfl⟩
        intro vv w2 hC hF hvv
        clear hC hF
        obtain rfl := hvv
        simp only [Act.put, List.setIfInBounds_toArray, List.set_cons_zero, List.set_cons_succ]
        refine dagT_pure rfl ?_
        go_big_quiet_step (fail)
        refine dagT_on ?_
        refine dagT_pure rfl ?_
        go_big_quiet_step (fail)
        refine dagT_on ?_
        refine dagT_pure rfl ?_
        go_big_quiet_step (fail)
        refine dagT_on ?_
        refine dagT_pure rfl ?_
        go_big_quiet_step (fail)
        refine dagT_on ?_
        refine dagT_skip (by kernel_rfl) ?_
        simp only [Act.put, List.setIfInBounds_toArray, List.set_cons_zero, List.set_cons_succ]
        refine dagT_skip (by kernel_rfl) ?_
        simp only [Act.put, List.setIfInBounds_toArray, List.set_cons_zero, List.set_cons_succ]
        refine dagT_skip (by kernel_rfl) ?_
        simp only [Act.put, List.setIfInBounds_toArray, List.set_cons_zero, List.set_cons_succ]
        refine dagT_skip (by kernel_rfl) ?_
        simp only [Act.put, List.setIfInBounds_toArray, List.set_cons_zero, List.set_cons_succ]
        refine dagT_pure rfl ?_
        go_big_quiet_step (fail)
        refine dagT_on ?_
        refine dagT_pure rfl ?_
        go_big_quiet_step (fail)
        refine dagT_on ?_
        refine dagT_skip (by kernel_rfl) ?_
        simp only [Act.put, List.setIfInBounds_toArray, List.set_cons_zero, List.set_cons_succ]
        refine dagT_skip (by kernel_rfl) ?_
        simp only [Act.put, List.setIfInBounds_toArray, List.set_cons_zero, List.set_cons_succ]
        refine dagT_skip (by kernel_rfl) ?_
        simp only [Act.put, List.setIfInBounds_toArray, List.set_cons_zero, List.set_cons_succ]
        refine dagT_skip (by kernel_rfl) ?_
        simp only [Act.put, List.setIfInBounds_toArray, List.set_cons_zero, List.set_cons_succ]
        refine dagT_skip (by kernel_rfl) ?_
        simp only [Act.put, List.setIfInBounds_toArray, List.set_cons_zero, List.set_cons_succ]
        refine dagT_skip (by kernel_rfl) ?_
        simp only [Act.put, List.setIfInBounds_toArray, List.set_cons_zero, List.set_cons_succ]
        refine dagT_skip (by kernel_rfl) ?_
        simp only [Act.put, List.setIfInBounds_toArray, List.set_cons_zero, List.set_cons_succ]
        refine dagT_skip (by kernel_rfl) ?_
        simp only [Act.put, List.setIfInBounds_toArray, List.set_cons_zero, List.set_cons_succ]
        refine dagT_skip (by kernel_rfl) ?_
        simp only [Act.put, List.setIfInBounds_toArray, List.set_cons_zero, List.set_cons_succ]
        refine dagT_skip (by kernel_rfl) ?_
        simp only [Act.put, List.setIfInBounds_toArray, List.set_cons_zero, List.set_cons_succ]
        refine dagT_skip (by kernel_rfl) ?_
        simp only [Act.put, List.setIfInBounds_toArray, List.set_cons_zero, List.set_cons_succ]
        refine dagT_skip (by kernel_rfl) ?_
        simp only [Act.put, List.setIfInBounds_toArray, List.set_cons_zero, List.set_cons_succ]
        refine dagT_pure rfl ?_
        go_big_quiet_step (fail)
        refine dagT_on ?_
        refine dagT_done fun w2 hC hF => ?_
        clear hF
        go_wp2
        exact bodyPost_ret (v := .tuple #[.slice none 0 0, .int .i64 9]) (by simp [results, Try.results17, go_sem]) rfl ⟨_, rfl, SlR.nil _, hw4.trans' hC⟩
      have t3 : (21 : Int) < (VS.length : Int) := by omega
      clear hrn
      go_upto_region 21 with (fail)
      refine wp_region_dag' (C := fun w' => Keep y4 w') (R := Keep) [none, some (tV (.int .i64 (t.toNat : Int))), none, none, none, some (tV (.string ⟨KS.toArray⟩)), none, none, none, none, none, some (tV (.string ⟨VS.toArray⟩)), none, none, none, none, none, none, none, none, none, none, none, none, none, none, none, none, none]
        (by kernel_rfl) (by kernel_rfl) (Keep.refl y4).drew ?_
      refine dagT_pure rfl ?_
      go_big_quiet_step (fail)
      refine dagT_on ?_
      refine dagT_told (by kernel_rfl) ?_ ?_
      · intro w2 hC hF
        obtain ⟨c0, c1, c2⟩ := (hX4.keep hC).cells
        exact Gives.value (v := .int .i64 (t.toNat : Int)) (w' := w2) (by go_simp) ⟨hC, Keep.refl _, rfl⟩
      intro vv w2 hC hF hvv
      clear hC hF
      obtain rfl := hvv
      simp only [Act.put, List.setIfInBounds_toArray, List.set_cons_zero, List.set_cons_succ]
      refine dagT_pure rfl ?_
      go_big_quiet_step (fail)
      refine dagT_on ?_
      refine dagT_pure rfl ?_
      go_big_quiet_step (fail)
      refine dagT_on ?_
      refine dagT_pure rfl ?_
      go_big_quiet_step (fail)
      refine dagT_on ?_
      refine dagT_told (by kernel_rfl) ?_ ?_
      · intro w2 hC hF
        obtain ⟨c0, c1, c2⟩ := (hX4.keep hC).cells
        exact Gives.value (v := .string ⟨KS.toArray⟩) (w' := w2) (by go_simp) ⟨hC, Keep.refl _, rfl⟩
      intro vv w2 hC hF hvv
      clear hC hF
      obtain rfl := hvv
      simp only [Act.put, List.setIfInBounds_toArray, List.set_cons_zero, List.set_cons_succ]
      refine dagT_pure rfl ?_
      go_big_quiet_step (fail)
      refine dagT_on ?_
      refine dagT_pure rfl ?_
      go_big_quiet_step (fail)
      refine dagT_on ?_
      refine dagT_pure rfl ?_
      go_big_quiet_step (fail)
      refine dagT_on ?_
      refine dagT_pure rfl ?_
      go_big_quiet_step (fail)
      refine dagT_on ?_
      refine dagT_pure rfl ?_
      go_big_quiet_step (fail)
      refine dagT_on ?_
      refine dagT_told (by kernel_rfl) ?_ ?_
      · intro w2 hC hF
        obtain ⟨c0, c1, c2⟩ := (hX4.keep hC).cells
        exact Gives.value (v := .string ⟨VS.toArray⟩) (w' := w2) (by go_simp) ⟨hC, Keep.refl _, rfl⟩
      intro vv w2 hC hF hvv
      clear hC hF
      obtain rfl := hvv
      simp only [Act.put, List.setIfInBounds_toArray, List.set_cons_zero, List.set_cons_succ]
      refine dagT_pure rfl ?_
      go_big_quiet_step (fail)
      refine dagT_on ?_
      refine dagT_pure rfl ?_
      go_big_quiet_step (fail)
      refine dagT_on ?_
      refine dagT_pure rfl ?_
      go_big_quiet_step (fail)
      refine dagT_on ?_
      refine dagT_pure rfl ?_
      go_big_quiet_step (fail)
      refine dagT_on ?_
      refine dagT_skip (by kernel_rfl) ?_
      simp only [Act.put, List.setIfInBounds_toArray, List.set_cons_zero, List.set_cons_succ]
      refine dagT_skip (by kernel_rfl) ?_
      simp only [Act.put, List.setIfInBounds_toArray, List.set_cons_zero, List.set_cons_succ]
      refine dagT_skip (by kernel_rfl) ?_
      simp only [Act.put, List.setIfInBounds_toArray, List.set_cons_zero, List.set_cons_succ]
      refine dagT_skip (by kernel_rfl) ?_
      simp only [Act.put, List.setIfInBounds_toArray, List.set_cons_zero, List.set_cons_succ]
      refine dagT_skip (by kernel_rfl) ?_
      simp only [Act.put, List.setIfInBounds_toArray, List.set_cons_zero, List.set_cons_succ]
      refine dagT_skip (by kernel_rfl) ?_
      simp only [Act.put, List.setIfInBounds_toArray, List.set_cons_zero, List.set_cons_succ]
      refine dagT_skip (by kernel_rfl) ?_
      simp only [Act.put, List.setIfInBounds_toArray, List.set_cons_zero, List.set_cons_succ]
      refine dagT_skip (by kernel_rfl) ?_
      simp only [Act.put, List.setIfInBounds_toArray, List.set_cons_zero, List.set_cons_succ]
      refine dagT_skip (by kernel_rfl) ?_
      simp only [Act.put, List.setIfInBounds_toArray, List.set_cons_zero, List.set_cons_succ]
      refine dagT_skip (by kernel_rfl) ?_
      simp only [Act.put, List.setIfInBounds_toArray, List.set_cons_zero, List.set_cons_succ]
      refine dagT_skip (by kernel_rfl) ?_
      simp only [Act.put, List.setIfInBounds_toArray, List.set_cons_zero, List.set_cons_succ]
      refine dagT_skip (by kernel_rfl) ?_
      simp only [Act.put, List.setIfInBounds_toArray, List.set_cons_zero, List.set_cons_succ]
      refine dagT_pure rfl ?_
      go_big_quiet_step (fail)
      refine dagT_on ?_
      refine dagT_done fun w2 hC hF => ?_
      clear hF
      go_wp2
      exact bodyPost_ret (v := .tuple #[.slice none 0 0, .int .i64 9]) (by simp [results, Try.results17, go_sem]) rfl ⟨_, rfl, SlR.nil _, hw4.trans' hC⟩
    obtain ⟨-, r3, rk, rv⟩ : 0 ≤ (t.toNat : Int) ∧ (t.toNat : Int) < 4 ∧ KS.length ≤ 15 ∧ VS.length ≤ 21 := (Rw.right_iff (⟨t.toNat, KS, VS⟩ : Rw)).1 (by rw [hrr]; exact hr)
    have t1 : ¬ ((3 : Int) < (t.toNat : Int)) := by omega
    have t2 : ¬ ((15 : Int) < (KS.length : Int)) := by omega
    have t3 : ¬ ((21 : Int) < (VS.length : Int)) := by omega
    have hln : outs.length ≤ 65536 := by have := HLN.out; omega
    clear r3 rk rv hrr
    cases j with
    | zero =>
      have he : outs = [] := List.eq_nil_of_length_eq_zero HLN.out
      have hnx := HNX.out (by rw [hr, he]; rfl)
      have HN2 := Lib.hid hnx
      have hri : Rise (outs ++ [r]) := by rw [he]; exact hr
      have HRI := Lib.hid hri
      clear he hnx hri HNX HFR hr
      go_upto_region 21 with (fail)
      refine wp_region_dag' (C := fun w' => Keep y4 w') (R := Keep) [none, some (tV (.int .i64 (t.toNat : Int))), none, none, none, some (tV (.string ⟨KS.toArray⟩)), none, none, none, none, none, some (tV (.string ⟨VS.toArray⟩)), none, none, none, none, none, none, none, none, none, none, none, none, none, none, none, none, none]
        (by kernel_rfl) (by kernel_rfl) (Keep.refl y4).drew ?_
      refine dagT_pure rfl ?_
      go_big_quiet_step (fail)
      refine dagT_on ?_
      refine dagT_told (by kernel_rfl) ?_ ?_
      · intro w2 hC hF
        obtain ⟨c0, c1, c2⟩ := (hX4.keep hC).cells
        exact Gives.value (v := .int .i64 (t.toNat : Int)) (w' := w2) (by go_simp) ⟨hC, Keep.refl _, rfl⟩
      intro vv w2 hC hF hvv
      clear hC hF
      obtain rfl := hvv
      simp only [Act.put, List.setIfInBounds_toArray, List.set_cons_zero, List.set_cons_succ]
      refine dagT_pure rfl ?_
      go_big_quiet_step (fail)
      refine dagT_on ?_
      refine dagT_pure rfl ?_
      go_big_quiet_step (fail)
      refine dagT_on ?_
      refine dagT_pure rfl ?_
      go_big_quiet_step (fail)
      refine dagT_on ?_
      refine dagT_told (by kernel_rfl) ?_ ?_
      · intro w2 hC hF
        obtain ⟨c0, c1, c2⟩ := (hX4.keep hC).cells
        exact Gives.value (v := .string ⟨KS.toArray⟩) (w' := w2) (by go_simp) ⟨hC, Keep.refl _, rfl⟩
      intro vv w2 hC hF hvv
      clear hC hF
      obtain rfl := hvv
      simp only [Act.put, List.setIfInBounds_toArray, List.set_cons_zero, List.set_cons_succ]
      refine dagT_pure rfl ?_
      go_big_quiet_step (fail)
      refine dagT_on ?_
      refine dagT_pure rfl ?_
      go_big_quiet_step (fail)
      refine dagT_on ?_
      refine dagT_pure rfl ?_
      go_big_quiet_step (fail)
      refine dagT_on ?_
      refine dagT_pure rfl ?_
      go_big_quiet_step (fail)
      refine dagT_on ?_
      refine dagT_pure rfl ?_
      go_big_quiet_step (fail)
      refine dagT_on ?_
      refine dagT_told (by kernel_rfl) ?_ ?_
      · intro w2 hC hF
        obtain ⟨c0, c1, c2⟩ := (hX4.keep hC).cells
        exact Gives.value (v := .string ⟨VS.toArray⟩) (w' := w2) (by go_simp) ⟨hC, Keep.refl _, rfl⟩
      intro vv w2 hC hF hvv
      clear hC hF
      obtain rfl := hvv
      simp only [Act.put, List.setIfInBounds_toArray, List.set_cons_zero, List.set_cons_succ]
      refine dagT_pure rfl ?_
      go_big_quiet_step (fail)
      refine dagT_on ?_
      refine dagT_pure rfl ?_
      go_big_quiet_step (fail)
      refine dagT_on ?_
      refine dagT_pure rfl ?_
      go_big_quiet_step (fail)
      refine dagT_on ?_
      refine dagT_pure rfl ?_
      go_big_quiet_step (fail)
      refine dagT_on ?_
      refine dagT_pure rfl ?_
      go_big_quiet_step (fail)
      refine dagT_on ?_
      refine dagT_pure rfl ?_
      go_big_quiet_step (fail)
      refine dagT_on ?_
      refine dagT_pure rfl ?_
      go_big_quiet_step (fail)
      refine dagT_on ?_
      refine dagT_skip (by kernel_rfl) ?_
      simp only [Act.put, List.setIfInBounds_toArray, List.set_cons_zero, List.set_cons_succ]
      refine dagT_skip (by kernel_rfl) ?_
      simp only [Act.put, List.setIfInBounds_toArray, List.set_cons_zero, List.set_cons_succ]
      refine dagT_skip (by kernel_rfl) ?_
      simp only [Act.put, List.setIfInBounds_toArray, List.set_cons_zero, List.set_cons_succ]
      refine dagT_skip (by kernel_rfl) ?_
      simp only [Act.put, List.setIfInBounds_toArray, List.set_cons_zero, List.set_cons_succ]
      refine dagT_skip (by kernel_rfl) ?_
      simp only [Act.put, List.setIfInBounds_toArray, List.set_cons_zero, List.set_cons_succ]
      refine dagT_skip (by kernel_rfl) ?_
      simp only [Act.put, List.setIfInBounds_toArray, List.set_cons_zero, List.set_cons_succ]
      refine dagT_skip (by kernel_rfl) ?_
      simp only [Act.put, List.setIfInBounds_toArray, List.set_cons_zero, List.set_cons_succ]
      refine dagT_skip (by kernel_rfl) ?_
      simp only [Act.put, List.setIfInBounds_toArray, List.set_cons_zero, List.set_cons_succ]
      refine dagT_pure rfl ?_
      go_big_quiet_step (fail)
      refine dagT_on ?_
      refine dagT_pure rfl ?_
      go_big_quiet_step (fail)
      refine dagT_on ?_
      refine dagT_done fun w2 hC hF => ?_
      clear hF
      have hXw := hX4.keep hC
      have hOw := hO4.keep hC
      have hww := hw4.trans' hC
      clear hX4 hO4 hw4 hC
      obtain ⟨c0, c1, c2⟩ := hXw.cells
      go_upto_region 23 with (fail)
      refine wp_region_seq ?_
      refine seqW_pure rfl ?_
      go_big_quiet_step (fail)
      refine seqW_on ?_
      refine seqW_gives (by kernel_rfl) ?_
      refine Gives.value (v := .agg #[.int .i64 (t.toNat : Int), .string ⟨KS.toArray⟩, .string ⟨VS.toArray⟩]) (w' := w2) (by go_simp) ?_
      simp only [Act.put, List.setIfInBounds_toArray, List.set_cons_zero, List.set_cons_succ]
      refine seqW_gives (by kernel_rfl) ?_
      refine Gives.value (v := .slice (some ⟨w2.heap.size, 0, none⟩) 1 1) (w' := w2.alloc (.cells #[.int .i64 (t.toNat : Int), .string ⟨KS.toArray⟩, .string ⟨VS.toArray⟩] 32)) (by go_simp) ?_
      have hSl : SlR (w2.alloc (.cells #[.int .i64 (t.toNat : Int), .string ⟨KS.toArray⟩, .string ⟨VS.toArray⟩] 32)) (.slice (some ⟨w2.heap.size, 0, none⟩) 1 1) [r] := by
        rw [← HRD.out]
        exact SlR.laid (w := w2) ⟨t.toNat, KS, VS⟩
      have hka := Keep.alloc w2 (.cells #[.int .i64 (t.toNat : Int), .string ⟨KS.toArray⟩, .string ⟨VS.toArray⟩] 32)
      have hO9 := hOw.keep hka
      have hk9 := hww.trans' hka
      clear hXw hOw hww c0 c1 c2 hka
      generalize w2.alloc (.cells #[.int .i64 (t.toNat : Int), .string ⟨KS.toArray⟩, .string ⟨VS.toArray⟩] 32) = m9 at *
      simp only [Act.put, List.setIfInBounds_toArray, List.set_cons_zero, List.set_cons_succ]
      refine seqW_gives (by kernel_rfl) ?_
      refine Gives.appendR _ _ rfl rfl rfl hO9 hSl (by simp; omega) hk9.size ?_
      intro v' w' hO' hgr
      have hk' : Keep w w' := hk9.grown hgr hk9.size (fun j hj => (hO9.lt j hj).1)
      clear hgr hO9 hSl hk9
      simp only [Act.put, List.setIfInBounds_toArray, List.set_cons_zero, List.set_cons_succ]
      refine seqW_pure rfl ?_
      go_big_quiet_step (fail)
      refine seqW_on ?_
      refine seqW_done ?_
      go_wp2
      go_roundw
      case rel => exact ⟨0 + 1, at_ + 3 + K + vb.toNat, outs ++ [r], by omega, by go_num, by go_num, by omega, by omega, hO', HRI, Lib.hid (by rw [List.length_append, HLN.out]; rfl), HN2, hk'⟩
      case measure => simp [intOf]; omega
    | succ q =>
      have hlt : q < outs.length := by have := HLN.out; omega
      have hfe : follows outs r = (outs[q]'hlt).less r := by
        have hq : q = outs.length - 1 := by have := HLN.out; omega
        unfold follows
        rw [List.getLast?_eq_getElem?, List.getElem?_eq_getElem (by omega)]
        simp only [← hq]
      obtain ⟨b0, off0, rfl, x0, x1, x2⟩ := hO4.slr.elem q hlt
      have hLS := rless_any outs[q] ⟨t.toNat, KS, VS⟩
      have hgt : 0 < outs.length := by omega
      have hq1 : ((q + 1 : Nat) : Int) - 1 = (q : Int) := by omega
      have hqb : (q : Int) < (outs.length : Int) := by omega
      have hsn : (outs[q]'hlt).less r = true → Rise (outs ++ [r]) := fun h => HR.out.snoc r hr (fun _ => by
        have hq : q = outs.length - 1 := by have := HLN.out; omega
        simp only [← hq]
        exact h)
      have HSN := Lib.hid hsn
      rw [HRD.out] at hLS
      generalize hlast : outs[q]'hlt = z at *
      clear hlast hsn
      cases hless : z.less r
      · have hP := HFR.out (by rw [hr, hfe, hless]; rfl)
        subst hP
        rw [hless, ← HRD.out] at hLS
        unfold Rw.val strV at hLS
        clear hfe HNX HFR hr HSN
        go_upto_region 21 with (fail)
        refine wp_region_dag' (C := fun w' => Keep y4 w') (R := Keep) [none, some (tV (.int .i64 (t.toNat : Int))), none, none, none, some (tV (.string ⟨KS.toArray⟩)), none, none, none, none, none, some (tV (.string ⟨VS.toArray⟩)), none, none, none, none, none, none, none, none, none, none, none, some (tV (.agg #[.int .i64 z.t, .string ⟨z.k.toArray⟩, .string ⟨z.v.toArray⟩])), some (tV (.agg #[.int .i64 (t.toNat : Int), .string ⟨KS.toArray⟩, .string ⟨VS.toArray⟩])), some (tV (.bool false)), none, none, none]
          (by kernel_rfl) (by kernel_rfl) (Keep.refl y4).drew ?_
        refine dagT_pure rfl ?_
        go_big_quiet_step (fail)
        refine dagT_on ?_
        refine dagT_told (by kernel_rfl) ?_ ?_
        · intro w2 hC hF
          obtain ⟨c0, c1, c2⟩ := (hX4.keep hC).cells
          exact Gives.value (v := .int .i64 (t.toNat : Int)) (w' := w2) (by go_simp) ⟨hC, Keep.refl _, rfl⟩
        intro vv w2 hC hF hvv
        clear hC hF
        obtain rfl := hvv
        simp only [Act.put, List.setIfInBounds_toArray, List.set_cons_zero, List.set_cons_succ]
        refine dagT_pure rfl ?_
        go_big_quiet_step (fail)
        refine dagT_on ?_
        refine dagT_pure rfl ?_
        go_big_quiet_step (fail)
        refine dagT_on ?_
        refine dagT_pure rfl ?_
        go_big_quiet_step (fail)
        refine dagT_on ?_
        refine dagT_told (by kernel_rfl) ?_ ?_
        · intro w2 hC hF
          obtain ⟨c0, c1, c2⟩ := (hX4.keep hC).cells
          exact Gives.value (v := .string ⟨KS.toArray⟩) (w' := w2) (by go_simp) ⟨hC, Keep.refl _, rfl⟩
        intro vv w2 hC hF hvv
        clear hC hF
        obtain rfl := hvv
        simp only [Act.put, List.setIfInBounds_toArray, List.set_cons_zero, List.set_cons_succ]
        refine dagT_pure rfl ?_
        go_big_quiet_step (fail)
        refine dagT_on ?_
        refine dagT_pure rfl ?_
        go_big_quiet_step (fail)
        refine dagT_on ?_
        refine dagT_pure rfl ?_
        go_big_quiet_step (fail)
        refine dagT_on ?_
        refine dagT_pure rfl ?_
        go_big_quiet_step (fail)
        refine dagT_on ?_
        refine dagT_pure rfl ?_
        go_big_quiet_step (fail)
        refine dagT_on ?_
        refine dagT_told (by kernel_rfl) ?_ ?_
        · intro w2 hC hF
          obtain ⟨c0, c1, c2⟩ := (hX4.keep hC).cells
          exact Gives.value (v := .string ⟨VS.toArray⟩) (w' := w2) (by go_simp) ⟨hC, Keep.refl _, rfl⟩
        intro vv w2 hC hF hvv
        clear hC hF
        obtain rfl := hvv
        simp only [Act.put, List.setIfInBounds_toArray, List.set_cons_zero, List.set_cons_succ]
        refine dagT_pure rfl ?_
        go_big_quiet_step (fail)
        refine dagT_on ?_
        refine dagT_pure rfl ?_
        go_big_quiet_step (fail)
        refine dagT_on ?_
        refine dagT_pure rfl ?_
        go_big_quiet_step (fail)
        refine dagT_on ?_
        refine dagT_pure rfl ?_
        go_big_quiet_step (fail)
        refine dagT_on ?_
        refine dagT_pure rfl ?_
        go_big_quiet_step (fail)
        refine dagT_on ?_
        refine dagT_pure rfl ?_
        go_big_quiet_step (fail)
        refine dagT_on ?_
        refine dagT_pure rfl ?_
        go_big_quiet_step (fail)
        refine dagT_on ?_
        refine dagT_pure rfl ?_
        go_big_quiet_step (fail)
        refine dagT_on ?_
        refine dagT_pure rfl ?_
        go_big_quiet_step (fail)
        refine dagT_on ?_
        refine dagT_pure rfl ?_
        go_big_quiet_step (fail)
        refine dagT_on ?_
        refine dagT_pure rfl ?_
        go_big_quiet_step (fail)
        refine dagT_on ?_
        refine dagT_told (by kernel_rfl) ?_ ?_
        · intro w2 hC hF
          have a0 := (hC.cell (World.block_lt_of_cell? _ _ x0)).trans x0
          have a1 := (hC.cell (World.block_lt_of_cell? _ _ x1)).trans x1
          have a2 := (hC.cell (World.block_lt_of_cell? _ _ x2)).trans x2
          exact Gives.value (v := .agg #[.int .i64 z.t, .string ⟨z.k.toArray⟩, .string ⟨z.v.toArray⟩]) (w' := w2) (by go_simp) ⟨hC, Keep.refl _, rfl⟩
        intro vv w2 hC hF hvv
        clear hC hF
        obtain rfl := hvv
        simp only [Act.put, List.setIfInBounds_toArray, List.set_cons_zero, List.set_cons_succ]
        refine dagT_told (by kernel_rfl) ?_ ?_
        · intro w2 hC hF
          obtain ⟨c0, c1, c2⟩ := (hX4.keep hC).cells
          exact Gives.value (v := .agg #[.int .i64 (t.toNat : Int), .string ⟨KS.toArray⟩, .string ⟨VS.toArray⟩]) (w' := w2) (by go_simp) ⟨hC, Keep.refl _, rfl⟩
        intro vv w2 hC hF hvv
        clear hC hF
        obtain rfl := hvv
        simp only [Act.put, List.setIfInBounds_toArray, List.set_cons_zero, List.set_cons_succ]
        refine dagT_told (by kernel_rfl) ?_ ?_
        · intro w2 hC hF
          refine Gives.call (by go_simp) (hLS w2) ?_
          rintro e w' ⟨rfl, hk⟩
          exact ⟨_, rfl, hC.trans' hk, hk, rfl⟩
        intro vv w2 hC hF hvv
        clear hC hF
        obtain rfl := hvv
        simp only [Act.put, List.setIfInBounds_toArray, List.set_cons_zero, List.set_cons_succ]
        refine dagT_pure rfl ?_
        go_big_quiet_step (fail)
        refine dagT_on ?_
        refine dagT_pure rfl ?_
        go_big_quiet_step (fail)
        refine dagT_on ?_
        refine dagT_pure rfl ?_
        go_big_quiet_step (fail)
        refine dagT_on ?_
        refine dagT_done fun w2 hC hF => ?_
        clear hF
        go_wp2
        exact bodyPost_ret (v := .tuple #[.slice none 0 0, .int .i64 9]) (by simp [results, Try.results17, go_sem]) rfl ⟨_, rfl, SlR.nil _, hw4.trans' hC⟩
      have HN2 := Lib.hid (HNX.out (by rw [hr, hfe, hless]; rfl))
      have HRI := Lib.hid (HSN.out hless)
      rw [hless, ← HRD.out] at hLS
      unfold Rw.val strV at hLS
      clear hfe HNX HFR hr HSN
      go_upto_region 21 with (fail)
      refine wp_region_dag' (C := fun w' => Keep y4 w') (R := Keep) [none, some (tV (.int .i64 (t.toNat : Int))), none, none, none, some (tV (.string ⟨KS.toArray⟩)), none, none, none, none, none, some (tV (.string ⟨VS.toArray⟩)), none, none, none, none, none, none, none, none, none, none, none, some (tV (.agg #[.int .i64 z.t, .string ⟨z.k.toArray⟩, .string ⟨z.v.toArray⟩])), some (tV (.agg #[.int .i64 (t.toNat : Int), .string ⟨KS.toArray⟩, .string ⟨VS.toArray⟩])), some (tV (.bool true)), none, none, none]
        (by kernel_rfl) (by kernel_rfl) (Keep.refl y4).drew ?_
      refine dagT_pure rfl ?_
      go_big_quiet_step (fail)
      refine dagT_on ?_
      refine dagT_told (by kernel_rfl) ?_ ?_
      · intro w2 hC hF
        obtain ⟨c0, c1, c2⟩ := (hX4.keep hC).cells
        exact Gives.value (v := .int .i64 (t.toNat : Int)) (w' := w2) (by go_simp) ⟨hC, Keep.refl _, rfl⟩
      intro vv w2 hC hF hvv
      clear hC hF
      obtain rfl := hvv
      simp only [Act.put, List.setIfInBounds_toArray, List.set_cons_zero, List.set_cons_succ]
      refine dagT_pure rfl ?_
      go_big_quiet_step (fail)
      refine dagT_on ?_
      refine dagT_pure rfl ?_
      go_big_quiet_step (fail)
      refine dagT_on ?_
      refine dagT_pure rfl ?_
      go_big_quiet_step (fail)
      refine dagT_on ?_
      refine dagT_told (by kernel_rfl) ?_ ?_
      · intro w2 hC hF
        obtain ⟨c0, c1, c2⟩ := (hX4.keep hC).cells
        exact Gives.value (v := .string ⟨KS.toArray⟩) (w' := w2) (by go_simp) ⟨hC, Keep.refl _, rfl⟩
      intro vv w2 hC hF hvv
      clear hC hF
      obtain rfl := hvv
      simp only [Act.put, List.setIfInBounds_toArray, List.set_cons_zero, List.set_cons_succ]
      refine dagT_pure rfl ?_
      go_big_quiet_step (fail)
      refine dagT_on ?_
      refine dagT_pure rfl ?_
      go_big_quiet_step (fail)
      refine dagT_on ?_
      refine dagT_pure rfl ?_
      go_big_quiet_step (fail)
      refine dagT_on ?_
      refine dagT_pure rfl ?_
      go_big_quiet_step (fail)
      refine dagT_on ?_
      refine dagT_pure rfl ?_
      go_big_quiet_step (fail)
      refine dagT_on ?_
      refine dagT_told (by kernel_rfl) ?_ ?_
      · intro w2 hC hF
        obtain ⟨c0, c1, c2⟩ := (hX4.keep hC).cells
        exact Gives.value (v := .string ⟨VS.toArray⟩) (w' := w2) (by go_simp) ⟨hC, Keep.refl _, rfl⟩
      intro vv w2 hC hF hvv
      clear hC hF
      obtain rfl := hvv
      simp only [Act.put, List.setIfInBounds_toArray, List.set_cons_zero, List.set_cons_succ]
      refine dagT_pure rfl ?_
      go_big_quiet_step (fail)
      refine dagT_on ?_
      refine dagT_pure rfl ?_
      go_big_quiet_step (fail)
      refine dagT_on ?_
      refine dagT_pure rfl ?_
      go_big_quiet_step (fail)
      refine dagT_on ?_
      refine dagT_pure rfl ?_
      go_big_quiet_step (fail)
      refine dagT_on ?_
      refine dagT_pure rfl ?_
      go_big_quiet_step (fail)
      refine dagT_on ?_
      refine dagT_pure rfl ?_
      go_big_quiet_step (fail)
      refine dagT_on ?_
      refine dagT_pure rfl ?_
      go_big_quiet_step (fail)
      refine dagT_on ?_
      refine dagT_pure rfl ?_
      go_big_quiet_step (fail)
      refine dagT_on ?_
      refine dagT_pure rfl ?_
      go_big_quiet_step (fail)
      refine dagT_on ?_
      refine dagT_pure rfl ?_
      go_big_quiet_step (fail)
      refine dagT_on ?_
      refine dagT_pure rfl ?_
      go_big_quiet_step (fail)
      refine dagT_on ?_
      refine dagT_told (by kernel_rfl) ?_ ?_
      · intro w2 hC hF
        have a0 := (hC.cell (World.block_lt_of_cell? _ _ x0)).trans x0
        have a1 := (hC.cell (World.block_lt_of_cell? _ _ x1)).trans x1
        have a2 := (hC.cell (World.block_lt_of_cell? _ _ x2)).trans x2
        exact Gives.value (v := .agg #[.int .i64 z.t, .string ⟨z.k.toArray⟩, .string ⟨z.v.toArray⟩]) (w' := w2) (by go_simp) ⟨hC, Keep.refl _, rfl⟩
      intro vv w2 hC hF hvv
      clear hC hF
      obtain rfl := hvv
      simp only [Act.put, List.setIfInBounds_toArray, List.set_cons_zero, List.set_cons_succ]
      refine dagT_told (by kernel_rfl) ?_ ?_
      · intro w2 hC hF
        obtain ⟨c0, c1, c2⟩ := (hX4.keep hC).cells
        exact Gives.value (v := .agg #[.int .i64 (t.toNat : Int), .string ⟨KS.toArray⟩, .string ⟨VS.toArray⟩]) (w' := w2) (by go_simp) ⟨hC, Keep.refl _, rfl⟩
      intro vv w2 hC hF hvv
      clear hC hF
      obtain rfl := hvv
      simp only [Act.put, List.setIfInBounds_toArray, List.set_cons_zero, List.set_cons_succ]
      refine dagT_told (by kernel_rfl) ?_ ?_
      · intro w2 hC hF
        refine Gives.call (by go_simp) (hLS w2) ?_
        rintro e w' ⟨rfl, hk⟩
        exact ⟨_, rfl, hC.trans' hk, hk, rfl⟩
      intro vv w2 hC hF hvv
      clear hC hF
      obtain rfl := hvv
      simp only [Act.put, List.setIfInBounds_toArray, List.set_cons_zero, List.set_cons_succ]
      refine dagT_pure rfl ?_
      go_big_quiet_step (fail)
      refine dagT_on ?_
      refine dagT_pure rfl ?_
      go_big_quiet_step (fail)
      refine dagT_on ?_
      refine dagT_pure rfl ?_
      go_big_quiet_step (fail)
      refine dagT_on ?_
      refine dagT_done fun w2 hC hF => ?_
      clear x0 x1 x2
      clear hF
      have hXw := hX4.keep hC
      have hOw := hO4.keep hC
      have hww := hw4.trans' hC
      clear hX4 hO4 hw4 hC
      obtain ⟨c0, c1, c2⟩ := hXw.cells
      go_upto_region 23 with (fail)
      refine wp_region_seq ?_
      refine seqW_pure rfl ?_
      go_big_quiet_step (fail)
      refine seqW_on ?_
      refine seqW_gives (by kernel_rfl) ?_
      refine Gives.value (v := .agg #[.int .i64 (t.toNat : Int), .string ⟨KS.toArray⟩, .string ⟨VS.toArray⟩]) (w' := w2) (by go_simp) ?_
      simp only [Act.put, List.setIfInBounds_toArray, List.set_cons_zero, List.set_cons_succ]
      refine seqW_gives (by kernel_rfl) ?_
      refine Gives.value (v := .slice (some ⟨w2.heap.size, 0, none⟩) 1 1) (w' := w2.alloc (.cells #[.int .i64 (t.toNat : Int), .string ⟨KS.toArray⟩, .string ⟨VS.toArray⟩] 32)) (by go_simp) ?_
      have hSl : SlR (w2.alloc (.cells #[.int .i64 (t.toNat : Int), .string ⟨KS.toArray⟩, .string ⟨VS.toArray⟩] 32)) (.slice (some ⟨w2.heap.size, 0, none⟩) 1 1) [r] := by
        rw [← HRD.out]
        exact SlR.laid (w := w2) ⟨t.toNat, KS, VS⟩
      have hka := Keep.alloc w2 (.cells #[.int .i64 (t.toNat : Int), .string ⟨KS.toArray⟩, .string ⟨VS.toArray⟩] 32)
      have hO9 := hOw.keep hka
      have hk9 := hww.trans' hka
      clear hXw hOw hww c0 c1 c2 hka
      generalize w2.alloc (.cells #[.int .i64 (t.toNat : Int), .string ⟨KS.toArray⟩, .string ⟨VS.toArray⟩] 32) = m9 at *
      simp only [Act.put, List.setIfInBounds_toArray, List.set_cons_zero, List.set_cons_succ]
      refine seqW_gives (by kernel_rfl) ?_
      refine Gives.appendR _ _ rfl rfl rfl hO9 hSl (by simp; omega) hk9.size ?_
      intro v' w' hO' hgr
      have hk' : Keep w w' := hk9.grown hgr hk9.size (fun j hj => (hO9.lt j hj).1)
      clear hgr hO9 hSl hk9
      simp only [Act.put, List.setIfInBounds_toArray, List.set_cons_zero, List.set_cons_succ]
      refine seqW_pure rfl ?_
      go_big_quiet_step (fail)
      refine seqW_on ?_
      refine seqW_done ?_
      go_wp2
      go_roundw
      case rel => exact ⟨(q + 1) + 1, at_ + 3 + K + vb.toNat, outs ++ [r], by omega, by go_num, by go_num, by omega, by omega, hO', HRI, Lib.hid (by rw [List.length_append, HLN.out]; rfl), HN2, hk'⟩
      case measure => simp [intOf]; omega
end Go.Proofs.Ytllknflphgahfaa
