/- The walk of the law's rising. -/
import Derived.Test.YtllknflphgahfaaRisL
namespace Go.Proofs.Ytllknflphgahfaa
open Go Go.RowKit
attribute [local irreducible] Go.wpQuiet

theorem own_conR {w : World} {n g len cap : Nat} {l : List Rw} {own : Nat → Nat} {k c : Nat} (h : OwnR w n (.slice (some ⟨g, 0, none⟩) len cap) l ∧ In (blocksOf n own k) (.slice (some ⟨g, 0, none⟩) len cap)) (hc : c.testBit k = true) :
    OwnR w n (.slice (some ⟨g, 0, none⟩) len cap) l ∧ c.testBit (own g) = true := by
  refine ⟨h.1, ?_⟩
  have h1 := (h.1.lt g rfl).1
  rcases h.2 _ _ _ rfl with h2 | h2
  · simp only at h2; omega
  · simp only at h2; rw [h2]; exact hc

set_option maxRecDepth 100000 in
set_option maxHeartbeats 8000000 in
theorem rising_any (v : Value) (l : List Rw) (w : World) (hv : SlR w v l) (hl : l.length ≤ 1000) : Calls Try.prog 13 #[v] w fun e w' => ∃ v', e = .returned v' ∧ ∃ l', OwnR w' w.heap.size v' l' ∧ Rise l' ∧ l'.length ≤ 30 ∧ Keep w w' := by
  obtain ⟨la, lc, rfl, -, -⟩ := hv.form
  go_enter Try.func13, Try.ntmps13
  go_wp2
  go_loopw [3, 9] (fun o i wr => ∃ (j : Nat) (outs : List Rw), j ≤ l.length ∧ i = .int .i64 j ∧ OwnR wr w.heap.size o outs ∧ Rise outs ∧ outs.length ≤ 30 ∧ Keep w wr) (fun _ i _ => l.length - (intOf i).toNat)
  case atStart => exact ⟨0, [], Nat.zero_le _, rfl, OwnR.nil _ _, trivial, Nat.zero_le _, Keep.refl w⟩
  case round =>
    obtain ⟨j, outs, hj, rfl, hO, hR, h30, hk⟩ := hrel
    obtain ⟨oa, oc, rfl, -, -⟩ := hO.slr.form
    by_cases hjn : j < l.length
    rotate_left
    · have hjd : ¬ ((j : Int) < (l.length : Int)) := by omega
      clear hjn
      go_wp2
      go_ret
      exact ⟨_, rfl, outs, hO, hR, h30, hk⟩
    have hjl : (j : Int) < (l.length : Int) := by omega
    obtain ⟨b, off, rfl, x0, x1, x2⟩ := (hv.keep hk).elem j hjn
    generalize l[j] = r at *
    go_upto_region 5 with (fail)
    have hA := RwAt.new wr r
    have hkA := Keep.alloc wr (.cells #[.int .i64 r.t, .string ⟨r.k.toArray⟩, .string ⟨r.v.toArray⟩] 32)
    have hOA := hO.keep hkA
    have hwA := hk.trans' hkA
    clear x0 x1 x2 hO hk hkA
    generalize wr.alloc (.cells #[.int .i64 r.t, .string ⟨r.k.toArray⟩, .string ⟨r.v.toArray⟩] 32) = y1 at *
    generalize wr.heap.size = gy at *
    obtain ⟨c0, c1, c2⟩ := hA.cells
    have s1 := size_str r.k
    have s2 := size_str r.v
    have HRI := Lib.hid hR
    clear hR
    by_cases t1 : r.t < 0
    · go_wp2
      go_roundw
      case rel => exact ⟨j + 1, outs, by omega, by go_num, hOA, HRI.out, h30, hwA⟩
      case measure => simp [intOf]; omega
    by_cases t2 : 3 < r.t
    · go_wp2
      go_roundw
      case rel => exact ⟨j + 1, outs, by omega, by go_num, hOA, HRI.out, h30, hwA⟩
      case measure => simp [intOf]; omega
    by_cases t3 : 15 < r.k.length
    · have t3' : (15 : Int) < (r.k.length : Int) := by omega
      go_wp2
      go_roundw
      case rel => exact ⟨j + 1, outs, by omega, by go_num, hOA, HRI.out, h30, hwA⟩
      case measure => simp [intOf]; omega
    have t3' : ¬ ((15 : Int) < (r.k.length : Int)) := by omega
    by_cases t4 : 21 < r.v.length
    · have t4' : (21 : Int) < (r.v.length : Int) := by omega
      go_wp2
      go_roundw
      case rel => exact ⟨j + 1, outs, by omega, by go_num, hOA, HRI.out, h30, hwA⟩
      case measure => simp [intOf]; omega
    have t4' : ¬ ((21 : Int) < (r.v.length : Int)) := by omega
    by_cases t5 : outs.length = 30
    · have t5' : ((outs.length : Int) == 30) = true := beq_iff_eq.2 (by omega)
      have T5 := Lib.hid t5
      clear t5
      go_wp2
      go_roundw
      case rel => exact ⟨j + 1, outs, by omega, by go_num, hOA, HRI.out, h30, hwA⟩
      case measure => simp [intOf]; omega
    have t5' : ((outs.length : Int) == 30) = false := beq_eq_false_iff_ne.2 (by omega)
    have hright : r.right = true := (Rw.right_iff r).2 ⟨by omega, by omega, by omega, by omega⟩
    have HRT := Lib.hid hright
    go_upto_region 6 with (fail)
    clear t1 t2 t3 t3' t4 t4' t5' hright
    have hO29 : outs.length ≤ 29 := by omega
    clear t5 h30
    refine wp_region_seq ?_
    refine seqW_pure rfl ?_
    go_big_quiet_step (fail)
    refine seqW_on ?_
    refine seqW_gives (by kernel_rfl) ?_
    refine Gives.value (v := .agg #[.int .i64 r.t, .string ⟨r.k.toArray⟩, .string ⟨r.v.toArray⟩]) (w' := y1) (by go_simp) ?_
    simp only [Act.put, List.setIfInBounds_toArray, List.set_cons_zero, List.set_cons_succ]
    refine seqW_gives (by kernel_rfl) ?_
    refine Gives.value (v := .slice (some ⟨y1.heap.size, 0, none⟩) 1 1) (w' := y1.alloc (.cells #[.int .i64 r.t, .string ⟨r.k.toArray⟩, .string ⟨r.v.toArray⟩] 32)) (by go_simp) ?_
    have hSl := SlR.laid (w := y1) r
    have hka := Keep.alloc y1 (.cells #[.int .i64 r.t, .string ⟨r.k.toArray⟩, .string ⟨r.v.toArray⟩] 32)
    have hO9 := hOA.keep hka
    have hk9 := hwA.trans' hka
    clear hA hOA hwA c0 c1 c2 hka
    generalize y1.alloc (.cells #[.int .i64 r.t, .string ⟨r.k.toArray⟩, .string ⟨r.v.toArray⟩] 32) = m9 at *
    simp only [Act.put, List.setIfInBounds_toArray, List.set_cons_zero, List.set_cons_succ]
    refine seqW_gives (by kernel_rfl) ?_
    refine Gives.appendR _ _ rfl rfl rfl hO9 hSl (by simp; omega) hk9.size ?_
    intro v' w' hO' hgr
    have hk' : Keep w w' := hk9.grown hgr hk9.size (fun j hj => (hO9.lt j hj).1)
    clear hgr hO9 hSl hk9
    obtain ⟨g, cap, rfl, hng, hgw⟩ := hO'.head (by simp)
    have hlen1 : (outs ++ [r]).length = outs.length + 1 := by simp
    rw [hlen1] at hO' ⊢
    clear hlen1
    rw [← insAt_end] at hO'
    simp only [Act.put, List.setIfInBounds_toArray, List.set_cons_zero, List.set_cons_succ]
    refine seqW_pure rfl ?_
    go_big_quiet_step (fail)
    refine seqW_on ?_
    refine seqW_done ?_
    clear hgw
    go_wp2
    go_loopw [6] (fun q wq => ∃ kk : Nat, kk ≤ outs.length ∧ q = .int .i64 kk ∧ OwnR wq w.heap.size (.slice (some ⟨g, 0, none⟩) (outs.length + 1) cap) (insAt outs r kk) ∧ (∀ h : kk < outs.length, r.less outs[kk] = true) ∧ Keep w wq) (fun q _ => (intOf q).toNat)
    case atStart => exact ⟨outs.length, Nat.le_refl _, by go_num, hO', fun h => absurd h (Nat.lt_irrefl _), hk'⟩
    case round =>
      obtain ⟨kk, hkk, rfl, hO, hles, hk⟩ := hrel
      clear hO' hk'
      cases kk with
      | zero =>
        have hri : Rise (insAt outs r 0) := HRI.out.insert r HRT.out 0 (Nat.zero_le _) hles (fun h => absurd h (Nat.lt_irrefl _))
        have hln : (insAt outs r 0).length ≤ 30 := by rw [insAt_length _ _ _ (Nat.zero_le _)]; omega
        clear hles
        go_upto_region 8 with (fail)
        refine wp_region_dag' (C := fun w' => Keep wr w') (R := Keep) [none, none, none, none, none, none, none, none, none, none, none, none, none, none]
          (by kernel_rfl) (by kernel_rfl) (Keep.refl wr).drew ?_
        refine dagT_pure rfl ?_
        go_big_quiet_step (fail)
        refine dagT_on ?_
        refine dagT_pure rfl ?_
        go_big_quiet_step (fail)
        refine dagT_on ?_
        refine dagT_pure rfl ?_
        go_big_quiet_step (fail)
        refine dagT_on ?_
        refine dagT_skip (by kernel_rfl) ?_
        simp only [Act.put, List.setIfInBounds_toArray, List.set_cons_zero, List.set_cons_succ]
        refine dagT_skip (by kernel_rfl) ?_
        simp only [Act.put, List.setIfInBounds_toArray, List.set_cons_zero, List.set_cons_succ]
        refine dagT_skip (by kernel_rfl) ?_
        simp only [Act.put, List.setIfInBounds_toArray, List.set_cons_zero, List.set_cons_succ]
        refine dagT_skip (by kernel_rfl) ?_
        simp only [Act.put, List.setIfInBounds_toArray, List.set_cons_zero, List.set_cons_succ]
        refine dagT_skip (by kernel_rfl) ?_
        simp only [Act.put, List.setIfInBounds_toArray, List.set_cons_zero, List.set_cons_succ]
        refine dagT_skip (by kernel_rfl) ?_
        simp only [Act.put, List.setIfInBounds_toArray, List.set_cons_zero, List.set_cons_succ]
        refine dagT_skip (by kernel_rfl) ?_
        simp only [Act.put, List.setIfInBounds_toArray, List.set_cons_zero, List.set_cons_succ]
        refine dagT_skip (by kernel_rfl) ?_
        simp only [Act.put, List.setIfInBounds_toArray, List.set_cons_zero, List.set_cons_succ]
        refine dagT_skip (by kernel_rfl) ?_
        simp only [Act.put, List.setIfInBounds_toArray, List.set_cons_zero, List.set_cons_succ]
        refine dagT_skip (by kernel_rfl) ?_
        simp only [Act.put, List.setIfInBounds_toArray, List.set_cons_zero, List.set_cons_succ]
        refine dagT_pure rfl ?_
        go_big_quiet_step (fail)
        refine dagT_on ?_
        refine dagT_done fun w2 hC hF => ?_
        clear hF
        have hOc := hO.keep hC
        have hkc := hk.trans' hC
        clear hO hk hC
        go_upto_region 11 with (fail)
        generalize hwd : w2 = wd at *
        clear hwd
        refine wp_region_dag' (C := fun w' => Keep wd w') (R := Keep) [none, none, none, none, none, none, none, none, none, none, none, none, none, none, none]
          (by kernel_rfl) (by kernel_rfl) (Keep.refl wd).drew ?_
        refine dagT_pure rfl ?_
        go_big_quiet_step (fail)
        refine dagT_on ?_
        refine dagT_pure rfl ?_
        go_big_quiet_step (fail)
        refine dagT_on ?_
        refine dagT_pure rfl ?_
        go_big_quiet_step (fail)
        refine dagT_on ?_
        refine dagT_skip (by kernel_rfl) ?_
        simp only [Act.put, List.setIfInBounds_toArray, List.set_cons_zero, List.set_cons_succ]
        refine dagT_skip (by kernel_rfl) ?_
        simp only [Act.put, List.setIfInBounds_toArray, List.set_cons_zero, List.set_cons_succ]
        refine dagT_skip (by kernel_rfl) ?_
        simp only [Act.put, List.setIfInBounds_toArray, List.set_cons_zero, List.set_cons_succ]
        refine dagT_skip (by kernel_rfl) ?_
        simp only [Act.put, List.setIfInBounds_toArray, List.set_cons_zero, List.set_cons_succ]
        refine dagT_skip (by kernel_rfl) ?_
        simp only [Act.put, List.setIfInBounds_toArray, List.set_cons_zero, List.set_cons_succ]
        refine dagT_skip (by kernel_rfl) ?_
        simp only [Act.put, List.setIfInBounds_toArray, List.set_cons_zero, List.set_cons_succ]
        refine dagT_skip (by kernel_rfl) ?_
        simp only [Act.put, List.setIfInBounds_toArray, List.set_cons_zero, List.set_cons_succ]
        refine dagT_skip (by kernel_rfl) ?_
        simp only [Act.put, List.setIfInBounds_toArray, List.set_cons_zero, List.set_cons_succ]
        refine dagT_skip (by kernel_rfl) ?_
        simp only [Act.put, List.setIfInBounds_toArray, List.set_cons_zero, List.set_cons_succ]
        refine dagT_skip (by kernel_rfl) ?_
        simp only [Act.put, List.setIfInBounds_toArray, List.set_cons_zero, List.set_cons_succ]
        refine dagT_skip (by kernel_rfl) ?_
        simp only [Act.put, List.setIfInBounds_toArray, List.set_cons_zero, List.set_cons_succ]
        refine dagT_pure rfl ?_
        go_big_quiet_step (fail)
        refine dagT_on ?_
        refine dagT_done fun w2 hC hF => ?_
        clear hF
        go_wp2
        go_roundw
        case rel => exact ⟨j + 1, insAt outs r 0, by omega, by go_num, hOc.keep hC, hri, hln, hkc.trans' hC⟩
        case measure => simp [intOf]; omega
      | succ kp =>
        have hkp : kp < outs.length := by omega
        have hil := insAt_length outs r (kp + 1) hkk
        have e1 := insAt_get outs r (kp + 1) hkk (kp + 1) (by omega)
        have e0 := insAt_get outs r (kp + 1) hkk kp (by omega)
        rw [dif_neg (Nat.lt_irrefl _), dif_pos rfl] at e1
        rw [dif_pos (Nat.lt_succ_self _)] at e0
        obtain ⟨r0, r1, r2⟩ := hO.cell3 (kp + 1) (by omega)
        obtain ⟨z0, z1, z2⟩ := hO.cell3 kp (by omega)
        rw [e1] at r0 r1 r2
        rw [e0] at z0 z1 z2
        have HSW := Lib.hid (insAt_swap outs r kp hkp)
        have HDR := Lib.hid (insAt_drop outs r (kp + 1) hkk)
        have HIN := Lib.hid (HRI.out.insert r HRT.out (kp + 1) hkk hles)
        have HIL := Lib.hid hil
        have hle2 := fun (h : r.less (outs[kp]'hkp) = true) (_ : kp < outs.length) => h
        have E0 := Lib.hid e0
        have E1 := Lib.hid e1
        clear e0 e1 hles
        simp only [Nat.add_sub_cancel] at HIN
        have HLE := Lib.hid hle2
        clear hle2
        generalize hz : outs[kp]'hkp = z at *
        have HZ := Lib.hid hz
        clear hz
        have hLS := rless_any r z
        have hLT := rless_any z r
        unfold Rw.val strV at hLS hLT
        have hk1 : ((kp + 1 : Nat) : Int) - 1 = (kp : Int) := by omega
        have hkn : (kp : Int) + 1 < ((outs.length : Nat) : Int) + 1 := by omega
        go_upto_region 8 with (fail)
        cases hless : r.less z
        rotate_left
        · rw [hless] at hLS
          refine wp_region_dag' (C := fun w' => Keep wr w') (R := Keep) [none, none, none, none, none, none, some (tV (.agg #[.int .i64 r.t, .string ⟨r.k.toArray⟩, .string ⟨r.v.toArray⟩])), none, none, none, none, some (tV (.agg #[.int .i64 z.t, .string ⟨z.k.toArray⟩, .string ⟨z.v.toArray⟩])), some (tV (.bool true)), none]
            (by kernel_rfl) (by kernel_rfl) (Keep.refl wr).drew ?_
          refine dagT_pure rfl ?_
          go_big_quiet_step (fail)
          refine dagT_on ?_
          refine dagT_pure rfl ?_
          go_big_quiet_step (fail)
          refine dagT_on ?_
          refine dagT_pure rfl ?_
          go_big_quiet_step (fail)
          refine dagT_on ?_
          refine dagT_pure rfl ?_
          go_big_quiet_step (fail)
          refine dagT_on ?_
          refine dagT_pure rfl ?_
          go_big_quiet_step (fail)
          refine dagT_on ?_
          refine dagT_pure rfl ?_
          go_big_quiet_step (fail)
          refine dagT_on ?_
          refine dagT_told (by kernel_rfl) ?_ ?_
          · intro w2 hC hF
            have a0 := (hC.cell (World.block_lt_of_cell? _ _ r0)).trans r0
            have a1 := (hC.cell (World.block_lt_of_cell? _ _ r1)).trans r1
            have a2 := (hC.cell (World.block_lt_of_cell? _ _ r2)).trans r2
            exact Gives.value (v := .agg #[.int .i64 r.t, .string ⟨r.k.toArray⟩, .string ⟨r.v.toArray⟩]) (w' := w2) (by go_simp) ⟨hC, Keep.refl _, rfl⟩
          intro vv w2 hC hF hvv
          clear hC hF
          obtain rfl := hvv
          simp only [Act.put, List.setIfInBounds_toArray, List.set_cons_zero, List.set_cons_succ]
          refine dagT_pure rfl ?_
          go_big_quiet_step (fail)
          refine dagT_on ?_
          refine dagT_pure rfl ?_
          go_big_quiet_step (fail)
          refine dagT_on ?_
          refine dagT_pure rfl ?_
          go_big_quiet_step (fail)
          refine dagT_on ?_
          refine dagT_pure rfl ?_
          go_big_quiet_step (fail)
          refine dagT_on ?_
          refine dagT_told (by kernel_rfl) ?_ ?_
          · intro w2 hC hF
            have a0 := (hC.cell (World.block_lt_of_cell? _ _ z0)).trans z0
            have a1 := (hC.cell (World.block_lt_of_cell? _ _ z1)).trans z1
            have a2 := (hC.cell (World.block_lt_of_cell? _ _ z2)).trans z2
            exact Gives.value (v := .agg #[.int .i64 z.t, .string ⟨z.k.toArray⟩, .string ⟨z.v.toArray⟩]) (w' := w2) (by go_simp) ⟨hC, Keep.refl _, rfl⟩
          intro vv w2 hC hF hvv
          clear hC hF
          obtain rfl := hvv
          simp only [Act.put, List.setIfInBounds_toArray, List.set_cons_zero, List.set_cons_succ]
          refine dagT_told (by kernel_rfl) ?_ ?_
          · intro w2 hC hF
            refine Gives.call (by go_simp) (hLS w2) ?_
            rintro e w' ⟨rfl, hk⟩
            exact ⟨_, rfl, hC.trans' hk, hk, rfl⟩
          intro vv w2 hC hF hvv
          clear hC hF
          obtain rfl := hvv
          simp only [Act.put, List.setIfInBounds_toArray, List.set_cons_zero, List.set_cons_succ]
          refine dagT_pure rfl ?_
          go_big_quiet_step (fail)
          refine dagT_on ?_
          refine dagT_done fun w2 hC hF => ?_
          clear hF r0 r1 r2 z0 z1 z2
          have hOc := hO.keep hC
          have hkc := hk.trans' hC
          clear hO hk hC
          go_upto_region 10 with (fail)
          refine wp_region_ordI [none, none, none, none, none, none, none, none, none, some (oV (.agg #[.int .i64 z.t, .string ⟨z.k.toArray⟩, .string ⟨z.v.toArray⟩])), none, none, none, some (oV (.agg #[.int .i64 r.t, .string ⟨r.k.toArray⟩, .string ⟨r.v.toArray⟩])), none, some (oHasR (.slice (some ⟨g, 0, none⟩) (outs.length + 1) cap) w.heap.size ((insAt outs r (kp + 1)).set (kp + 1) z)), none, some (oHasR (.slice (some ⟨g, 0, none⟩) (outs.length + 1) cap) w.heap.size (((insAt outs r (kp + 1)).set (kp + 1) z).set (kp) r))]
            41472 #[0, 0, 0, 0, 0, 0, 0, 0, 0, 0, 0, 0, 0, 0, 0, 262144, 0, 32768] (w.heap.size) ((oHasR (.slice (some ⟨g, 0, none⟩) (outs.length + 1) cap) w.heap.size (insAt outs r (kp + 1))).φ (.bool true)) (fun w' => Keep w w') (by kernel_rfl) (by kernel_rfl) (by kernel_rfl) (hkc.drew) ((oHasR (.slice (some ⟨g, 0, none⟩) (outs.length + 1) cap) w.heap.size (insAt outs r (kp + 1))).st (.bool true)) (⟨hOc, fun _ _ _ _ => trivial⟩) ?_
          refine ordT_pure rfl ?_
          go_big_quiet_step (fail)
          refine ordT_on ?_
          refine ordT_pure rfl ?_
          go_big_quiet_step (fail)
          refine ordT_on ?_
          refine ordT_pure rfl ?_
          go_big_quiet_step (fail)
          refine ordT_on ?_
          refine ordT_pure rfl ?_
          go_big_quiet_step (fail)
          refine ordT_on ?_
          refine ordT_pure rfl ?_
          go_big_quiet_step (fail)
          refine ordT_on ?_
          refine ordT_pure rfl ?_
          go_big_quiet_step (fail)
          refine ordT_on ?_
          refine ordT_pure rfl ?_
          go_big_quiet_step (fail)
          refine ordT_on ?_
          refine ordT_pure rfl ?_
          go_big_quiet_step (fail)
          refine ordT_on ?_
          refine ordT_pure rfl ?_
          go_big_quiet_step (fail)
          refine ordT_on ?_
          refine ordT_read (by kernel_rfl) (fun w2 own hC hF => ?_) ?_
          · have h2 := ((hF 18 (by kernel_rfl)) rfl)
            obtain ⟨a0, a1, a2⟩ := h2.1.cell3 (kp) (by have := HIL.out; omega)
            rw [E0.out] at a0 a1 a2
            go_simp
          simp only [Act.put, List.setIfInBounds_toArray, List.set_cons_zero, List.set_cons_succ]
          refine ordT_pure rfl ?_
          go_big_quiet_step (fail)
          refine ordT_on ?_
          refine ordT_pure rfl ?_
          go_big_quiet_step (fail)
          refine ordT_on ?_
          refine ordT_pure rfl ?_
          go_big_quiet_step (fail)
          refine ordT_on ?_
          refine ordT_read (by kernel_rfl) (fun w2 own hC hF => ?_) ?_
          · have h2 := (((hF 18 (by kernel_rfl)).2 rfl) rfl)
            obtain ⟨a0, a1, a2⟩ := h2.1.cell3 (kp + 1) (by have := HIL.out; omega)
            rw [E1.out] at a0 a1 a2
            go_simp
          simp only [Act.put, List.setIfInBounds_toArray, List.set_cons_zero, List.set_cons_succ]
          refine ordT_pure rfl ?_
          go_big_quiet_step (fail)
          refine ordT_on ?_
          refine ordT_told (by kernel_rfl) (told_storeR g (outs.length + 1) cap (insAt outs r (kp + 1)) (kp + 1) z (by simp [HIL.out]; try omega) keepS (fun w2 x0 x1 x2 n0 n1 n2 f0 f1 f2 => by unfold laidRw; go_simp) fun w2 own hC hF => ?_) ?_
          · have h2 := ((((hF 18 (by kernel_rfl)).2 rfl).2 rfl) rfl)
            exact own_conR h2 rfl
          rintro _ w_ own_ - -
          simp only [Act.put, List.setIfInBounds_toArray, List.set_cons_zero, List.set_cons_succ]
          refine ordT_pure rfl ?_
          go_big_quiet_step (fail)
          refine ordT_on ?_
          refine ordT_told (by kernel_rfl) (told_storeR g (outs.length + 1) cap ((insAt outs r (kp + 1)).set (kp + 1) z) (kp) r (by simp [HIL.out]; try omega) keepS (fun w2 x0 x1 x2 n0 n1 n2 f0 f1 f2 => by unfold laidRw; go_simp) fun w2 own hC hF => ?_) ?_
          · have h2 := ((hF 15 (by kernel_rfl)).1 rfl)
            exact own_conR h2 rfl
          rintro _ w_ own_ - -
          simp only [Act.put, List.setIfInBounds_toArray, List.set_cons_zero, List.set_cons_succ]
          refine ordT_done fun w2 own hC hF => ?_
          have hO2 := ((hF 17).1 rfl).1
          rw [HSW.out] at hO2
          clear hF
          go_wp2
          go_roundw
          case rel => exact ⟨kp, by omega, by go_num, hO2, (fun _ => by rw [HZ.out]; exact hless), hC⟩
          case measure => first | (simp [intOf]; done) | (simp [intOf]; omega)
        rw [hless] at hLS
        refine wp_region_dag' (C := fun w' => Keep wr w') (R := Keep) [none, none, none, none, none, none, some (tV (.agg #[.int .i64 r.t, .string ⟨r.k.toArray⟩, .string ⟨r.v.toArray⟩])), none, none, none, none, some (tV (.agg #[.int .i64 z.t, .string ⟨z.k.toArray⟩, .string ⟨z.v.toArray⟩])), some (tV (.bool false)), none]
          (by kernel_rfl) (by kernel_rfl) (Keep.refl wr).drew ?_
        refine dagT_pure rfl ?_
        go_big_quiet_step (fail)
        refine dagT_on ?_
        refine dagT_pure rfl ?_
        go_big_quiet_step (fail)
        refine dagT_on ?_
        refine dagT_pure rfl ?_
        go_big_quiet_step (fail)
        refine dagT_on ?_
        refine dagT_pure rfl ?_
        go_big_quiet_step (fail)
        refine dagT_on ?_
        refine dagT_pure rfl ?_
        go_big_quiet_step (fail)
        refine dagT_on ?_
        refine dagT_pure rfl ?_
        go_big_quiet_step (fail)
        refine dagT_on ?_
        refine dagT_told (by kernel_rfl) ?_ ?_
        · intro w2 hC hF
          have a0 := (hC.cell (World.block_lt_of_cell? _ _ r0)).trans r0
          have a1 := (hC.cell (World.block_lt_of_cell? _ _ r1)).trans r1
          have a2 := (hC.cell (World.block_lt_of_cell? _ _ r2)).trans r2
          exact Gives.value (v := .agg #[.int .i64 r.t, .string ⟨r.k.toArray⟩, .string ⟨r.v.toArray⟩]) (w' := w2) (by go_simp) ⟨hC, Keep.refl _, rfl⟩
        intro vv w2 hC hF hvv
        clear hC hF
        obtain rfl := hvv
        simp only [Act.put, List.setIfInBounds_toArray, List.set_cons_zero, List.set_cons_succ]
        refine dagT_pure rfl ?_
        go_big_quiet_step (fail)
        refine dagT_on ?_
        refine dagT_pure rfl ?_
        go_big_quiet_step (fail)
        refine dagT_on ?_
        refine dagT_pure rfl ?_
        go_big_quiet_step (fail)
        refine dagT_on ?_
        refine dagT_pure rfl ?_
        go_big_quiet_step (fail)
        refine dagT_on ?_
        refine dagT_told (by kernel_rfl) ?_ ?_
        · intro w2 hC hF
          have a0 := (hC.cell (World.block_lt_of_cell? _ _ z0)).trans z0
          have a1 := (hC.cell (World.block_lt_of_cell? _ _ z1)).trans z1
          have a2 := (hC.cell (World.block_lt_of_cell? _ _ z2)).trans z2
          exact Gives.value (v := .agg #[.int .i64 z.t, .string ⟨z.k.toArray⟩, .string ⟨z.v.toArray⟩]) (w' := w2) (by go_simp) ⟨hC, Keep.refl _, rfl⟩
        intro vv w2 hC hF hvv
        clear hC hF
        obtain rfl := hvv
        simp only [Act.put, List.setIfInBounds_toArray, List.set_cons_zero, List.set_cons_succ]
        refine dagT_told (by kernel_rfl) ?_ ?_
        · intro w2 hC hF
          refine Gives.call (by go_simp) (hLS w2) ?_
          rintro e w' ⟨rfl, hk⟩
          exact ⟨_, rfl, hC.trans' hk, hk, rfl⟩
        intro vv w2 hC hF hvv
        clear hC hF
        obtain rfl := hvv
        simp only [Act.put, List.setIfInBounds_toArray, List.set_cons_zero, List.set_cons_succ]
        refine dagT_pure rfl ?_
        go_big_quiet_step (fail)
        refine dagT_on ?_
        refine dagT_done fun w2 hC hF => ?_
        clear hF
        have hOc := hO.keep hC
        have hkc := hk.trans' hC
        replace r0 := (hC.cell (World.block_lt_of_cell? _ _ r0)).trans r0
        replace r1 := (hC.cell (World.block_lt_of_cell? _ _ r1)).trans r1
        replace r2 := (hC.cell (World.block_lt_of_cell? _ _ r2)).trans r2
        replace z0 := (hC.cell (World.block_lt_of_cell? _ _ z0)).trans z0
        replace z1 := (hC.cell (World.block_lt_of_cell? _ _ z1)).trans z1
        replace z2 := (hC.cell (World.block_lt_of_cell? _ _ z2)).trans z2
        clear hO hk hC
        go_upto_region 11 with (fail)
        generalize w2 = wd at *
        cases hmore : z.less r
        rotate_left
        · rw [hmore] at hLT
          refine wp_region_dag' (C := fun w' => Keep wd w') (R := Keep) [none, none, none, none, none, none, none, some (tV (.agg #[.int .i64 z.t, .string ⟨z.k.toArray⟩, .string ⟨z.v.toArray⟩])), none, none, none, some (tV (.agg #[.int .i64 r.t, .string ⟨r.k.toArray⟩, .string ⟨r.v.toArray⟩])), some (tV (.bool true)), none, none]
            (by kernel_rfl) (by kernel_rfl) (Keep.refl wd).drew ?_
          refine dagT_pure rfl ?_
          go_big_quiet_step (fail)
          refine dagT_on ?_
          refine dagT_pure rfl ?_
          go_big_quiet_step (fail)
          refine dagT_on ?_
          refine dagT_pure rfl ?_
          go_big_quiet_step (fail)
          refine dagT_on ?_
          refine dagT_pure rfl ?_
          go_big_quiet_step (fail)
          refine dagT_on ?_
          refine dagT_pure rfl ?_
          go_big_quiet_step (fail)
          refine dagT_on ?_
          refine dagT_pure rfl ?_
          go_big_quiet_step (fail)
          refine dagT_on ?_
          refine dagT_pure rfl ?_
          go_big_quiet_step (fail)
          refine dagT_on ?_
          refine dagT_told (by kernel_rfl) ?_ ?_
          · intro w2 hC hF
            have a0 := (hC.cell (World.block_lt_of_cell? _ _ z0)).trans z0
            have a1 := (hC.cell (World.block_lt_of_cell? _ _ z1)).trans z1
            have a2 := (hC.cell (World.block_lt_of_cell? _ _ z2)).trans z2
            exact Gives.value (v := .agg #[.int .i64 z.t, .string ⟨z.k.toArray⟩, .string ⟨z.v.toArray⟩]) (w' := w2) (by go_simp) ⟨hC, Keep.refl _, rfl⟩
          intro vv w2 hC hF hvv
          clear hC hF
          obtain rfl := hvv
          simp only [Act.put, List.setIfInBounds_toArray, List.set_cons_zero, List.set_cons_succ]
          refine dagT_pure rfl ?_
          go_big_quiet_step (fail)
          refine dagT_on ?_
          refine dagT_pure rfl ?_
          go_big_quiet_step (fail)
          refine dagT_on ?_
          refine dagT_pure rfl ?_
          go_big_quiet_step (fail)
          refine dagT_on ?_
          refine dagT_told (by kernel_rfl) ?_ ?_
          · intro w2 hC hF
            have a0 := (hC.cell (World.block_lt_of_cell? _ _ r0)).trans r0
            have a1 := (hC.cell (World.block_lt_of_cell? _ _ r1)).trans r1
            have a2 := (hC.cell (World.block_lt_of_cell? _ _ r2)).trans r2
            exact Gives.value (v := .agg #[.int .i64 r.t, .string ⟨r.k.toArray⟩, .string ⟨r.v.toArray⟩]) (w' := w2) (by go_simp) ⟨hC, Keep.refl _, rfl⟩
          intro vv w2 hC hF hvv
          clear hC hF
          obtain rfl := hvv
          simp only [Act.put, List.setIfInBounds_toArray, List.set_cons_zero, List.set_cons_succ]
          refine dagT_told (by kernel_rfl) ?_ ?_
          · intro w2 hC hF
            refine Gives.call (by go_simp) (hLT w2) ?_
            rintro e w' ⟨rfl, hk⟩
            exact ⟨_, rfl, hC.trans' hk, hk, rfl⟩
          intro vv w2 hC hF hvv
          clear hC hF
          obtain rfl := hvv
          simp only [Act.put, List.setIfInBounds_toArray, List.set_cons_zero, List.set_cons_succ]
          refine dagT_pure rfl ?_
          go_big_quiet_step (fail)
          refine dagT_on ?_
          refine dagT_pure rfl ?_
          go_big_quiet_step (fail)
          refine dagT_on ?_
          refine dagT_done fun w2 hC hF => ?_
          clear hF
          go_wp2
          go_roundw
          case rel => exact ⟨j + 1, insAt outs r (kp + 1), by omega, by go_num, hOc.keep hC, HIN.out (fun _ => by rw [HZ.out]; exact hmore), by rw [HIL.out]; omega, hkc.trans' hC⟩
          case measure => simp [intOf]; omega
        rw [hmore] at hLT
        refine wp_region_dag' (C := fun w' => Keep wd w') (R := Keep) [none, none, none, none, none, none, none, some (tV (.agg #[.int .i64 z.t, .string ⟨z.k.toArray⟩, .string ⟨z.v.toArray⟩])), none, none, none, some (tV (.agg #[.int .i64 r.t, .string ⟨r.k.toArray⟩, .string ⟨r.v.toArray⟩])), some (tV (.bool false)), none, none]
          (by kernel_rfl) (by kernel_rfl) (Keep.refl wd).drew ?_
        refine dagT_pure rfl ?_
        go_big_quiet_step (fail)
        refine dagT_on ?_
        refine dagT_pure rfl ?_
        go_big_quiet_step (fail)
        refine dagT_on ?_
        refine dagT_pure rfl ?_
        go_big_quiet_step (fail)
        refine dagT_on ?_
        refine dagT_pure rfl ?_
        go_big_quiet_step (fail)
        refine dagT_on ?_
        refine dagT_pure rfl ?_
        go_big_quiet_step (fail)
        refine dagT_on ?_
        refine dagT_pure rfl ?_
        go_big_quiet_step (fail)
        refine dagT_on ?_
        refine dagT_pure rfl ?_
        go_big_quiet_step (fail)
        refine dagT_on ?_
        refine dagT_told (by kernel_rfl) ?_ ?_
        · intro w2 hC hF
          have a0 := (hC.cell (World.block_lt_of_cell? _ _ z0)).trans z0
          have a1 := (hC.cell (World.block_lt_of_cell? _ _ z1)).trans z1
          have a2 := (hC.cell (World.block_lt_of_cell? _ _ z2)).trans z2
          exact Gives.value (v := .agg #[.int .i64 z.t, .string ⟨z.k.toArray⟩, .string ⟨z.v.toArray⟩]) (w' := w2) (by go_simp) ⟨hC, Keep.refl _, rfl⟩
        intro vv w2 hC hF hvv
        clear hC hF
        obtain rfl := hvv
        simp only [Act.put, List.setIfInBounds_toArray, List.set_cons_zero, List.set_cons_succ]
        refine dagT_pure rfl ?_
        go_big_quiet_step (fail)
        refine dagT_on ?_
        refine dagT_pure rfl ?_
        go_big_quiet_step (fail)
        refine dagT_on ?_
        refine dagT_pure rfl ?_
        go_big_quiet_step (fail)
        refine dagT_on ?_
        refine dagT_told (by kernel_rfl) ?_ ?_
        · intro w2 hC hF
          have a0 := (hC.cell (World.block_lt_of_cell? _ _ r0)).trans r0
          have a1 := (hC.cell (World.block_lt_of_cell? _ _ r1)).trans r1
          have a2 := (hC.cell (World.block_lt_of_cell? _ _ r2)).trans r2
          exact Gives.value (v := .agg #[.int .i64 r.t, .string ⟨r.k.toArray⟩, .string ⟨r.v.toArray⟩]) (w' := w2) (by go_simp) ⟨hC, Keep.refl _, rfl⟩
        intro vv w2 hC hF hvv
        clear hC hF
        obtain rfl := hvv
        simp only [Act.put, List.setIfInBounds_toArray, List.set_cons_zero, List.set_cons_succ]
        refine dagT_told (by kernel_rfl) ?_ ?_
        · intro w2 hC hF
          refine Gives.call (by go_simp) (hLT w2) ?_
          rintro e w' ⟨rfl, hk⟩
          exact ⟨_, rfl, hC.trans' hk, hk, rfl⟩
        intro vv w2 hC hF hvv
        clear hC hF
        obtain rfl := hvv
        simp only [Act.put, List.setIfInBounds_toArray, List.set_cons_zero, List.set_cons_succ]
        refine dagT_pure rfl ?_
        go_big_quiet_step (fail)
        refine dagT_on ?_
        refine dagT_pure rfl ?_
        go_big_quiet_step (fail)
        refine dagT_on ?_
        refine dagT_done fun w2 hC hF => ?_
        clear hF r0 r1 r2 z0 z1 z2
        have hOd := hOc.keep hC
        have hkd := hkc.trans' hC
        clear hOc hkc hC
        go_upto_region 12 with (fail)
        have hcap : outs.length + 1 ≤ cap := by
          obtain ⟨a', c', e', -, hc'⟩ := hOd.slr.form
          simp only [Value.slice.injEq] at e'
          have := HIL.out
          omega
        have hcp : (kp : Int) + 1 ≤ (cap : Int) := by omega
        have hcq : (kp : Int) + 1 + 1 ≤ (outs.length : Int) + 1 := by omega
        have hcr : (outs.length : Int) + 1 ≤ (cap : Int) := by omega
        refine wp_region_ch 9 [none, none, none, none, none, none, none, some none, none] (fun _ => True) (by kernel_rfl) (by kernel_rfl) (by kernel_rfl) (by kernel_rfl) trivial ?_
        refine chT_pure rfl ?_
        go_big_quiet_step (fail)
        refine chT_on ?_
        refine chT_pure rfl ?_
        go_big_quiet_step (fail)
        refine chT_on ?_
        refine chT_pure rfl ?_
        go_big_quiet_step (fail)
        refine chT_on ?_
        refine chT_pure rfl ?_
        go_big_quiet_step (fail)
        refine chT_on ?_
        refine chT_pure rfl ?_
        go_big_quiet_step (fail)
        refine chT_on ?_
        refine chT_pure rfl ?_
        go_big_quiet_step (fail)
        refine chT_on ?_
        refine chT_pure rfl ?_
        go_big_quiet_step (fail)
        refine chT_on ?_
        refine chT_gives (by kernel_rfl) ?_
        have hOt := hOd.takeK (kp + 1) (by omega)
        have hSf := hOd.slr.from (kp + 2) (by omega)
        have hSf2 : SlR w2 (.slice (if cap = kp + 1 + 1 then some ⟨g, 0, none⟩ else some ⟨g, (kp + 1 + 1) * 3, none⟩) (outs.length + 1 - (kp + 1 + 1)) (cap - (kp + 1 + 1))) ((insAt outs r (kp + 1)).drop (kp + 2)) := by
          have h := hSf
          unfold sliced at h
          by_cases hc : cap = kp + 1 + 1
          · rw [if_pos hc]
            rw [if_pos (by omega)] at h
            exact h
          · rw [if_neg hc]
            rw [if_neg (by omega)] at h
            simpa [Addr.add] using h
        refine Gives.appendR _ _ rfl rfl rfl hOt (k := (insAt outs r (kp + 1)).drop (kp + 2)) (hSf2.keep (Keep.refl _).drew) (by simp [HIL.out]; omega) hkd.size ?_
        intro v' w3 hO3 hgr
        have hk3 : Keep w w3 := hkd.drew.grown hgr hkd.size (fun j hj => (hOt.lt j hj).1)
        have hdr := HDR.out
        rw [hdr] at hO3
        clear hgr hOt hSf hSf2 hdr hOd hkd
        obtain ⟨a3, c3, rfl, -, -⟩ := hO3.slr.form
        refine ⟨trivial, ?_⟩
        simp only [Act.put, List.setIfInBounds_toArray, List.set_cons_zero, List.set_cons_succ]
        refine chT_pure rfl ?_
        go_big_quiet_step (fail)
        refine chT_on ?_
        refine chT_done ?_
        refine seqW_done ?_
        go_wp2
        go_roundw
        case rel => exact ⟨j + 1, outs, by omega, by go_num, hO3, HRI.out, by omega, hk3⟩
        case measure => simp [intOf]; omega
end Go.Proofs.Ytllknflphgahfaa
