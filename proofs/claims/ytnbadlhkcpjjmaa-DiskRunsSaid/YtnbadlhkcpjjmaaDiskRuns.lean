/- The walk of DiskRuns. -/
import Derived.Test.YtnbadlhkcpjjmaaRunsK
import Derived.Test.YtnbadlhkcpjjmaaRunsP
import Derived.Deep.CutRange
import Derived.Test.YtnbadlhkcpjjmaaDiskCopies
namespace Go.Proofs.Ytnbadlhkcpjjmaa
open Go Go.RowKit
attribute [local irreducible] Go.wpQuiet

def nilV : Value := .slice none 0 0
theorem newM_at {W w : World} {g : Nat} (h : w.heap[g]? = some (.cells (newM.cells (List.replicate 3 nilV)).toArray 55)) (hl : g < w.heap.size) : MdAt W w (fun b => b = g) g newM (List.replicate 3 nilV) := by
  refine ⟨h, rfl, rfl, rfl, rfl, rfl, fun i hi hi' => ?_, fun i hi b e => ?_, fun b hb => by rw [hb]; exact hl⟩
  · have e1 : (List.replicate 3 nilV)[i]'hi = .slice none 0 0 := List.getElem_replicate _
    have all : ∀ (h' : i < (List.replicate 3 ([] : List Cl)).length), OwnCl W w ((List.replicate 3 nilV)[i]'hi) ((List.replicate 3 ([] : List Cl))[i]'h') := by
      intro h'
      rw [e1, List.getElem_replicate]
      exact OwnCl.nil W w
    exact all hi'
  · have e1 : (List.replicate 3 nilV)[i]'hi = .slice none 0 0 := List.getElem_replicate _
    rw [e1] at e
    cases e
set_option maxRecDepth 100000 in
set_option maxHeartbeats 8000000 in
theorem diskRuns_any (v : Value) (cs : List Cl) (w : World) (hC : SlCl w v cs) (hok : ∀ c ∈ cs, c.Ok) : Calls Try.prog 9 #[v] w fun e w' => e = .returned (.bool true) ∧ Keep w w' := by
  obtain ⟨va, vc, rfl, hmx, -⟩ := hC.form
  unfold maxLen at hmx
  go_enter Try.func9, Try.ntmps9
  go_wp2_with fail
  refine (fit_any _).mono ?_
  rintro e w1 ⟨rfl, k1⟩
  by_cases hl : 200 < cs.length
  · have tl : (200 : Int) < (cs.length : Int) := by omega
    go_wp2
    go_ret
    exact ⟨rfl, k1⟩
  have tl : ¬ ((200 : Int) < (cs.length : Int)) := by omega
  go_wp2_with fail
  refine (new_ds (Ds.nil (Keep.refl w1)) 3 8 (by decide) (by decide) (by decide) (by decide)).mono ?_
  rintro e w2 ⟨p, rfl, h2, k2⟩
  have h2 : Ds w1 w2 [(p, newD 3 8)] := h2
  go_upto_region 6 with (fail)
  refine wp_region_seq ?_
  refine seqW_pure rfl ?_
  go_big_quiet_step (fail)
  refine seqW_on ?_
  refine seqW_pure rfl ?_
  go_big_quiet_step (fail)
  refine seqW_on ?_
  have kM := Keep.alloc w2 (.cells #[.string ⟨[].toArray⟩, .string ⟨[].toArray⟩, .string ⟨[].toArray⟩, .string ⟨[].toArray⟩, .string ⟨[].toArray⟩, .string ⟨[].toArray⟩, .string ⟨[].toArray⟩, .string ⟨[].toArray⟩, .string ⟨[].toArray⟩, .string ⟨[].toArray⟩, .string ⟨[].toArray⟩, .string ⟨[].toArray⟩, .string ⟨[].toArray⟩, .string ⟨[].toArray⟩, .string ⟨[].toArray⟩, .string ⟨[].toArray⟩, .string ⟨[].toArray⟩, .string ⟨[].toArray⟩, .string ⟨[].toArray⟩, .string ⟨[].toArray⟩, .string ⟨[].toArray⟩, .string ⟨[].toArray⟩, .string ⟨[].toArray⟩, .string ⟨[].toArray⟩, .slice none 0 0, .slice none 0 0, .slice none 0 0, .int .i64 (-1), .int .i64 (-1), .int .i64 (-1)] 55)
  have hM := heap_alloc_new w2 (.cells #[.string ⟨[].toArray⟩, .string ⟨[].toArray⟩, .string ⟨[].toArray⟩, .string ⟨[].toArray⟩, .string ⟨[].toArray⟩, .string ⟨[].toArray⟩, .string ⟨[].toArray⟩, .string ⟨[].toArray⟩, .string ⟨[].toArray⟩, .string ⟨[].toArray⟩, .string ⟨[].toArray⟩, .string ⟨[].toArray⟩, .string ⟨[].toArray⟩, .string ⟨[].toArray⟩, .string ⟨[].toArray⟩, .string ⟨[].toArray⟩, .string ⟨[].toArray⟩, .string ⟨[].toArray⟩, .string ⟨[].toArray⟩, .string ⟨[].toArray⟩, .string ⟨[].toArray⟩, .string ⟨[].toArray⟩, .string ⟨[].toArray⟩, .string ⟨[].toArray⟩, .slice none 0 0, .slice none 0 0, .slice none 0 0, .int .i64 (-1), .int .i64 (-1), .int .i64 (-1)] 55)
  refine seqW_gives (by kernel_rfl) ?_
  refine Gives.value (v := .pointer (some ⟨w2.heap.size, 0, none⟩)) (w' := w2.alloc (.cells #[.string ⟨[].toArray⟩, .string ⟨[].toArray⟩, .string ⟨[].toArray⟩, .string ⟨[].toArray⟩, .string ⟨[].toArray⟩, .string ⟨[].toArray⟩, .string ⟨[].toArray⟩, .string ⟨[].toArray⟩, .string ⟨[].toArray⟩, .string ⟨[].toArray⟩, .string ⟨[].toArray⟩, .string ⟨[].toArray⟩, .string ⟨[].toArray⟩, .string ⟨[].toArray⟩, .string ⟨[].toArray⟩, .string ⟨[].toArray⟩, .string ⟨[].toArray⟩, .string ⟨[].toArray⟩, .string ⟨[].toArray⟩, .string ⟨[].toArray⟩, .string ⟨[].toArray⟩, .string ⟨[].toArray⟩, .string ⟨[].toArray⟩, .string ⟨[].toArray⟩, .slice none 0 0, .slice none 0 0, .slice none 0 0, .int .i64 (-1), .int .i64 (-1), .int .i64 (-1)] 55)) (by go_simp) ?_
  have hMd := newM_at (W := w1) (w := w2.alloc _) (g := w2.heap.size) hM (by simp)
  have h3 := h2.dx.more kM (fun b => b = w2.heap.size) (fun b hb => .inr (by rw [hb]; exact ⟨Nat.le_refl _, by simp⟩))
  have kM3 := k2.trans' kM
  have hgm : w1.heap.size ≤ w2.heap.size := k2.size
  generalize w2.alloc (.cells #[.string ⟨[].toArray⟩, .string ⟨[].toArray⟩, .string ⟨[].toArray⟩, .string ⟨[].toArray⟩, .string ⟨[].toArray⟩, .string ⟨[].toArray⟩, .string ⟨[].toArray⟩, .string ⟨[].toArray⟩, .string ⟨[].toArray⟩, .string ⟨[].toArray⟩, .string ⟨[].toArray⟩, .string ⟨[].toArray⟩, .string ⟨[].toArray⟩, .string ⟨[].toArray⟩, .string ⟨[].toArray⟩, .string ⟨[].toArray⟩, .string ⟨[].toArray⟩, .string ⟨[].toArray⟩, .string ⟨[].toArray⟩, .string ⟨[].toArray⟩, .string ⟨[].toArray⟩, .string ⟨[].toArray⟩, .string ⟨[].toArray⟩, .string ⟨[].toArray⟩, .slice none 0 0, .slice none 0 0, .slice none 0 0, .int .i64 (-1), .int .i64 (-1), .int .i64 (-1)] 55) = w3 at *
  generalize w2.heap.size = gm at *
  clear hM kM h2 k2
  simp only [Act.put, List.setIfInBounds_toArray, List.set_cons_zero, List.set_cons_succ]
  refine seqW_pure rfl ?_
  go_big_quiet_step (fail)
  refine seqW_on ?_
  refine seqW_done ?_
  have i3 := like_newM
  have s3 := newD_small 3 8
  have n3 : (newD 3 8).writes = 0 := rfl
  generalize newD 3 8 = d3 at *
  generalize newM = m3 at *
  generalize List.replicate 3 nilV = vs3 at *
  go_wp2_with fail
  go_loopw [5, 31] (fun z i wr => ∃ (j : Nat) (d : Dk) (m : Md) (vs : List Value) (S : Nat → Prop), j ≤ cs.length ∧ i = .int .i64 j ∧ z = .int .i64 d.writes ∧ MdLike d m ∧ d.Small j ∧ MdAt w1 wr S gm m vs ∧ Dx w1 S wr [(p, d)] ∧ (∀ b, S b → w1.heap.size ≤ b)) (fun _ i _ => cs.length - (intOf i).toNat)
  case atStart => exact ⟨0, d3, m3, vs3, _, Nat.zero_le _, rfl, by rw [n3]; rfl, i3, s3, hMd, h3, fun b hb => by rw [hb]; exact hgm⟩
  case round =>
    obtain ⟨j, d, m, vs, S, hj, rfl, rfl, hL, hS, hM, hD, hSW⟩ := hrel
    clear i3 s3 n3 hMd h3
    by_cases hjn : j < cs.length
    rotate_left
    · have hjd : ¬ ((j : Int) < (cs.length : Int)) := by omega
      have kz := k1.trans' hD.k
      go_wp2_with fail
      refine (writes_dx hD 0 (by simp) p _ rfl).mono ?_
      rintro ee w9 ⟨rfl, rfl⟩
      go_wp2
      go_ret
      exact ⟨rfl, kz⟩
    have hjd : (j : Int) < (cs.length : Int) := by omega
    have _MARK := hjd
    clear _MARK
    obtain ⟨ga, oa, rfl, dv, hdv, x0, x1, x2, x3, x4⟩ := hC.elem j hjn
    have hcok := hok cs[j] (List.getElem_mem hjn)
    obtain ⟨da, dc, rfl, -, -, -⟩ := hdv.form
    have hdv1 := hdv.keep k1
    have kw := k1.trans' hD.k
    have x0 := kw.cellk x0
    have x1 := kw.cellk x1
    have x2 := kw.cellk x2
    have x3 := kw.cellk x3
    have x4 := kw.cellk x4
    generalize cs[j] = c at *
    go_upto_region 11 with (fail)
    have kA := Keep.alloc wr (.cells #[.int .i64 c.kind, .int .i64 c.r, .int .i64 c.s, .slice da c.data.length dc, .int .u64 c.mask] 37)
    have hA := heap_alloc_new wr (.cells #[.int .i64 c.kind, .int .i64 c.r, .int .i64 c.s, .slice da c.data.length dc, .int .u64 c.mask] 37)
    have hgx : wr.heap.size < (wr.alloc (.cells #[.int .i64 c.kind, .int .i64 c.r, .int .i64 c.s, .slice da c.data.length dc, .int .u64 c.mask] 37)).heap.size := by simp
    generalize wr.alloc (.cells #[.int .i64 c.kind, .int .i64 c.r, .int .i64 c.s, .slice da c.data.length dc, .int .u64 c.mask] 37) = wA at *
    obtain ⟨gx, hgxe⟩ : ∃ gx, gx = wr.heap.size := ⟨_, rfl⟩
    rw [← hgxe] at hA hgx ⊢
    have hgx := And.intro (Nat.le_of_eq hgxe.symm) hgx
    clear hgxe
    have y0 : wA.cell? ⟨gx, 0, none⟩ = _ := cell_of hA 0 _ rfl
    have y1 : wA.cell? ⟨gx, 1, none⟩ = _ := cell_of hA 1 _ rfl
    have y2 : wA.cell? ⟨gx, 2, none⟩ = _ := cell_of hA 2 _ rfl
    have y3 : wA.cell? ⟨gx, 3, none⟩ = _ := cell_of hA 3 _ rfl
    clear x0 x1 x2 x3 x4
    have y4 : wA.cell? ⟨gx, 4, none⟩ = _ := cell_of hA 4 _ rfl
    have hMA := hM.keep kA
    have hDA := hD.keep kA
    have hDG := hD.more kA (fun b => S b ∨ b = gx) (fun b hb => hb.elim .inl (fun hb => .inr (by rw [hb]; exact ⟨hgx.1, hgx.2⟩)))
    have kw1 : Keep w w1 := k1
    clear hD kw kA
    by_cases h100 : 100 < c.data.length
    · have t100 : (100 : Int) < (c.data.length : Int) := by omega
      have kz := k1.trans' hDA.k
      clear h100
      go_wp2
      go_ret
      exact ⟨rfl, kz⟩
    have t100 : ¬ ((100 : Int) < (c.data.length : Int)) := by omega
    go_upto_region 13 with (fail)
    have htd := hL.there c.r c.s
    obtain ⟨T, hT⟩ : ∃ T : Bool, d.there c.r c.s = T := ⟨_, rfl⟩
    rw [hT] at htd
    have HTD := Lib.hid htd
    have HT := Lib.hid hT
    clear htd hT
    go_cut [8] from 39 to 56 (fun z8 w' => z8 = .bool T ∧ wA = w')
    case first =>
      by_cases a1 : 0 ≤ c.r
      rotate_left
      · go_wp2
        go_meet
        case rel => exact ⟨by first | (rw [HTD.out.trans (decide_eq_false (by omega))]; done) | (rw [HTD.out.trans (decide_eq_false (by omega))]; simp [*]; done), rfl⟩
      by_cases a2 : c.r < 3
      rotate_left
      · go_wp2
        go_meet
        case rel => exact ⟨by first | (rw [HTD.out.trans (decide_eq_false (by omega))]; done) | (rw [HTD.out.trans (decide_eq_false (by omega))]; simp [*]; done), rfl⟩
      by_cases a3 : 0 ≤ c.s
      rotate_left
      · go_wp2
        go_meet
        case rel => exact ⟨by first | (rw [HTD.out.trans (decide_eq_false (by omega))]; done) | (rw [HTD.out.trans (decide_eq_false (by omega))]; simp [*]; done), rfl⟩
      by_cases a4 : c.s < 8
      · go_wp2
        go_meet
        case rel => exact ⟨by first | (rw [HTD.out.trans (decide_eq_true (by omega))]; done) | (rw [HTD.out.trans (decide_eq_true (by omega))]; simp [*]; done), rfl⟩
      · go_wp2
        go_meet
        case rel => exact ⟨by first | (rw [HTD.out.trans (decide_eq_false (by omega))]; done) | (rw [HTD.out.trans (decide_eq_false (by omega))]; simp [*]; done), rfl⟩
    obtain ⟨rfl, rfl⟩ := hcut
    go_upto_region 14 with (fail)
    refine wp_region_ch 6 [none, none, none, none, none, none] (fun w' => w'.cell? ⟨gx, 1, none⟩ = some (.int .i64 c.r) ∧ w'.cell? ⟨gx, 2, none⟩ = some (.int .i64 c.s)) (by kernel_rfl) (by kernel_rfl) (by kernel_rfl) (by kernel_rfl) (⟨y1, y2⟩) ?_
    refine chT_pure rfl ?_
    go_big_quiet_step (fail)
    refine chT_on ?_
    refine chT_same (v := .int .i64 c.r) (by kernel_rfl) (fun w2 hC => by
      have zz := hC.1
      go_simp) ?_
    simp only [Act.put, List.setIfInBounds_toArray, List.set_cons_zero, List.set_cons_succ]
    refine chT_pure rfl ?_
    go_big_quiet_step (fail)
    refine chT_on ?_
    refine chT_same (v := .int .i64 c.s) (by kernel_rfl) (fun w2 hC => by
      have zz := hC.2
      go_simp) ?_
    simp only [Act.put, List.setIfInBounds_toArray, List.set_cons_zero, List.set_cons_succ]
    refine chT_pure rfl ?_
    go_big_quiet_step (fail)
    refine chT_on ?_
    refine chT_pure rfl ?_
    go_big_quiet_step (fail)
    refine chT_on ?_
    refine chT_done ?_
    refine seqW_done ?_
    have hMA := hMA.keep (w' := wA.drew) (Keep.refl wA).drew
    have hDA := hDA.keep (w' := wA.drew) (Keep.refl wA).drew
    have hDG := hDG.keep (w' := wA.drew) (Keep.refl wA).drew
    have hA : wA.drew.heap[gx]? = _ := hA
    have y0 : wA.drew.cell? ⟨gx, 0, none⟩ = _ := y0
    have y3 : wA.drew.cell? ⟨gx, 3, none⟩ = _ := y3
    have y4 : wA.drew.cell? ⟨gx, 4, none⟩ = _ := y4
    have hgx : wr.heap.size ≤ gx ∧ gx < wA.drew.heap.size := hgx
    generalize wA.drew = wB at *
    go_upto_region 15 with (fail)
    go_cut [65] from 61 to 64 (fun z65 w' => (∃ n : Nat, n < 5 ∧ z65 = .int .i64 n) ∧ wB = w')
    case first =>
      go_wp2
      go_meet
      case rel =>
        obtain ⟨kd, hk1, hk2⟩ := kind5 c.kind
        exact ⟨⟨kd, hk1, by rw [hk2]⟩, rfl⟩
    obtain ⟨⟨kd, hkd, rfl⟩, rfl⟩ := hcut
    go_step
    have hjl : j ≤ 200 := by omega
    clear y0
    go_cut [5] from 66 to 212 (fun z5 w' => ∃ (d' : Dk) (m' : Md) (vs' : List Value) (S' : Nat → Prop), z5 = .int .i64 d'.writes ∧ MdLike d' m' ∧ d'.Small (j + 1) ∧ MdAt w1 w' S' gm m' vs' ∧ Dx w1 S' w' [(p, d')] ∧ (∀ b, S' b → w1.heap.size ≤ b))
    case first =>
      have hsame := hS.mono (show j ≤ j + 1 by omega)
      rcases (show kd = 0 ∨ kd = 1 ∨ kd = 2 ∨ kd = 3 ∨ kd = 4 by omega) with rfl | rfl | rfl | rfl | rfl
      · as_aux_lemma =>
          clear hkd
          cases T
          · have E1 := Lib.hid (wr_bad d c.r c.s c.data (.inl HT.out)).1
            have E2 := Lib.hid (wr_bad d c.r c.s c.data (.inl HT.out)).2
            go_wp2_with fail
            refine (write_dx hDA 0 (by simp) p _ rfl c.r c.s _ c.data (hdv1.keep hDA.k) (hS.room (by omega))).mono ?_
            rintro ee w5 ⟨rfl, h5, hX5⟩
            have h5 : Dx w1 S w5 [(p, d.wrD c.r c.s c.data)] := h5
            rw [E2.out] at h5
            rw [E1.out]
            have hM5 := hMA.at2 hX5 h5.x
            clear hMA hDA hX5 E1 E2
            go_wp2
            go_meet
            case rel => exact ⟨d, m, vs, S, rfl, hL, hsame, hM5, h5, hSW⟩
          by_cases h64 : 64 < c.data.length
          · have E1 := Lib.hid (wr_bad d c.r c.s c.data (.inr h64)).1
            have E2 := Lib.hid (wr_bad d c.r c.s c.data (.inr h64)).2
            have t64 : (64 : Int) < (c.data.length : Int) := by omega
            go_wp2_with fail
            refine (write_dx hDA 0 (by simp) p _ rfl c.r c.s _ c.data (hdv1.keep hDA.k) (hS.room (by omega))).mono ?_
            rintro ee w5 ⟨rfl, h5, hX5⟩
            have h5 : Dx w1 S w5 [(p, d.wrD c.r c.s c.data)] := h5
            rw [E2.out] at h5
            rw [E1.out]
            have hM5 := hMA.at2 hX5 h5.x
            clear hMA hDA hX5 E1 E2
            go_wp2
            go_meet
            case rel => exact ⟨d, m, vs, S, rfl, hL, hsame, hM5, h5, hSW⟩
          have t64 : ¬ ((64 : Int) < (c.data.length : Int)) := by omega
          obtain ⟨q1, q2, q3, q4⟩ := of_decide_eq_true HTD.out.symm
          have hrn : c.r.toNat < m.left.length := by rw [hL.nl]; omega
          have hrv : c.r.toNat < vs.length := by rw [hMA.vl]; omega
          have hrw : c.r.toNat < m.wait.length := by rw [hL.wl]; omega
          have z0 := hMA.count c.r.toNat hrn
          have hdn := hL.down c.r.toNat (by omega)
          have hlz := HT.out
          by_cases hz : m.left[c.r.toNat] = 0
          · have hdt : d.down c.r.toNat = true := by rw [hdn]; exact decide_eq_true hz
            have E1 := Lib.hid (wr_down d c.r c.s c.data HT.out h64 hdt).1
            have E2 := Lib.hid (wr_down d c.r c.s c.data HT.out h64 hdt).2
            rw [hz] at z0
            clear hz hdn hdt h64 hlz
            go_wp2_with fail
            refine (write_dx hDA 0 (by simp) p _ rfl c.r c.s _ c.data (hdv1.keep hDA.k) (hS.room (by omega))).mono ?_
            rintro ee w5 ⟨rfl, h5, hX5⟩
            have h5 : Dx w1 S w5 [(p, d.wrD c.r c.s c.data)] := h5
            rw [E2.out] at h5
            rw [E1.out]
            have hM5 := hMA.at2 hX5 h5.x
            clear hMA hDA hX5 E1 E2
            go_wp2
            go_meet
            case rel => exact ⟨d, m, vs, S, rfl, hL, hsame, hM5, h5, hSW⟩
          have hdf : d.down c.r.toNat = false := by rw [hdn]; exact decide_eq_false hz
          have E1 := Lib.hid (wr_ok d c.r c.s c.data HT.out h64 hdf).1
          have E2 := Lib.hid (wr_ok d c.r c.s c.data HT.out h64 hdf).2
          have HZ := Lib.hid hz
          have hzb : (m.left[c.r.toNat] == 0) = false := beq_eq_false_iff_ne.2 hz
          have hgx0 : ∀ b, S b → b ≠ gx := fun b hb e => by have := hM.low b hb; omega
          clear hdn hdf hlz hz
          have hwl : m.wait[c.r.toNat].length ≤ 200 := by
            have h1 := hL.waits c.r.toNat (by omega)
            have h2 : d.waitsI (c.r.toNat : Int) ≤ j := by
              unfold Dk.waitsI
              split
              · exact hS.get _
              · omega
            omega
          obtain ⟨css, hOw, hcl, hcp⟩ := hMA.waits c.r.toNat hrv hrw
          have hap := hMA.apart c.r.toNat hrv
          have z1 := hMA.slice c.r.toNat hrv
          obtain ⟨wa, wc, hwv, -, -⟩ := (hOw.slc (by decide)).form
          rw [hcl] at hwv
          have HWV := Lib.hid hwv
          rw [hwv] at z1 hOw hap
          clear hwv
          generalize hws : m.wait[c.r.toNat]'hrw = ws at *
          have HWS := Lib.hid hws
          clear hws
          go_upto_region 21 with (fail)
          refine wp_region_ch 14 [none, none, none, none, none, none, none, none, none, some none, some none, none, none, none, none] (fun w' => w'.cell? ⟨gm, 24 + c.r.toNat, none⟩ = some (.slice wa ws.length wc) ∧ w'.heap[gx]? = some (.cells #[.int .i64 c.kind, .int .i64 c.r, .int .i64 c.s, .slice da c.data.length dc, .int .u64 c.mask] 37)) (by kernel_rfl) (by kernel_rfl) (by kernel_rfl) (by kernel_rfl) (⟨z1, hA⟩) ?_
          refine chT_pure rfl ?_
          go_big_quiet_step (fail)
          refine chT_on ?_
          refine chT_pure rfl ?_
          go_big_quiet_step (fail)
          refine chT_on ?_
          refine chT_pure rfl ?_
          go_big_quiet_step (fail)
          refine chT_on ?_
          refine chT_pure rfl ?_
          go_big_quiet_step (fail)
          refine chT_on ?_
          refine chT_same (v := .pointer (some ⟨gm, 0, none⟩)) (by kernel_rfl) (fun w2 hC => by
            go_simp) ?_
          simp only [Act.put, List.setIfInBounds_toArray, List.set_cons_zero, List.set_cons_succ]
          refine chT_pure rfl ?_
          go_big_quiet_step (fail)
          refine chT_on ?_
          refine chT_pure rfl ?_
          go_big_quiet_step (fail)
          refine chT_on ?_
          refine chT_same (v := .slice wa ws.length wc) (by kernel_rfl) (fun w2 hC => by
            have zz := hC.1
            go_simp) ?_
          simp only [Act.put, List.setIfInBounds_toArray, List.set_cons_zero, List.set_cons_succ]
          refine chT_same (v := .agg (c.cells (.slice da c.data.length dc)).toArray) (by kernel_rfl) (fun w2 hC => ?_) ?_
          · exact exec_loadBig bigC _ rfl rfl w2 (c.cells (.slice da c.data.length dc)) rfl (fun j v hj => cell_of hC.2 _ v (by rw [Nat.zero_add]; exact hj))
          simp only [Act.put, List.setIfInBounds_toArray, List.set_cons_zero, List.set_cons_succ]
          have hMB := hMA.keep (w' := wB.drew) (Keep.refl wB).drew
          have hDB := hDA.keep (w' := wB.drew) (Keep.refl wB).drew
          have hA : wB.drew.heap[gx]? = _ := hA
          have z1 : wB.drew.cell? ⟨gm, 24 + c.r.toNat, none⟩ = _ := z1
          have hOw := hOw.at (w' := wB.drew) fun _ _ _ => rfl
          have hgx : wr.heap.size ≤ gx ∧ gx < wB.drew.heap.size := hgx
          clear hMA hDA y1 y2 y3 y4 z0
          generalize wB.drew = y4 at *
          refine chT_gives (by kernel_rfl) ?_
          refine Gives.buildSliceBig bigC Try.underlying35 _ rfl (c.cells (.slice da c.data.length dc)) rfl rfl rfl (by decide) (by decide) ?_
          have hkB := Keep.alloc y4 (.cells (c.cells (.slice da c.data.length dc)).toArray 37)
          have hsB := SlC.laid (w := y4) 37 (0, 0) 5 (c.cells (.slice da c.data.length dc)) rfl
          have hM5 := hMB.keep hkB
          have hD5 := hDB.keep hkB
          have hO5 := hOw.keep hkB
          have hX5 := (hkB.block gx hgx.2).trans hA
          have hn5 := Nat.lt_of_lt_of_le hgx.2 hkB.size
          have hx5 := (hkB.cell (hMB.low gm hMB.sp)).trans z1
          refine ⟨⟨hx5, hX5⟩, ?_⟩
          clear hkB hMB hDB hOw
          generalize y4.alloc (.cells (c.cells (.slice da c.data.length dc)).toArray 37) = y5 at *
          generalize y4.heap.size = gy at *
          simp only [Act.put, List.setIfInBounds_toArray, List.set_cons_zero, List.set_cons_succ]
          refine chT_gives (by kernel_rfl) ?_
          refine Gives.appendKW elemCl _ _ rfl rfl rfl hO5 hsB (by intro y hy; rw [List.mem_singleton.1 hy]; rfl) (by intro y hy c hc; rw [List.mem_singleton.1 hy] at hc; exact cl_one c hc) (by unfold maxLen; simp only [hcl, List.length_cons, List.length_nil]; omega) (by simp only [hcl, List.length_cons, List.length_nil]; omega) (Nat.zero_le _) fun v6 y6 hO6 hg6 hw6 => ?_
          have hown : ∀ k, (Value.slice wa ws.length wc).ownBlock = some k → k ≠ gx ∧ S k := fun k e => ⟨hgx0 k (hap k e).1, (hap k e).1⟩
          have hX6 : y6.heap[gx]? = _ := (hg6.block gx hn5 (fun e => (hown gx e.symm).1 rfl)).trans hX5
          have hgm6 := hg6.block gm (hM5.low gm hM5.sp) (fun e => (hap gm e.symm).2.1 rfl)
          refine ⟨⟨(World.cell?_of_block hgm6).trans hx5, hX6⟩, ?_⟩
          have hx6 : y6.cell? ⟨gm, 24 + c.r.toNat, none⟩ = _ := (World.cell?_of_block hgm6).trans hx5
          have f6 := free_of (hgm6.trans hM5.head) (24 + c.r.toNat)
          have hB6 := (ButS.refl y5 S).grown hg6 (fun k e _ => (hown k e).2)
          have hD6 := hD5.touchMore hB6 hSW (fun b => S b ∨ (y5.heap.size ≤ b ∧ b < y6.heap.size)) (fun b hb => hb)
          have hTW : ∀ b, (S b ∨ (y5.heap.size ≤ b ∧ b < y6.heap.size)) → w1.heap.size ≤ b := fun b hb => hb.elim (hSW b) (fun h => Nat.le_trans hD5.k.size h.1)
          have hM7 := hM5.setSlice (T := fun b => S b ∨ (y5.heap.size ≤ b ∧ b < y6.heap.size)) (y := y6) c.r.toNat hrv v6 (ws ++ [c])
            (fun b hS hne => hg6.block b (hM5.low b hS) (fun e => hne (by rw [HWV.out]; exact e.symm)))
            (fun b hh => .inl hh) (fun b hh => hh.elim (fun h1 => Nat.lt_of_lt_of_le (hM5.low b h1) hg6.size) (fun h1 => h1.2))
            (OwnCl.snoc hcl hcp hdv1 hO6)
            (fun b e => (hw6 b e).elim (fun e1 => ⟨.inl (hap b e1).1, (hap b e1).2⟩)
              (fun h1 => ⟨.inr ⟨h1, (hO6.lt b e).2⟩, fun ee => by have := hM5.low _ hM5.sp; omega, fun jj hj hne e2 => by have := hM5.low b (hM5.apart jj hj b e2).1; omega⟩))
          have hB7 := (ButS.refl y6 (fun b => S b ∨ (y5.heap.size ≤ b ∧ b < y6.heap.size))).set ⟨gm, 24 + c.r.toNat, none⟩ v6 (.inl hM5.sp)
          have hD7 := hD6.touch hB7 hTW
          have hX7 := (Below.heap_setCell y6 ⟨gm, 24 + c.r.toNat, none⟩ v6 gx (fun e => hgx0 _ hM5.sp e.symm)).trans hX6
          obtain ⟨a6, c6, hv6, -, -⟩ := (hO6.slc (by decide)).form
          subst hv6
          clear hO6 hg6 hw6 hB6 hB7 hD6 hM5 hD5 hX6 hgm6 hx5 hX5 hO5 hsB hn5 hown hap
          simp only [Act.put, List.setIfInBounds_toArray, List.set_cons_zero, List.set_cons_succ]
          refine chT_same (v := .pointer (some ⟨gm, 0, none⟩)) (by kernel_rfl) (fun w2 hC => by
            go_simp) ?_
          simp only [Act.put, List.setIfInBounds_toArray, List.set_cons_zero, List.set_cons_succ]
          refine chT_pure rfl ?_
          go_big_quiet_step (fail)
          refine chT_on ?_
          refine chT_pure rfl ?_
          go_big_quiet_step (fail)
          refine chT_on ?_
          refine chT_done ?_
          refine seqW_gives (by kernel_rfl) ?_
          refine Gives.skip (w' := y6.setCell ⟨gm, 24 + c.r.toNat, none⟩ (.slice a6 (css ++ [c.cells (.slice da c.data.length dc)]).length c6)) (by go_simp) ?_
          clear hx6 f6
          generalize y6.setCell ⟨gm, 24 + c.r.toNat, none⟩ (.slice a6 (css ++ [c.cells (.slice da c.data.length dc)]).length c6) = w7 at *
          simp only [Act.put, List.setIfInBounds_toArray, List.set_cons_zero, List.set_cons_succ]
          refine seqW_done ?_
          have hTW : ∀ b, (fun b => S b ∨ (y5.heap.size ≤ b ∧ b < y6.heap.size)) b → w1.heap.size ≤ b := hTW
          generalize hT7 : (fun b => S b ∨ (y5.heap.size ≤ b ∧ b < y6.heap.size)) = T7 at *
          clear hT7
          have y3 : w7.cell? ⟨gx, 3, none⟩ = _ := cell_of hX7 3 _ rfl
          have hne : gm ≠ gx := hgx0 _ hM.sp
          have hmx := hL.max (hD7.dok 0 (by simp) p _ rfl) c.r.toNat hrn
          have z2 := hM7.count c.r.toNat hrn
          simp only at z2
          have f2 := free_of hM7.head (27 + c.r.toNat)
          have HFIN1 := Lib.hid (Md.write_pos m c.r.toNat c ws _ hrw HWS.out hrn rfl)
          have HFIN2 := Lib.hid (Md.write_neg m c.r.toNat c ws _ hrw HWS.out hrn rfl)
          have hwrs := hS.wr
          have HLIKE := Lib.hid (hL.write c.r.toNat (by omega) c ⟨q3, q4, by omega⟩ HZ.out)
          have HSML := Lib.hid (hS.write c.r.toNat c.s.toNat c.data)
          have HWR : Hid ((d.write c.r.toNat c.s.toNat c.data).writes = d.writes + 1) := Lib.hid rfl
          generalize hvs7 : vs.set c.r.toNat (Value.slice a6 (css ++ [c.cells (.slice da c.data.length dc)]).length c6) = vs7 at *
          clear hvs7 HZ hX7 hzb HWV hcp hcl hwl
          generalize m.left[c.r.toNat]'hrn = ln at *
          by_cases hp : 0 < ln
          · go_upto_region 24 with (fail)
            refine wp_region_ch 10 [none, none, none, none, none, none, none, none, none, none, none] (fun w' => w'.cell? ⟨gm, 27 + c.r.toNat, none⟩ = some (.int .i64 ln)) (by kernel_rfl) (by kernel_rfl) (by kernel_rfl) (by kernel_rfl) (z2) ?_
            refine chT_pure rfl ?_
            go_big_quiet_step (fail)
            refine chT_on ?_
            refine chT_pure rfl ?_
            go_big_quiet_step (fail)
            refine chT_on ?_
            refine chT_same (v := .pointer (some ⟨gm, 0, none⟩)) (by kernel_rfl) (fun w2 hC => by
              go_simp) ?_
            simp only [Act.put, List.setIfInBounds_toArray, List.set_cons_zero, List.set_cons_succ]
            refine chT_pure rfl ?_
            go_big_quiet_step (fail)
            refine chT_on ?_
            refine chT_pure rfl ?_
            go_big_quiet_step (fail)
            refine chT_on ?_
            refine chT_same (v := .int .i64 ln) (by kernel_rfl) (fun w2 hC => by
              have zz : w2.cell? ⟨gm, 27 + c.r.toNat, none⟩ = _ := hC
              go_simp) ?_
            simp only [Act.put, List.setIfInBounds_toArray, List.set_cons_zero, List.set_cons_succ]
            refine chT_pure rfl ?_
            go_big_quiet_step (fail)
            refine chT_on ?_
            refine chT_same (v := .pointer (some ⟨gm, 0, none⟩)) (by kernel_rfl) (fun w2 hC => by
              go_simp) ?_
            simp only [Act.put, List.setIfInBounds_toArray, List.set_cons_zero, List.set_cons_succ]
            refine chT_pure rfl ?_
            go_big_quiet_step (fail)
            refine chT_on ?_
            refine chT_pure rfl ?_
            go_big_quiet_step (fail)
            refine chT_on ?_
            refine chT_done ?_
            have hM8 := (hM7.keep (w' := w7.drew) (Keep.refl w7).drew).setCount c.r.toNat (ln - 1)
            have hD8 := (hD7.keep (w' := w7.drew) (Keep.refl w7).drew).touch ((ButS.refl w7.drew T7).set ⟨gm, 27 + c.r.toNat, none⟩ (.int .i64 (ln - 1)) hM7.sp) hTW
            have z3 : w7.drew.cell? ⟨gm, 27 + c.r.toNat, none⟩ = _ := z2
            have f3 : w7.drew.frozen? ⟨gm, 27 + c.r.toNat, none⟩ = _ := f2
            have y3 : (w7.drew.setCell ⟨gm, 27 + c.r.toNat, none⟩ (.int .i64 (ln - 1))).cell? ⟨gx, 3, none⟩ = _ := (World.cell?_setCell_other w7.drew _ _ _ (fun e => hne (by injection e))).trans y3
            refine seqW_gives (by kernel_rfl) ?_
            refine Gives.skip (w' := w7.drew.setCell ⟨gm, 27 + c.r.toNat, none⟩ (.int .i64 (ln - 1))) (by go_simp) ?_
            simp only at hM8
            rw [← HFIN1.out hp] at hM8
            clear z2 f2 z3 f3 hM7 hD7
            generalize w7.drew.setCell ⟨gm, 27 + c.r.toNat, none⟩ (.int .i64 (ln - 1)) = w7 at *
            simp only [Act.put, List.setIfInBounds_toArray, List.set_cons_zero, List.set_cons_succ]
            refine seqW_done ?_
            have hD7 := hD8
            go_wp2_with fail
            refine (write_dx hD7 0 (by simp) p _ rfl c.r c.s _ c.data (hdv1.keep hD7.k) (hS.room (by omega))).mono ?_
            rintro ee w9 ⟨rfl, h9, hX9⟩
            have h9 : Dx w1 T7 w9 [(p, d.wrD c.r c.s c.data)] := h9
            rw [E2.out] at h9
            rw [E1.out]
            have hM9 := hM8.at2 hX9 h9.x
            go_wp2
            go_meet
            case rel => exact ⟨_, _, _, T7, by rw [HWR.out]; go_num, HLIKE.out, HSML.out, hM9, h9, hTW⟩
          · have hM8 : MdAt w1 w7 T7 gm (m.write c.r.toNat c) vs7 := by rw [HFIN2.out hp]; exact hM7
            clear hM7 f2
            go_wp2_with fail
            refine (write_dx hD7 0 (by simp) p _ rfl c.r c.s _ c.data (hdv1.keep hD7.k) (hS.room (by omega))).mono ?_
            rintro ee w9 ⟨rfl, h9, hX9⟩
            have h9 : Dx w1 T7 w9 [(p, d.wrD c.r c.s c.data)] := h9
            rw [E2.out] at h9
            rw [E1.out]
            have hM9 := hM8.at2 hX9 h9.x
            go_wp2
            go_meet
            case rel => exact ⟨_, _, _, T7, by rw [HWR.out]; go_num, HLIKE.out, HSML.out, hM9, h9, hTW⟩
      · as_aux_lemma =>
          clear hkd
          by_cases hr : 0 ≤ c.r ∧ c.r < 3
          rotate_left
          · have ht0 : d.there c.r 0 = false := (hL.there0 c.r).trans (decide_eq_false hr)
            have E1 := Lib.hid (bar_bad d c.r ht0).1
            have E2 := Lib.hid (bar_bad d c.r ht0).2
            clear ht0
            by_cases hr0 : c.r < 0
            · go_wp2_with fail
              refine (barrier_dx hDA 0 (by simp) p _ rfl c.r).mono ?_
              rintro ee w6 ⟨rfl, h6, hX6⟩
              have h6 : Dx w1 S w6 [(p, d.barD c.r)] := h6
              rw [E2.out] at h6
              rw [E1.out]
              have hM6 := hMA.at2 hX6 h6.x
              clear E1 E2 hX6
              go_wp2
              go_meet
              case rel => exact ⟨d, m, vs, S, rfl, hL, hsame, hM6, h6, hSW⟩
            have hr2 : 2 < c.r := by omega
            go_wp2_with fail
            refine (barrier_dx hDA 0 (by simp) p _ rfl c.r).mono ?_
            rintro ee w6 ⟨rfl, h6, hX6⟩
            have h6 : Dx w1 S w6 [(p, d.barD c.r)] := h6
            rw [E2.out] at h6
            rw [E1.out]
            have hM6 := hMA.at2 hX6 h6.x
            clear E1 E2 hX6
            go_wp2
            go_meet
            case rel => exact ⟨d, m, vs, S, rfl, hL, hsame, hM6, h6, hSW⟩
          have hr0 : ¬ c.r < 0 := by omega
          have hr2 : ¬ 2 < c.r := by omega
          have ht0 : d.there c.r 0 = true := (hL.there0 c.r).trans (decide_eq_true hr)
          have hrn : c.r.toNat < m.left.length := by rw [hL.nl]; omega
          have z0 := hMA.count c.r.toNat hrn
          have hdn := hL.down c.r.toNat (by omega)
          have hcast : ((c.r.toNat : Nat) : Int) = c.r := Int.toNat_of_nonneg hr.1
          by_cases hz : m.left[c.r.toNat] = 0
          · have hdt : d.down c.r.toNat = true := by rw [hdn]; exact decide_eq_true hz
            have E1 := Lib.hid (bar_down d c.r ht0 hdt).1
            have E2 := Lib.hid (bar_down d c.r ht0 hdt).2
            rw [hz] at z0
            clear hz hdn hdt ht0 hcast
            go_wp2_with fail
            refine (barrier_dx hDA 0 (by simp) p _ rfl c.r).mono ?_
            rintro ee w6 ⟨rfl, h6, hX6⟩
            have h6 : Dx w1 S w6 [(p, d.barD c.r)] := h6
            rw [E2.out] at h6
            rw [E1.out]
            have hM6 := hMA.at2 hX6 h6.x
            clear E1 E2 hX6
            go_wp2
            go_meet
            case rel => exact ⟨d, m, vs, S, rfl, hL, hsame, hM6, h6, hSW⟩
          have hdf : d.down c.r.toNat = false := by rw [hdn]; exact decide_eq_false hz
          have E1 := Lib.hid (bar_ok d c.r ht0 hdf).1
          have E2 := Lib.hid (bar_ok d c.r ht0 hdf).2
          have hzb : (m.left[c.r.toNat] == 0) = false := beq_eq_false_iff_ne.2 hz
          have hke := mkeep_any w1 wB S gm m vs c.r.toNat 18446744073709551615 hMA hDA.k hSW (by omega) (by decide) hL.ok
          rw [hcast] at hke
          clear hz hdn hdf ht0 hcast
          go_wp2_with fail
          refine hke.mono ?_
          clear hke
          rintro ee w5 ⟨rfl, ⟨vs5, hM5⟩, hB5⟩
          have hD5 := hDA.touch hB5 hSW
          clear hMA hDA hB5 z0 y1 y2 y3 y4
          go_wp2_with fail
          refine (barrier_dx hD5 0 (by simp) p _ rfl c.r).mono ?_
          rintro ee w6 ⟨rfl, h6, hX6⟩
          have h6 : Dx w1 S w6 [(p, d.barD c.r)] := h6
          rw [E2.out] at h6
          rw [E1.out]
          have hM6 := hM5.at2 hX6 h6.x
          clear E1 E2 hX6
          go_wp2
          go_meet
          case rel => exact ⟨(d.keep c.r.toNat 18446744073709551615), _, _, S, rfl, (hL.keep c.r.toNat (by omega) _), (hsame.keep _ _), hM6, h6, hSW⟩
      · as_aux_lemma =>
          clear hkd
          have hgx0 : ∀ b, S b → b ≠ gx := fun b hb e => by have := hM.low b hb; omega
          have hmk := hcok.m
          go_wp2_with fail
          refine (crash_dx hDG 0 (by simp) p _ rfl c.mask hmk).mono ?_
          rintro ee w5 ⟨rfl, h5, hX5⟩
          have h5 : Dx w1 (fun b => S b ∨ b = gx) w5 [(p, d.crash c.mask)] := h5
          have hA5 : w5.heap[gx]? = some (.cells #[.int .i64 c.kind, .int .i64 c.r, .int .i64 c.s, .slice da c.data.length dc, .int .u64 c.mask] 37) := (hX5 gx (.inr rfl)).trans hA
          have hM5 := hMA.at2 (fun b hb => hX5 b (.inl hb)) (fun b hb => h5.x b (.inl hb))
          have h5 := h5.less S (fun b hb => .inl hb)
          have hfin := Lib.hid (hL.crash c.mask)
          have hsm := (hsame.crash c.mask)
          have hwr := Lib.hid (crash_writes d c.mask)
          have hck := Lib.hid (hL.crashN c.mask)
          have hM5 : MdAt w1 w5 S gm (m.crashN c.mask 0) vs := hM5
          generalize d.crash c.mask = dz at *
          clear hX5 hMA hDA hDG hA y1 y2 y3 y4
          go_wp2_with fail
          go_loopw [180] (fun z wr => ∃ (i : Nat) (vz : List Value), i ≤ 3 ∧ z = .int .i64 i ∧ MdAt w1 wr S gm (m.crashN c.mask i) vz ∧ wr.heap[gx]? = some (.cells #[.int .i64 c.kind, .int .i64 c.r, .int .i64 c.s, .slice da c.data.length dc, .int .u64 c.mask] 37) ∧ Dx w1 S wr [(p, dz)]) (fun z _ => 3 - (intOf z).toNat)
          case atStart => exact ⟨0, vs, Nat.zero_le _, rfl, hM5, hA5, h5⟩
          case round =>
            obtain ⟨i, vz, hi, rfl, hMz, hAz, hDz⟩ := hrel
            clear hM5 hA5 h5
            by_cases hin : i < 3
            rotate_left
            · have hid : ¬ ((i : Int) < 3) := by omega
              have h3 : i = 3 := by omega
              subst h3
              clear hin hi
              go_wp2
              go_meet
              case rel => exact ⟨dz, _, vz, S, by rw [hwr.out], hfin.out, hsm, hMz, hDz, hSW⟩
            have hid : (i : Int) < 3 := by omega
            have y4 := cell_of hAz 4 _ rfl
            have hke := mkeep_any w1 _ S gm _ vz i c.mask hMz hDz.k hSW hin hmk (hck.out i (by omega)).ok
            go_wp2_with fail
            refine hke.mono ?_
            clear hke
            rintro ee w6 ⟨rfl, ⟨vy, hM6⟩, hB6⟩
            have hA6 := (hB6.block gx (Array.getElem?_eq_some_iff.1 hAz).1 (fun hh => hgx0 gx hh rfl)).trans hAz
            have hD6 := hDz.touch hB6 hSW
            have hil : i < ((m.crashN c.mask i).keep i c.mask).left.length := by rw [hM6.nl]; exact hin
            have z6 := hM6.count i hil
            have f6 := free_of hM6.head (27 + i)
            have hM7 := hM6.setCount i (-1)
            have hD7 := hD6.touch ((ButS.refl w6 S).set ⟨gm, 27 + i, none⟩ (.int .i64 (-1)) hM6.sp) hSW
            have hA7 := (Below.heap_setCell w6 ⟨gm, 27 + i, none⟩ (.int .i64 (-1)) gx (fun e => hgx0 _ hM6.sp e.symm)).trans hA6
            have hM7 : MdAt w1 (w6.setCell ⟨gm, 27 + i, none⟩ (.int .i64 (-1))) S gm (m.crashN c.mask (i + 1)) vy := hM7
            clear hMz hAz hDz hB6 hD6 hM6 y4 hA6
            generalize ((m.crashN c.mask i).keep i c.mask).left[i]'hil = lz at *
            clear hil
            go_wp2
            go_roundw
            case rel => exact ⟨i + 1, vy, by omega, by go_num, hM7, hA7, hD7⟩
            case measure => simp [intOf]; omega
      · as_aux_lemma =>
          clear hkd
          go_wp2_with fail
          refine (arm_dx hDA 0 (by simp) p _ rfl c.r c.s hcok.s.2).mono ?_
          rintro ee w5 ⟨rfl, h5, hX5⟩
          have h5 : Dx w1 S w5 [(p, d.arm c.r c.s)] := h5
          have hM5 := hMA.at2 hX5 h5.x
          have hwr := Lib.hid (arm_writes d c.r c.s)
          have hsm := hsame.armS c.r c.s
          clear hMA hDA hDG hX5 y1 y2 y3 y4 hA
          by_cases hr : 0 ≤ c.r ∧ c.r < 3
          rotate_left
          · have ht0 : d.there c.r 0 = false := (hL.there0 c.r).trans (decide_eq_false hr)
            rw [arm_bad d c.r c.s ht0] at h5 hsm
            clear ht0 hwr
            by_cases hr0 : 0 ≤ c.r
            · have hr2 : ¬ c.r < 3 := by omega
              go_wp2
              go_meet
              case rel => exact ⟨d, m, vs, S, rfl, hL, hsm, hM5, h5, hSW⟩
            · go_wp2
              go_meet
              case rel => exact ⟨d, m, vs, S, rfl, hL, hsm, hM5, h5, hSW⟩
          obtain ⟨q1, q2⟩ := hr
          have hcast : ((c.r.toNat : Nat) : Int) = c.r := Int.toNat_of_nonneg q1
          have hfin := hL.arm c.r.toNat (by omega) c.s
          rw [hcast] at hfin
          have HF := Lib.hid hfin
          have hrn : c.r.toNat < m.left.length := by rw [hL.nl]; omega
          have z0 := hM5.count c.r.toNat hrn
          have f0 := free_of hM5.head (27 + c.r.toNat)
          have hM6 := hM5.setCount c.r.toNat (max c.s 0)
          have hD6 := h5.touch ((ButS.refl w5 S).set ⟨gm, 27 + c.r.toNat, none⟩ (.int .i64 (max c.s 0)) hM5.sp) hSW
          have hM6 : MdAt w1 (w5.setCell ⟨gm, 27 + c.r.toNat, none⟩ (.int .i64 (max c.s 0))) S gm (m.arm c.r.toNat c.s) vs := hM6
          generalize m.left[c.r.toNat]'hrn = ln at *
          generalize d.arm c.r c.s = dz at *
          clear hrn hM5 h5 hfin hcast
          go_wp2
          go_meet
          case rel => exact ⟨dz, _, vs, S, by rw [hwr.out], HF.out, hsm, hM6, hD6, hSW⟩
      · as_aux_lemma =>
          clear hkd
          go_wp2_with fail
          refine (read_dx hDA 0 (by simp) p _ rfl c.r c.s).mono ?_
          rintro ee w5 ⟨v5, rfl, hO5, k5⟩
          rw [HT.out]
          have hb5 := hO5.slB
          obtain ⟨a5, c5, rfl, -, -, -⟩ := hb5.form
          have hM5 := hMA.keep k5
          have hD5 := hDA.keep k5
          clear hO5 hMA hDA hDG k5 hA y1 y2 y3 y4
          cases T
          · go_upto_region 17 with (fail)
            refine wp_region_ord' [none, none, none, none, none, none, none, none, none, none, none, none, none, none, none, none]
              #[0, 0, 0, 0, 0, 0, 0, 0, 0, 0, 0, 0, 0, 0, 0, 0] (w5.heap.size) (fun w' => Keep w5 w') (by kernel_rfl) (by kernel_rfl) (by kernel_rfl) ((Keep.refl w5).drew) ?_
            refine ordT_pure rfl ?_
            go_big_quiet_step (fail)
            refine ordT_on ?_
            refine ordT_pure rfl ?_
            go_big_quiet_step (fail)
            refine ordT_on ?_
            refine ordT_pure rfl ?_
            go_big_quiet_step (fail)
            refine ordT_on ?_
            refine ordT_pure rfl ?_
            go_big_quiet_step (fail)
            refine ordT_on ?_
            refine ordT_pure rfl ?_
            go_big_quiet_step (fail)
            refine ordT_on ?_
            refine ordT_pure rfl ?_
            go_big_quiet_step (fail)
            refine ordT_on ?_
            refine ordT_pure rfl ?_
            go_big_quiet_step (fail)
            refine ordT_on ?_
            refine ordT_skip (by kernel_rfl) ?_
            simp only [Act.put, List.setIfInBounds_toArray, List.set_cons_zero, List.set_cons_succ]
            refine ordT_skip (by kernel_rfl) ?_
            simp only [Act.put, List.setIfInBounds_toArray, List.set_cons_zero, List.set_cons_succ]
            refine ordT_skip (by kernel_rfl) ?_
            simp only [Act.put, List.setIfInBounds_toArray, List.set_cons_zero, List.set_cons_succ]
            refine ordT_skip (by kernel_rfl) ?_
            simp only [Act.put, List.setIfInBounds_toArray, List.set_cons_zero, List.set_cons_succ]
            refine ordT_skip (by kernel_rfl) ?_
            simp only [Act.put, List.setIfInBounds_toArray, List.set_cons_zero, List.set_cons_succ]
            refine ordT_skip (by kernel_rfl) ?_
            simp only [Act.put, List.setIfInBounds_toArray, List.set_cons_zero, List.set_cons_succ]
            refine ordT_skip (by kernel_rfl) ?_
            simp only [Act.put, List.setIfInBounds_toArray, List.set_cons_zero, List.set_cons_succ]
            refine ordT_pure rfl ?_
            go_big_quiet_step (fail)
            refine ordT_on ?_
            refine ordT_pure rfl ?_
            go_big_quiet_step (fail)
            refine ordT_on ?_
            refine ordT_done fun wE own hC hF => ?_
            have kE := hC
            clear hF hC hb5
            go_wp2
            go_meet
            case rel => exact ⟨d, m, vs, S, rfl, hL, hsame, hM5.keep kE, hD5.keep kE, hSW⟩
          · obtain ⟨q1, q2, q3, q4⟩ := of_decide_eq_true HTD.out.symm
            have hc1 : ((c.r.toNat : Nat) : Int) = c.r := Int.toNat_of_nonneg q1
            have hc2 : ((c.s.toNat : Nat) : Int) = c.s := Int.toNat_of_nonneg q3
            have hre := hL.read c.r.toNat c.s.toNat (by omega) (by omega)
            rw [hc1, hc2] at hre
            have hcall : ∀ w2, Keep w5 w2 → Calls Try.prog 22 #[.pointer (some ⟨gm, 0, none⟩), .int .i64 c.r, .int .i64 c.s] w2 fun e w' => e = .returned (.string ⟨(d.readI c.r c.s).toArray⟩) ∧ Keep w2 w' := fun w2 hk => by
              have := mread_any w1 w2 S gm m vs c.r.toNat c.s.toNat (hM5.keep hk) (hD5.k.trans' hk) (by omega) (by omega) hL.ds hL.ok2
              rw [hc1, hc2, ← hre] at this
              exact this
            have HCALL := Lib.hid hcall
            clear hre hc1 hc2 hcall q1 q2 q3 q4
            generalize d.readI c.r c.s = RB at *
            go_upto_region 17 with (fail)
            refine wp_region_ord' [none, none, none, none, none, none, none, none, some (oV (strV (RB))), none, none, none, some (oV (.string ⟨RB.toArray⟩)), none, none, none]
              #[0, 0, 0, 0, 0, 0, 0, 0, 0, 0, 0, 0, 0, 0, 0, 0] (w5.heap.size) (fun w' => Keep w5 w') (by kernel_rfl) (by kernel_rfl) (by kernel_rfl) ((Keep.refl w5).drew) ?_
            refine ordT_pure rfl ?_
            go_big_quiet_step (fail)
            refine ordT_on ?_
            refine ordT_pure rfl ?_
            go_big_quiet_step (fail)
            refine ordT_on ?_
            refine ordT_pure rfl ?_
            go_big_quiet_step (fail)
            refine ordT_on ?_
            refine ordT_pure rfl ?_
            go_big_quiet_step (fail)
            refine ordT_on ?_
            refine ordT_pure rfl ?_
            go_big_quiet_step (fail)
            refine ordT_on ?_
            refine ordT_pure rfl ?_
            go_big_quiet_step (fail)
            refine ordT_on ?_
            refine ordT_pure rfl ?_
            go_big_quiet_step (fail)
            refine ordT_on ?_
            refine ordT_pure rfl ?_
            go_big_quiet_step (fail)
            refine ordT_on ?_
            refine ordT_str Try.underlying27 Try.underlying5 Try.underlying9 _ rfl (bs := RB) (by kernel_rfl) (fun w2 own hC hF => ?_) ?_
            · exact hb5.keep hC
            simp only [Act.put, List.setIfInBounds_toArray, List.set_cons_zero, List.set_cons_succ]
            simp only [strV]
            refine ordT_pure rfl ?_
            go_big_quiet_step (fail)
            refine ordT_on ?_
            refine ordT_pure rfl ?_
            go_big_quiet_step (fail)
            refine ordT_on ?_
            refine ordT_pure rfl ?_
            go_big_quiet_step (fail)
            refine ordT_on ?_
            refine ordT_callV (by kernel_rfl) keepK (fun w2 own hC hF => ?_) ?_
            · exact ⟨_, _, by first | (go_simp; done) | (go_simp; rfl), HCALL.out w2 hC⟩
            simp only [Act.put, List.setIfInBounds_toArray, List.set_cons_zero, List.set_cons_succ]
            refine ordT_pure rfl ?_
            go_big_quiet_step (fail)
            refine ordT_on ?_
            refine ordT_pure rfl ?_
            go_big_quiet_step (fail)
            refine ordT_on ?_
            refine ordT_pure rfl ?_
            go_big_quiet_step (fail)
            refine ordT_on ?_
            refine ordT_done fun wE own hC hF => ?_
            have kE := hC
            clear hF hC hb5
            go_wp2
            go_meet
            case rel => exact ⟨d, m, vs, S, rfl, hL, hsame, hM5.keep kE, hD5.keep kE, hSW⟩
    as_aux_lemma =>
      obtain ⟨d', m', vs', S', rfl, hL', hS', hM', hD', hSW'⟩ := hcut
      clear hMA hDA hDG hA y1 y2 y3 y4 hM hSW hL hS hgx hkd HT HTD t100 h100 hdv hdv1 x0 x1 x2 x3 x4
      go_wp2_with fail
      go_loopw [213] (fun z wq => ∃ q : Nat, q ≤ 3 ∧ z = .int .i64 q ∧ Keep wc wq) (fun z _ => 3 - (intOf z).toNat)
      case atStart => exact ⟨0, by decide, rfl, Keep.refl _⟩
      case round =>
        obtain ⟨q, hq, rfl, kq⟩ := hrel
        by_cases hq3 : q < 3
        rotate_left
        · have hqd : ¬ ((q : Int) < 3) := by omega
          have hMf := hM'.keep kq
          have hDf := hD'.keep kq
          clear hM' hD' kq
          go_wp2
          go_roundw
          case rel => exact ⟨j + 1, d', m', vs', S', by omega, by go_num, rfl, hL', hS', hMf, hDf, hSW'⟩
          case measure => simp [intOf]; omega
        have hqd : (q : Int) < 3 := by omega
        have hMq := hM'.keep kq
        have hDq := hD'.keep kq
        have hrn : q < m'.left.length := by rw [hL'.nl]; omega
        have hrv : q < vs'.length := by rw [hMq.vl]; omega
        have hrw : q < m'.wait.length := by rw [hL'.wl]; omega
        have z0 := hMq.count q hrn
        obtain ⟨css, hOw, hcl, hcp⟩ := hMq.waits q hrv hrw
        have z1 := hMq.slice q hrv
        obtain ⟨wa, wx, hwv, -, -⟩ := (hOw.slc (by decide)).form
        rw [hwv, hcl] at z1
        have hwt := hL'.waits q hq3
        have hdn := hL'.down q hq3
        have ht0 : d'.there (q : Int) 0 = true := (hL'.there0 _).trans (decide_eq_true (by omega))
        have hdi : d'.downI (q : Int) = d'.down q := by unfold Dk.downI; rw [ht0]; rfl
        have HWT := Lib.hid hwt
        have HDN : Hid (d'.downI (q : Int) = (m'.left[q]'hrn == 0)) := Lib.hid (by rw [hdi, hdn]; exact (Bool.beq_eq_decide_eq _ _).symm)
        clear hwt hdn ht0 hdi hwv hOw hcp
        generalize hll : m'.left[q]'hrn = lq at *
        clear hll
        generalize hwl : (m'.wait[q]'hrw).length = wl at *
        go_upto_region 55 with (fail)
        refine wp_region_ord' [none, none, some (oV (.int .i64 wl)), none, none, some (oV (.pointer (some ⟨gm, 0, none⟩))), none, none, some (oV (.slice wa wl wx)), some (oV (.int .i64 wl)), none, none, none, none, some (oV (.bool (lq == 0))), none, none, some (oV (.pointer (some ⟨gm, 0, none⟩))), none, none, some (oV (.int .i64 lq)), none, none, none]
          #[0, 0, 0, 0, 0, 0, 0, 0, 0, 0, 0, 0, 0, 0, 0, 0, 0, 0, 0, 0, 0, 0, 0, 0] (wr.heap.size) (fun w' => Keep wr w') (by kernel_rfl) (by kernel_rfl) (by kernel_rfl) ((Keep.refl wr).drew) ?_
        refine ordT_pure rfl ?_
        go_big_quiet_step (fail)
        refine ordT_on ?_
        refine ordT_pure rfl ?_
        go_big_quiet_step (fail)
        refine ordT_on ?_
        refine ordT_callV (by kernel_rfl) keepK (fun w2 own hC hF => ?_) ?_
        · have hcc := waits_dx (hDq.keep hC) 0 (by simp) p _ rfl (q : Int)
          rw [HWT.out] at hcc
          refine ⟨_, _, by first | (go_simp; done) | (go_simp; rfl), hcc.mono ?_⟩
          rintro e w' ⟨rfl, rfl⟩
          exact ⟨rfl, Keep.refl _⟩
        simp only [Act.put, List.setIfInBounds_toArray, List.set_cons_zero, List.set_cons_succ]
        refine ordT_pure rfl ?_
        go_big_quiet_step (fail)
        refine ordT_on ?_
        refine ordT_pure rfl ?_
        go_big_quiet_step (fail)
        refine ordT_on ?_
        refine ordT_same (by kernel_rfl) (fun w2 hC => ?_) ?_
        · go_simp
        simp only [Act.put, List.setIfInBounds_toArray, List.set_cons_zero, List.set_cons_succ]
        refine ordT_pure rfl ?_
        go_big_quiet_step (fail)
        refine ordT_on ?_
        refine ordT_pure rfl ?_
        go_big_quiet_step (fail)
        refine ordT_on ?_
        refine ordT_same (by kernel_rfl) (fun w2 hC => ?_) ?_
        · have zz := hC.cellk z1
          go_simp
        simp only [Act.put, List.setIfInBounds_toArray, List.set_cons_zero, List.set_cons_succ]
        refine ordT_same (by kernel_rfl) (fun w2 hC => ?_) ?_
        · go_simp
        simp only [Act.put, List.setIfInBounds_toArray, List.set_cons_zero, List.set_cons_succ]
        refine ordT_pure rfl ?_
        go_big_quiet_step (fail)
        refine ordT_on ?_
        refine ordT_pure rfl ?_
        go_big_quiet_step (fail)
        refine ordT_on ?_
        refine ordT_pure rfl ?_
        go_big_quiet_step (fail)
        refine ordT_on ?_
        refine ordT_pure rfl ?_
        go_big_quiet_step (fail)
        refine ordT_on ?_
        refine ordT_callV (by kernel_rfl) keepK (fun w2 own hC hF => ?_) ?_
        · have hcc := down_dx (hDq.keep hC) 0 (by simp) p _ rfl (q : Int)
          rw [HDN.out] at hcc
          refine ⟨_, _, by first | (go_simp; done) | (go_simp; rfl), hcc.mono ?_⟩
          rintro e w' ⟨rfl, rfl⟩
          exact ⟨rfl, Keep.refl _⟩
        simp only [Act.put, List.setIfInBounds_toArray, List.set_cons_zero, List.set_cons_succ]
        refine ordT_pure rfl ?_
        go_big_quiet_step (fail)
        refine ordT_on ?_
        refine ordT_pure rfl ?_
        go_big_quiet_step (fail)
        refine ordT_on ?_
        refine ordT_same (by kernel_rfl) (fun w2 hC => ?_) ?_
        · go_simp
        simp only [Act.put, List.setIfInBounds_toArray, List.set_cons_zero, List.set_cons_succ]
        refine ordT_pure rfl ?_
        go_big_quiet_step (fail)
        refine ordT_on ?_
        refine ordT_pure rfl ?_
        go_big_quiet_step (fail)
        refine ordT_on ?_
        refine ordT_same (by kernel_rfl) (fun w2 hC => ?_) ?_
        · have zz := hC.cellk z0
          go_simp
        simp only [Act.put, List.setIfInBounds_toArray, List.set_cons_zero, List.set_cons_succ]
        refine ordT_pure rfl ?_
        go_big_quiet_step (fail)
        refine ordT_on ?_
        refine ordT_pure rfl ?_
        go_big_quiet_step (fail)
        refine ordT_on ?_
        refine ordT_pure rfl ?_
        go_big_quiet_step (fail)
        refine ordT_on ?_
        refine ordT_done fun wF own hC hF => ?_
        have kF := hC
        clear hF hC
        go_wp2_with fail
        have kqF := kq.trans' kF
        clear kq kF hMq hDq z0 z1
        go_loopw [240] (fun z wq => ∃ k : Nat, k ≤ 8 ∧ z = .int .i64 k ∧ Keep wc wq) (fun z _ => 8 - (intOf z).toNat)
        case atStart => exact ⟨0, by decide, rfl, kqF⟩
        case round =>
          obtain ⟨k, hk, rfl, kk⟩ := hrel
          by_cases hk8 : k < 8
          rotate_left
          · have hkd : ¬ ((k : Int) < 8) := by omega
            go_wp2
            go_roundw
            case rel => exact ⟨q + 1, by omega, by go_num, kk⟩
            case measure => simp [intOf]; omega
          have hkd : (k : Int) < 8 := by omega
          have hMk := hM'.keep kk
          have hDk := hD'.keep kk
          have hre := hL'.read q k hq3 hk8
          go_wp2_with fail
          refine (read_dx hDk 0 (by simp) p _ rfl q k).mono ?_
          rintro ee w5 ⟨v5, rfl, hO5, k5⟩
          generalize (if d'.there (q : Int) (k : Int) = true then (0 : Int) else 1) = F5
          have hb5 := hO5.slB
          obtain ⟨a5, c5, rfl, -, -, -⟩ := hb5.form
          have hM5 := hMk.keep k5
          have hk5 := hDk.k.trans' k5
          have hcall : ∀ w2, Keep w5 w2 → Calls Try.prog 22 #[.pointer (some ⟨gm, 0, none⟩), .int .i64 q, .int .i64 k] w2 fun e w' => e = .returned (.string ⟨(d'.readI q k).toArray⟩) ∧ Keep w2 w' := fun w2 hk => by
            have := mread_any w1 w2 S' gm m' vs' q k (hM5.keep hk) (hk5.trans' hk) hq3 hk8 hL'.ds hL'.ok2
            rw [← hre] at this
            exact this
          have HCALL := Lib.hid hcall
          have kkE := kk.trans' k5
          clear hre hcall hO5 hMk hDk k5 hM5 hk5
          generalize d'.readI q k = RB at *
          go_upto_region 61 with (fail)
          refine wp_region_ord' [none, some (oV (strV (RB))), none, none, none, some (oV (.string ⟨RB.toArray⟩)), none]
            #[0, 0, 0, 0, 0, 0, 0] (w5.heap.size) (fun w' => Keep w5 w') (by kernel_rfl) (by kernel_rfl) (by kernel_rfl) ((Keep.refl w5).drew) ?_
          refine ordT_pure rfl ?_
          go_big_quiet_step (fail)
          refine ordT_on ?_
          refine ordT_str Try.underlying27 Try.underlying5 Try.underlying9 _ rfl (bs := RB) (by kernel_rfl) (fun w2 own hC hF => ?_) ?_
          · exact hb5.keep hC
          simp only [Act.put, List.setIfInBounds_toArray, List.set_cons_zero, List.set_cons_succ]
          simp only [strV]
          refine ordT_pure rfl ?_
          go_big_quiet_step (fail)
          refine ordT_on ?_
          refine ordT_pure rfl ?_
          go_big_quiet_step (fail)
          refine ordT_on ?_
          refine ordT_pure rfl ?_
          go_big_quiet_step (fail)
          refine ordT_on ?_
          refine ordT_callV (by kernel_rfl) keepK (fun w2 own hC hF => ?_) ?_
          · exact ⟨_, _, by first | (go_simp; done) | (go_simp; rfl), HCALL.out w2 hC⟩
          simp only [Act.put, List.setIfInBounds_toArray, List.set_cons_zero, List.set_cons_succ]
          refine ordT_pure rfl ?_
          go_big_quiet_step (fail)
          refine ordT_on ?_
          refine ordT_done fun wF own hC hF => ?_
          have kF := hC
          clear hF hC hb5
          have kkF := kkE.trans' kF
          go_wp2
          go_roundw
          case rel => exact ⟨k + 1, by omega, by go_num, kkF⟩
          case measure => simp [intOf]; omega
end Go.Proofs.Ytnbadlhkcpjjmaa
