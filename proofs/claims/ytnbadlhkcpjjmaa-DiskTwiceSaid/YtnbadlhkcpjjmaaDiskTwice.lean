/- The walk of DiskTwice. -/
import Derived.Test.YtnbadlhkcpjjmaaDx
namespace Go.Proofs.Ytnbadlhkcpjjmaa
open Go Go.RowKit
attribute [local irreducible] Go.wpQuiet

set_option maxRecDepth 100000 in
set_option maxHeartbeats 8000000 in
theorem diskTwice_any (v : Value) (cs : List Cl) (m0 m1 : Nat) (w : World) (hC : SlCl w v cs) (hm0 : m0 < 18446744073709551616) (hm1 : m1 < 18446744073709551616) : Calls Try.prog 7 #[v, .agg #[.int .u64 m0, .int .u64 m1]] w fun e w' => e = .returned (.bool true) ∧ Keep w w' := by
  obtain ⟨va, vc, rfl, hmx, -⟩ := hC.form
  go_enter Try.func7, Try.ntmps7
  go_wp2_with fail
  have k0 := Keep.alloc w (.cells #[.int .u64 m0, .int .u64 m1] 42)
  have hm := heap_alloc_new w (.cells #[.int .u64 m0, .int .u64 m1] 42)
  refine (fit_any _).mono ?_
  rintro e w1 ⟨rfl, k1⟩
  have k1w := k0.trans' k1
  have hm1' := (k1.block w.heap.size (by simp)).trans hm
  generalize w.heap.size = gm at *
  clear k0 k1 hm
  by_cases hl : 100 < cs.length
  · have tl : (100 : Int) < (cs.length : Int) := by omega
    go_wp2
    go_ret
    exact ⟨rfl, k1w⟩
  have tl : ¬ ((100 : Int) < (cs.length : Int)) := by omega
  go_wp2_with fail
  refine (new_ds (Ds.nil (Keep.refl w1)) 3 8 (by decide) (by decide) (by decide) (by decide)).mono ?_
  rintro e w2 ⟨p, rfl, h2, k2⟩
  have h2 : Ds w1 w2 [(p, newD 3 8)] := h2
  go_wp2_with fail
  refine (new_ds h2 3 8 (by decide) (by decide) (by decide) (by decide)).mono ?_
  rintro e w3 ⟨q, rfl, h3, k3⟩
  have h3 : Ds w1 w3 [(p, newD 3 8), (q, newD 3 8)] := h3
  have s3 := newD_small 3 8
  generalize newD 3 8 = d3 at *
  clear h2 k2 k3
  go_wp2_with fail
  go_loopw [23] (fun i wr => ∃ (j : Nat) (d : Dk), j ≤ cs.length ∧ i = .int .i64 j ∧ d.Small j ∧ Dx w1 (fun _ => False) wr [(p, d), (q, d)]) (fun i _ => cs.length - (intOf i).toNat)
  case atStart => exact ⟨0, d3, Nat.zero_le _, rfl, s3, h3.dx⟩
  case round =>
    obtain ⟨j, d, hj, rfl, hS, hd⟩ := hrel
    clear s3 h3
    by_cases hjn : j < cs.length
    rotate_left
    · have hjd : ¬ ((j : Int) < (cs.length : Int)) := by omega
      clear hjn
      have c0 : wr.cell? ⟨gm, 0, none⟩ = _ := cell_of ((hd.k.block gm (Array.getElem?_eq_some_iff.1 hm1').1).trans hm1') 0 _ rfl
      have c1 : wr.cell? ⟨gm, 1, none⟩ = _ := cell_of ((hd.k.block gm (Array.getElem?_eq_some_iff.1 hm1').1).trans hm1') 1 _ rfl
      have c1b := hm1'
      go_wp2_with fail
      refine (crash_dx hd 0 Nat.zero_lt_two p _ rfl m0 hm0).mono ?_
      rintro e w4 ⟨rfl, h4, -⟩
      have h4 : Dx w1 (fun _ => False) w4 [(p, d.crash m0), (q, d)] := h4
      have c0 : w4.cell? ⟨gm, 0, none⟩ = _ := cell_of ((h4.k.block gm (Array.getElem?_eq_some_iff.1 hm1').1).trans hm1') 0 _ rfl
      go_wp2_with fail
      refine (crash_dx h4 1 Nat.one_lt_two q _ rfl m0 hm0).mono ?_
      rintro e w5 ⟨rfl, h5, -⟩
      have h5 : Dx w1 (fun _ => False) w5 [(p, d.crash m0), (q, d.crash m0)] := h5
      have c1 : w5.cell? ⟨gm, 1, none⟩ = _ := cell_of ((h5.k.block gm (Array.getElem?_eq_some_iff.1 hm1').1).trans hm1') 1 _ rfl
      go_wp2_with fail
      refine (crash_dx h5 1 Nat.one_lt_two q _ rfl m1 hm1).mono ?_
      rintro e w6 ⟨rfl, h6, -⟩
      have h6 : Dx w1 (fun _ => False) w6 [(p, d.crash m0), (q, (d.crash m0).crash m1)] := h6
      rw [crash_twice] at h6
      have hw : ∀ r, (d.crash m0).waitsI r = 0 := crash_waits d m0
      clear hS
      generalize d.crash m0 = D at *
      clear hd h4 h5 c0 c1 c1b hm1' hC
      go_wp2_with fail
      go_loopw [56] (fun i wr => ∃ (j : Nat), j ≤ 24 ∧ i = .int .i64 j ∧ Dx w1 (fun _ => False) wr [(p, D), (q, D)]) (fun i _ => 24 - (intOf i).toNat)
      case atStart => exact ⟨0, Nat.zero_le _, rfl, h6⟩
      case round =>
        obtain ⟨k, hk, rfl, hd⟩ := hrel
        by_cases hkn : k < 24
        rotate_left
        · have hkd : ¬ ((k : Int) < 24) := by omega
          go_wp2_with fail
          refine (writes_dx hd 0 Nat.zero_lt_two p _ rfl).mono ?_
          rintro e w7 ⟨rfl, rfl⟩
          go_wp2_with fail
          refine (writes_dx hd 1 Nat.one_lt_two q _ rfl).mono ?_
          rintro e w7 ⟨rfl, rfl⟩
          go_wp2
          go_ret
          exact ⟨rfl, k1w.trans' hd.k⟩
        have hkd : (k : Int) < 24 := by omega
        go_wp2_with fail
        refine (read_dx hd 0 Nat.zero_lt_two p _ rfl ((k : Int) / 8) ((k : Int) % 8)).mono ?_
        rintro e w4 ⟨v4, rfl, hO4, k4⟩
        generalize (if D.there ((k : Int) / 8) ((k : Int) % 8) = true then (0 : Int) else 1) = F4
        have hd4 := hd.keep k4
        have hb4 := hO4.slB
        obtain ⟨a4, c4, rfl, -, -, -⟩ := hb4.form
        clear hO4
        go_wp2_with fail
        refine (read_dx hd4 1 Nat.one_lt_two q _ rfl ((k : Int) / 8) ((k : Int) % 8)).mono ?_
        rintro e w5 ⟨v5, rfl, hO5, k5⟩
        generalize (if D.there ((k : Int) / 8) ((k : Int) % 8) = true then (0 : Int) else 1) = F5
        have hd5 := hd4.keep k5
        have hb5 := hO5.slB
        have hb45 := hb4.keep k5
        obtain ⟨a5, c5, rfl, -, -, -⟩ := hb5.form
        generalize D.readI ((k : Int) / 8) ((k : Int) % 8) = R at *
        clear hO5 k5 k4 hb4 hd hd4
        go_upto_region 20 with (fail)
        refine wp_region_seq ?_
        refine seqW_pure rfl ?_
        go_big_quiet_step (fail)
        refine seqW_on ?_
        refine seqW_gives (by kernel_rfl) ?_
        refine Gives.toStr Try.underlying27 Try.underlying5 Try.underlying9 _ rfl rfl hb45 ?_
        simp only [Act.put, List.setIfInBounds_toArray, List.set_cons_zero, List.set_cons_succ]
        try simp only [strV]
        refine seqW_pure rfl ?_
        go_big_quiet_step (fail)
        refine seqW_on ?_
        refine seqW_gives (by kernel_rfl) ?_
        refine Gives.toStr Try.underlying27 Try.underlying5 Try.underlying9 _ rfl rfl hb5 ?_
        simp only [Act.put, List.setIfInBounds_toArray, List.set_cons_zero, List.set_cons_succ]
        try simp only [strV]
        refine seqW_gives (by kernel_rfl) ?_
        refine Gives.value (v := .bool false) (w' := w5) (by go_simp) ?_
        simp only [Act.put, List.setIfInBounds_toArray, List.set_cons_zero, List.set_cons_succ]
        refine seqW_pure rfl ?_
        go_big_quiet_step (fail)
        refine seqW_on ?_
        refine seqW_pure rfl ?_
        go_big_quiet_step (fail)
        refine seqW_on ?_
        refine seqW_pure rfl ?_
        go_big_quiet_step (fail)
        refine seqW_on ?_
        refine seqW_pure rfl ?_
        go_big_quiet_step (fail)
        refine seqW_on ?_
        refine seqW_gives (by kernel_rfl) ?_
        refine Gives.call (by go_simp) (waits_dx hd5 0 Nat.zero_lt_two p _ rfl ((k : Int) / 8)) ?_
        rintro e w6 ⟨rfl, rfl⟩
        rw [hw]
        refine ⟨_, rfl, ?_⟩
        simp only [Act.put, List.setIfInBounds_toArray, List.set_cons_zero, List.set_cons_succ]
        refine seqW_pure rfl ?_
        go_big_quiet_step (fail)
        refine seqW_on ?_
        refine seqW_pure rfl ?_
        go_big_quiet_step (fail)
        refine seqW_on ?_
        refine seqW_done ?_
        clear hb45 hb5
        go_wp2
        go_roundw
        case rel => exact ⟨k + 1, by omega, by go_num, hd5⟩
        case measure => simp [intOf]; omega
    have hjd : (j : Int) < (cs.length : Int) := by omega
    obtain ⟨b, off, rfl, dv, hdv, x0, x1, x2, x3, x4⟩ := hC.elem j hjn
    obtain ⟨da, dc, rfl, -, -, -⟩ := hdv.form
    have kw := k1w.trans' hd.k
    have x0 := kw.cellk x0
    have x1 := kw.cellk x1
    have x2 := kw.cellk x2
    have x3 := kw.cellk x3
    have x4 := kw.cellk x4
    generalize cs[j] = c at *
    go_upto_region 9 with (fail)
    have kA := Keep.alloc wr (.cells #[.int .i64 c.kind, .int .i64 c.r, .int .i64 c.s, .slice da c.data.length dc, .int .u64 c.mask] 37)
    have hA := heap_alloc_new wr (.cells #[.int .i64 c.kind, .int .i64 c.r, .int .i64 c.s, .slice da c.data.length dc, .int .u64 c.mask] 37)
    have hgx : wr.heap.size < (wr.alloc (.cells #[.int .i64 c.kind, .int .i64 c.r, .int .i64 c.s, .slice da c.data.length dc, .int .u64 c.mask] 37)).heap.size := by simp
    generalize wr.alloc (.cells #[.int .i64 c.kind, .int .i64 c.r, .int .i64 c.s, .slice da c.data.length dc, .int .u64 c.mask] 37) = wA at *
    obtain ⟨gx, hgxe⟩ : ∃ gx, gx = wr.heap.size := ⟨_, rfl⟩
    rw [← hgxe] at hA hgx ⊢
    have hgx := And.intro (Nat.le_of_eq hgxe.symm) hgx
    clear hgxe
    have y0 : wA.cell? ⟨gx, 0, none⟩ = _ := cell_of hA 0 _ rfl
    have y1 : wA.cell? ⟨gx, 1, none⟩ = _ := cell_of hA 1 _ rfl
    have y2 : wA.cell? ⟨gx, 2, none⟩ = _ := cell_of hA 2 _ rfl
    have y3 : wA.cell? ⟨gx, 3, none⟩ = _ := cell_of hA 3 _ rfl
    clear x0 x1 x2 x3 x4
    have hdA := hd.more kA (fun b => b = gx) (fun b hb => .inr (by rw [hb]; exact ⟨hgx.1, hgx.2⟩))
    have kwA := k1w.trans' hdA.k
    clear kA hd kw hm1'
    go_wp2_with fail
    refine (write_dx hdA 0 Nat.zero_lt_two p _ rfl c.r c.s _ c.data (hdv.keep kwA) (hS.room (by omega))).mono ?_
    rintro e w4 ⟨rfl, h4, hX4⟩
    have h4 : Dx w1 (fun b => b = gx) w4 [(p, d.wrD c.r c.s c.data), (q, d)] := h4
    have hA4 := (hX4 gx rfl).trans hA
    have kw4 := k1w.trans' h4.k
    clear y0 y1 y2 y3 hX4 hdA kwA hA
    have y1 : w4.cell? ⟨gx, 1, none⟩ = _ := cell_of hA4 1 _ rfl
    have y2 : w4.cell? ⟨gx, 2, none⟩ = _ := cell_of hA4 2 _ rfl
    have y3 : w4.cell? ⟨gx, 3, none⟩ = _ := cell_of hA4 3 _ rfl
    go_wp2_with fail
    refine (write_dx h4 1 Nat.one_lt_two q _ rfl c.r c.s _ c.data (hdv.keep kw4) (hS.room (by omega))).mono ?_
    rintro e w5 ⟨rfl, h5, -⟩
    have h5 : Dx w1 (fun b => b = gx) w5 [(p, d.wrD c.r c.s c.data), (q, d.wrD c.r c.s c.data)] := h5
    have hS5 := hS.wrD c.r c.s c.data
    clear y1 y2 y3 hA4 h4 kw4 hS
    go_wp2
    go_roundw
    case rel => exact ⟨j + 1, _, by omega, by go_num, hS5, h5.base⟩
    case measure => simp [intOf]; omega
end Go.Proofs.Ytnbadlhkcpjjmaa
