/- The walk of the model's read. -/
import Derived.Test.YtnbadlhkcpjjmaaRunsM
namespace Go.Proofs.Ytnbadlhkcpjjmaa
open Go Go.RowKit
attribute [local irreducible] Go.wpQuiet

theorem strV_add (a b : List UInt8) : (⟨a.toArray⟩ : ByteArray) ++ ⟨b.toArray⟩ = ⟨(a ++ b).toArray⟩ := by
  apply ByteArray.ext
  simp
theorem outM_take (ws : List Cl) (s : Nat) (o : List UInt8) (k : Nat) (h : k < ws.length) : outM (ws.take (k + 1)) s o = if ws[k].s = (s : Int) then ws[k].data else outM (ws.take k) s o := by
  unfold outM
  rw [List.take_succ_eq_append_getElem h, List.foldl_append]
  rfl
set_option maxRecDepth 100000 in
set_option maxHeartbeats 8000000 in
theorem mread_any (W w : World) (S : Nat → Prop) (p : Nat) (m : Md) (vs : List Value) (r s : Nat) (h : MdAt W w S p m vs) (hk : Keep W w) (hr : r < 3) (hs : s < 8) (hd : ∀ x ∈ m.data, x.length ≤ 64) (hw : ∀ i (h : i < m.wait.length), ∀ c ∈ m.wait[i], c.data.length ≤ 64) :
    Calls Try.prog 22 #[.pointer (some ⟨p, 0, none⟩), .int .i64 r, .int .i64 s] w fun e w' => e = .returned (.string ⟨(pad (outM (m.wait[r]'(by rw [h.wl]; exact hr)) s (m.data[r * 8 + s]'(by rw [h.dl]; omega)))).toArray⟩) ∧ Keep w w' := by
  have hrv : r < vs.length := by rw [h.vl]; exact hr
  have hrw : r < m.wait.length := by rw [h.wl]; exact hr
  have hrd : r * 8 + s < m.data.length := by rw [h.dl]; omega
  have x0 := h.data (r * 8 + s) hrd
  have x1 := h.slice r hrv
  have hO := (h.waits r hrv hrw).slcl hk
  have hws := hw r hrw
  have hdl := hd m.data[r * 8 + s] (List.getElem_mem hrd)
  generalize m.data[r * 8 + s]'hrd = o at *
  generalize m.wait[r]'hrw = ws at *
  obtain ⟨wa, wc, hv, hmx, -⟩ := hO.form
  rw [hv] at x1 hO
  unfold maxLen at hmx
  clear h hw hd hv
  go_enter Try.func22, Try.ntmps22
  go_wp2_with fail
  go_loopw [7, 25] (fun z i wr => ∃ (j : Nat), j ≤ ws.length ∧ i = .int .i64 j ∧ z = .string ⟨(outM (ws.take j) s o).toArray⟩ ∧ (outM (ws.take j) s o).length ≤ 64 ∧ Keep w wr) (fun _ i _ => ws.length - (intOf i).toNat)
  case atStart => exact ⟨0, Nat.zero_le _, rfl, rfl, hdl, Keep.refl w⟩
  case round =>
    obtain ⟨j, hj, rfl, rfl, hR, k1⟩ := hrel
    by_cases hjn : j < ws.length
    rotate_left
    · have hjd : ¬ ((j : Int) < (ws.length : Int)) := by omega
      have hee : ws.take j = ws := List.take_of_length_le (by omega)
      rw [hee] at hR ⊢
      clear hjn hee hdl
      generalize hRR : outM ws s o = R at hR ⊢
      have HRR := Lib.hid hRR
      clear hRR
      have sz := size_str R
      go_upto_region 8 with (fail)
      refine wp_region_seq ?_
      refine seqW_pure rfl ?_
      go_big_quiet_step (fail)
      refine seqW_on ?_
      refine seqW_pure rfl ?_
      go_big_quiet_step (fail)
      refine seqW_on ?_
      refine seqW_pure rfl ?_
      go_big_quiet_step (fail)
      refine seqW_on ?_
      refine seqW_pure rfl ?_
      go_big_quiet_step (fail)
      refine seqW_on ?_
      refine seqW_gives (by kernel_rfl) ?_
      refine Gives.makeB elemB _ _ (64 - R.length) rfl (by first | rfl | (show Value.int .i64 (64 - (R.length : Int)) = _; congr 1; omega)) (by first | rfl | (show Value.int .i64 (64 - (R.length : Int)) = _; congr 1; omega)) (by omega) ?_
      have hb := (Own.made wr 5 0 (64 - R.length) (Nat.zero_le _) (by omega)).slB
      have k2 := k1.trans' (Keep.alloc wr (.cells ((zB (64 - R.length)).map B).toArray 5))
      generalize wr.alloc (.cells ((zB (64 - R.length)).map B).toArray 5) = w2 at *
      simp only [Act.put, List.setIfInBounds_toArray, List.set_cons_zero, List.set_cons_succ]
      refine seqW_gives (by kernel_rfl) ?_
      refine Gives.toStr Try.underlying27 Try.underlying5 Try.underlying9 _ rfl rfl hb ?_
      simp only [Act.put, List.setIfInBounds_toArray, List.set_cons_zero, List.set_cons_succ]
      try simp only [strV]
      have sz1 : ((⟨R.toArray⟩ : ByteArray).size : Int) ≤ 8388608 := by rw [size_str]; omega
      have sz2 : ((⟨(zB (64 - R.length)).toArray⟩ : ByteArray).size : Int) ≤ 8388608 := by rw [size_str, zB_length]; omega
      refine seqW_pure rfl ?_
      go_big_quiet_step (fail)
      refine seqW_on ?_
      have hpad : (⟨R.toArray⟩ : ByteArray) ++ ⟨(zB (64 - R.length)).toArray⟩ = ⟨(pad R).toArray⟩ := strV_add R _
      rw [hpad]
      clear hpad hb sz1 sz2
      refine seqW_pure rfl ?_
      go_big_quiet_step (fail)
      refine seqW_on ?_
      refine seqW_done ?_
      go_wp2
      go_ret
      exact ⟨by rw [HRR.out]; rfl, k2⟩
    have hjd : (j : Int) < (ws.length : Int) := by omega
    have HT := Lib.hid (outM_take ws s o j hjn)
    have hcl := hws ws[j] (List.getElem_mem hjn)
    obtain ⟨b0, off, rfl, dv, hdv, x0, x1, x2, x3, x4⟩ := (hO.keep k1).elem j hjn
    obtain ⟨da, dc, rfl, -, -, -⟩ := hdv.form
    generalize ws[j] = c at *
    go_upto_region 5 with (fail)
    have kA := Keep.alloc wr (.cells #[.int .i64 c.kind, .int .i64 c.r, .int .i64 c.s, .slice da c.data.length dc, .int .u64 c.mask] 37)
    have hE := heap_alloc_new wr (.cells #[.int .i64 c.kind, .int .i64 c.r, .int .i64 c.s, .slice da c.data.length dc, .int .u64 c.mask] 37)
    have hgx : wr.heap.size < (wr.alloc (.cells #[.int .i64 c.kind, .int .i64 c.r, .int .i64 c.s, .slice da c.data.length dc, .int .u64 c.mask] 37)).heap.size := by simp
    generalize wr.alloc (.cells #[.int .i64 c.kind, .int .i64 c.r, .int .i64 c.s, .slice da c.data.length dc, .int .u64 c.mask] 37) = wA at *
    obtain ⟨gx, hgxe⟩ : ∃ gx, gx = wr.heap.size := ⟨_, rfl⟩
    rw [← hgxe] at hE hgx ⊢
    have hgx := And.intro (Nat.le_of_eq hgxe.symm) hgx
    clear hgxe
    have y0 : wA.cell? ⟨gx, 0, none⟩ = _ := cell_of hE 0 _ rfl
    have y1 : wA.cell? ⟨gx, 1, none⟩ = _ := cell_of hE 1 _ rfl
    have y2 : wA.cell? ⟨gx, 2, none⟩ = _ := cell_of hE 2 _ rfl
    have y3 : wA.cell? ⟨gx, 3, none⟩ = _ := cell_of hE 3 _ rfl
    clear x0 x1 x2 x3 x4
    have k2 := k1.trans' kA
    have hdA := hdv.keep kA
    clear kA hdv k1 hgx
    by_cases hcs : c.s = (s : Int)
    · have tq : (c.s == (s : Int)) = true := by rw [hcs]; exact beq_self_eq_true _
      have hw2 : outM (ws.take (j + 1)) s o = c.data := HT.out.trans (if_pos hcs)
      have HW := Lib.hid hw2
      clear HT hw2 hcs
      go_upto_region 6 with (fail)
      refine wp_region_seq ?_
      refine seqW_pure rfl ?_
      go_big_quiet_step (fail)
      refine seqW_on ?_
      refine seqW_gives (by kernel_rfl) ?_
      refine Gives.value (v := .slice da c.data.length dc) (w' := wA) (by go_simp) ?_
      simp only [Act.put, List.setIfInBounds_toArray, List.set_cons_zero, List.set_cons_succ]
      refine seqW_gives (by kernel_rfl) ?_
      refine Gives.toStr Try.underlying27 Try.underlying5 Try.underlying9 _ rfl rfl hdA ?_
      simp only [Act.put, List.setIfInBounds_toArray, List.set_cons_zero, List.set_cons_succ]
      try simp only [strV]
      refine seqW_pure rfl ?_
      go_big_quiet_step (fail)
      refine seqW_on ?_
      refine seqW_done ?_
      go_wp2
      go_roundw
      case rel => exact ⟨j + 1, by omega, by go_num, by rw [HW.out], by rw [HW.out]; exact hcl, k2⟩
      case measure => simp [intOf]; omega
    · have tq : (c.s == (s : Int)) = false := by rw [beq_eq_false_iff_ne]; exact hcs
      have hw2 : outM (ws.take (j + 1)) s o = outM (ws.take j) s o := HT.out.trans (if_neg hcs)
      have HW := Lib.hid hw2
      clear HT hw2 hcs
      go_wp2
      go_roundw
      case rel => exact ⟨j + 1, by omega, by go_num, by rw [HW.out], by rw [HW.out]; exact hR, k2⟩
      case measure => simp [intOf]; omega
end Go.Proofs.Ytnbadlhkcpjjmaa
