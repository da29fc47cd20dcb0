/- The walk of the model's keep. -/
import Derived.Test.YtnbadlhkcpjjmaaRunsR
namespace Go.Proofs.Ytnbadlhkcpjjmaa
open Go Go.RowKit
attribute [local irreducible] Go.wpQuiet

theorem mkeepD_take (mask base : Nat) (ws : List Cl) (data : List (List UInt8)) (k : Nat) (h : k < ws.length) : mkeepD mask base (ws.take (k + 1)) 0 data = if mask.testBit (k % 64) then (mkeepD mask base (ws.take k) 0 data).set (base + ws[k].s.toNat) ws[k].data else mkeepD mask base (ws.take k) 0 data := by
  unfold mkeepD
  rw [List.take_succ_eq_append_getElem h, List.zipIdx_append, List.foldl_append, List.length_take, Nat.min_eq_left (by omega)]
  simp
set_option maxRecDepth 100000 in
set_option maxHeartbeats 8000000 in
theorem mkeep_any (W w : World) (S : Nat → Prop) (p : Nat) (m : Md) (vs : List Value) (r mask : Nat) (h : MdAt W w S p m vs) (hk : Keep W w) (hS : ∀ b, S b → W.heap.size ≤ b) (hr : r < 3) (hm : mask < 18446744073709551616) (hw : ∀ i (h : i < m.wait.length), ∀ c ∈ m.wait[i], 0 ≤ c.s ∧ c.s < 8 ∧ c.data.length ≤ 64) :
    Calls Try.prog 21 #[.pointer (some ⟨p, 0, none⟩), .int .i64 r, .int .u64 mask] w fun e w' => e = .returned (.tuple #[]) ∧ (∃ vs', MdAt W w' S p (m.keep r mask) vs') ∧ ButS w w' S := by
  have hrv : r < vs.length := by rw [h.vl]; exact hr
  have hrw : r < m.wait.length := by rw [h.wl]; exact hr
  have x1 := h.slice r hrv
  have hws := hw r hrw
  have hO := (h.waits r hrv hrw).slcl hk
  have hkeep : m.keep r mask = { m with data := mkeepD mask (r * 8) m.wait[r] 0 m.data, wait := m.wait.set r [] } := by
    unfold Md.keep
    rw [List.getElem?_eq_getElem hrw]
    rfl
  have HK := Lib.hid hkeep
  clear hkeep hw
  obtain ⟨ws, hwse⟩ : ∃ ws, m.wait[r]'hrw = ws := ⟨_, rfl⟩
  rw [hwse] at HK hws hO
  have HWS := Lib.hid hwse
  clear hwse
  obtain ⟨wa, wc, hv, hmx, -⟩ := hO.form
  have HV := Lib.hid hv
  rw [hv] at x1 hO
  unfold maxLen at hmx
  clear hv
  go_enter Try.func21, Try.ntmps21
  go_wp2_with fail
  go_loopw [15] (fun i wr => ∃ (j : Nat), j ≤ ws.length ∧ i = .int .i64 j ∧ MdAt W wr S p { m with data := mkeepD mask (r * 8) (ws.take j) 0 m.data } vs ∧ ButS w wr S) (fun i _ => ws.length - (intOf i).toNat)
  case atStart => exact ⟨0, Nat.zero_le _, rfl, h, ButS.refl _ _⟩
  case round =>
    obtain ⟨j, hj, rfl, hM, hB⟩ := hrel
    have kW : Keep W _ := hk.trans (hB.below W.heap.size hk.size hS)
    by_cases hjn : j < ws.length
    rotate_left
    · have hjd : ¬ ((j : Int) < (ws.length : Int)) := by omega
      have hee : ws.take j = ws := List.take_of_length_le (by omega)
      rw [hee] at hM
      clear hjn hee
      have y1 := hM.slice r hrv
      have f1 := free_of hM.head (24 + r)
      have hM2 := hM.setSlice (y := wr) (T := S) r hrv (.slice none 0 0) [] (fun _ _ _ => rfl) (fun _ h => h) hM.low (OwnCl.nil _ _) (fun b e => by cases e)
      have hB2 := hB.set ⟨p, 24 + r, none⟩ (.slice none 0 0) hM.sp
      simp only at hM2
      rw [← HK.out] at hM2
      clear hM hB
      go_wp2
      exact Go.Great.bodyPost_end0 rfl rfl ⟨rfl, ⟨_, hM2⟩, hB2⟩
    have hjd : (j : Int) < (ws.length : Int) := by omega
    have hT := mkeepD_take mask (r * 8) ws m.data j hjn
    have hcl := hws ws[j] (List.getElem_mem hjn)
    have hO2 := (hM.waits r hrv hrw).slcl kW
    have hO3 : SlCl wr (.slice wa ws.length wc) ws := by rw [← HV.out]; have e := HWS.out; simp only at hO2; rw [e] at hO2; exact hO2
    clear hO2
    obtain ⟨b0, off, rfl, dv, hdv, x0, x1, x2, x3, x4⟩ := hO3.elem j hjn
    obtain ⟨da, dc, rfl, -, -, -⟩ := hdv.form
    generalize ws[j] = c at *
    obtain ⟨sn, hsn⟩ := Int.eq_ofNat_of_zero_le hcl.1
    rw [hsn] at x2
    have hs8 : sn < 8 := by omega
    have hT2 : mkeepD mask (r * 8) (ws.take (j + 1)) 0 m.data = if mask.testBit (j % 64) then (mkeepD mask (r * 8) (ws.take j) 0 m.data).set (r * 8 + sn) c.data else mkeepD mask (r * 8) (ws.take j) 0 m.data := by rw [hT, hsn]; rfl
    have HT := Lib.hid hT2
    clear hT hT2 hcl hO3
    go_upto_region 3 with (fail)
    have kA := Keep.alloc wr (.cells #[.int .i64 c.kind, .int .i64 c.r, .int .i64 (sn : Int), .slice da c.data.length dc, .int .u64 c.mask] 37)
    have hE := heap_alloc_new wr (.cells #[.int .i64 c.kind, .int .i64 c.r, .int .i64 (sn : Int), .slice da c.data.length dc, .int .u64 c.mask] 37)
    have hgx : wr.heap.size < (wr.alloc (.cells #[.int .i64 c.kind, .int .i64 c.r, .int .i64 (sn : Int), .slice da c.data.length dc, .int .u64 c.mask] 37)).heap.size := by simp
    generalize wr.alloc (.cells #[.int .i64 c.kind, .int .i64 c.r, .int .i64 (sn : Int), .slice da c.data.length dc, .int .u64 c.mask] 37) = wA at *
    obtain ⟨gx, hgxe⟩ : ∃ gx, gx = wr.heap.size := ⟨_, rfl⟩
    rw [← hgxe] at hE hgx ⊢
    have hgx := And.intro (Nat.le_of_eq hgxe.symm) hgx
    clear hgxe
    have y0 : wA.cell? ⟨gx, 0, none⟩ = _ := cell_of hE 0 _ rfl
    have y1 : wA.cell? ⟨gx, 1, none⟩ = _ := cell_of hE 1 _ rfl
    have y2 : wA.cell? ⟨gx, 2, none⟩ = _ := cell_of hE 2 _ rfl
    have y3 : wA.cell? ⟨gx, 3, none⟩ = _ := cell_of hE 3 _ rfl
    clear x0 x1 x2 x3 x4
    have hM2 := hM.keep kA
    have hB2 := hB.keep kA
    have hdA := hdv.keep kA
    clear kA hdv hgx hM hB y0 y1
    obtain ⟨K6, hK6⟩ : ∃ K6, K6 = j % 64 := ⟨_, rfl⟩
    have he : (j : Int) % 64 = (K6 : Int) := by omega
    rw [← hK6] at HT
    have hK7 : K6 < 64 := by omega
    clear hK6 hsn
    have hbt := bit_test mask K6 hm
    have hdl := hM2.dl
    by_cases hbit : mask.testBit K6 = true
    rotate_left
    · have hbf : mask.testBit K6 = false := by simpa using hbit
      rw [hbf] at hbt
      have hw2 : mkeepD mask (r * 8) (ws.take (j + 1)) 0 m.data = mkeepD mask (r * 8) (ws.take j) 0 m.data := by rw [HT.out, hbf]; rfl
      have HW := Lib.hid hw2
      clear HT hw2 hbf hbit
      go_wp2
      go_roundw
      case rel => exact ⟨j + 1, by omega, by go_num, by rw [HW.out]; exact hM2, hB2⟩
      case measure => simp [intOf]; omega
    rw [hbit] at hbt
    have hw2 : mkeepD mask (r * 8) (ws.take (j + 1)) 0 m.data = (mkeepD mask (r * 8) (ws.take j) 0 m.data).set (r * 8 + sn) c.data := by rw [HT.out, hbit]; rfl
    have HW := Lib.hid hw2
    clear HT hw2 hbit
    go_upto_region 4 with (fail)
    refine wp_region_ch 11 [none, none, none, none, none, none, none, none, none, none, none, none] (fun w' => w'.cell? ⟨gx, 2, none⟩ = some (.int .i64 (sn : Int)) ∧ w'.cell? ⟨gx, 3, none⟩ = some (.slice da c.data.length dc) ∧ SlB w' (.slice da c.data.length dc) c.data) (by kernel_rfl) (by kernel_rfl) (by kernel_rfl) (by kernel_rfl) (⟨y2, y3, hdA⟩) ?_
    refine chT_pure rfl ?_
    go_big_quiet_step (fail)
    refine chT_on ?_
    refine chT_pure rfl ?_
    go_big_quiet_step (fail)
    refine chT_on ?_
    refine chT_pure rfl ?_
    go_big_quiet_step (fail)
    refine chT_on ?_
    refine chT_same (v := .int .i64 (sn : Int)) (by kernel_rfl) (fun w2 hC => by
      have zz := hC.1
      go_simp) ?_
    simp only [Act.put, List.setIfInBounds_toArray, List.set_cons_zero, List.set_cons_succ]
    refine chT_pure rfl ?_
    go_big_quiet_step (fail)
    refine chT_on ?_
    refine chT_same (v := .slice da c.data.length dc) (by kernel_rfl) (fun w2 hC => by
      have zz := hC.2.1
      go_simp) ?_
    simp only [Act.put, List.setIfInBounds_toArray, List.set_cons_zero, List.set_cons_succ]
    refine chT_same (v := strV c.data) (by kernel_rfl) (fun w2 hC => exec_str Try.underlying27 Try.underlying5 Try.underlying9 (v := .slice da c.data.length dc) _ rfl rfl w2 hC.2.2) ?_
    simp only [Act.put, List.setIfInBounds_toArray, List.set_cons_zero, List.set_cons_succ]
    simp only [strV]
    refine chT_same (v := .pointer (some ⟨p, 0, none⟩)) (by kernel_rfl) (fun w2 hC => by
      go_simp) ?_
    simp only [Act.put, List.setIfInBounds_toArray, List.set_cons_zero, List.set_cons_succ]
    refine chT_pure rfl ?_
    go_big_quiet_step (fail)
    refine chT_on ?_
    refine chT_pure rfl ?_
    go_big_quiet_step (fail)
    refine chT_on ?_
    refine chT_pure rfl ?_
    go_big_quiet_step (fail)
    refine chT_on ?_
    refine chT_done ?_
    have hM3 := hM2.keep (w' := wA.drew) (Keep.refl wA).drew
    have hB3 := hB2.drew
    have z0 := hM3.data (r * 8 + sn) (by rw [hdl]; omega)
    have f0 := free_of hM3.head (r * 8 + sn)
    have hM4 := hM3.setData (r * 8 + sn) (by rw [hdl]; omega) c.data
    have hB4 := hB3.set ⟨p, r * 8 + sn, none⟩ (.string ⟨c.data.toArray⟩) hM3.sp
    refine seqW_gives (by kernel_rfl) ?_
    refine Gives.skip (w' := wA.drew.setCell ⟨p, r * 8 + sn, none⟩ (.string ⟨c.data.toArray⟩)) (by go_simp) ?_
    clear z0 f0 hM3 hB3 hM2 hB2
    generalize wA.drew.setCell ⟨p, r * 8 + sn, none⟩ (.string ⟨c.data.toArray⟩) = w5 at *
    simp only [Act.put, List.setIfInBounds_toArray, List.set_cons_zero, List.set_cons_succ]
    refine seqW_done ?_
    go_wp2
    go_roundw
    case rel => exact ⟨j + 1, by omega, by go_num, by rw [HW.out]; exact hM4, hB4⟩
    case measure => simp [intOf]; omega
end Go.Proofs.Ytnbadlhkcpjjmaa
