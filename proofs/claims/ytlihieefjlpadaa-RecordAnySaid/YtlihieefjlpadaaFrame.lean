/- The walk of the law's frame. -/
import Derived.Test.YtlihieefjlpadaaRecEnc
import Derived.Test.YtlihieefjlpadaaAhead
namespace Go.Proofs.Ytlihieefjlpadaa
open Go Go.RowKit
attribute [local irreducible] Go.wpQuiet

theorem Rc.right.body {r : Rc} (h : r.right = true) : r.body.length < 65536 := by
  have := r.right_iff.1 h
  have := body_length r
  omega
theorem two_be (x : Nat) (h : x < 65536) : Pk.be x 2 = [UInt8.ofNat (x / 256), UInt8.ofNat x] := by
  unfold Pk.be Pk.be Pk.be
  have e1 : UInt8.ofNat (x / 256 ^ 1 % 256) = UInt8.ofNat (x / 256) := by
    rw [Nat.pow_one, Nat.mod_eq_of_lt (by omega)]
  have e2 : UInt8.ofNat (x / 256 ^ 0 % 256) = UInt8.ofNat x := by
    apply UInt8.toNat_inj.1
    rw [UInt8.toNat_ofNat', UInt8.toNat_ofNat', Nat.pow_zero, Nat.div_one, Nat.mod_mod]
  rw [e1, e2]
def Rc.five (r : Rc) : List UInt8 := r.four ++ [UInt8.ofNat r.before.length]
theorem five_map (r : Rc) (hf : r.Fits) : r.five.map B = [.int .u8 (r.kind % 256), .int .u8 (r.txn % 256), .int .u8 (r.page % 256), .int .u8 (r.slot % 256), .int .u8 (r.before.length : Int)] := by
  unfold Rc.five
  rw [List.map_append, four_map r hf, List.map_cons, List.map_nil, ← byte_lt _ hf.b]
  rfl

set_option maxRecDepth 100000 in
set_option maxHeartbeats 8000000 in
theorem frame_any (r : Rc) (dv : Value) (w : World) (hf : r.Fits) (hb2 : r.body.length < 65536) (hd : SlU w dv r.dirty) : Calls Try.prog 17 #[r.val dv] w fun e w' => ∃ v, e = .returned v ∧ Own w' w.heap.size 5 v (r.enc.map B) ∧ Keep w w' := by
  have hA := RcAt.laid w r dv
  have hk0 := Keep.alloc w (.cells #[.int .i64 r.kind, .int .i64 r.txn, .int .i64 r.page, .int .i64 r.slot, .string ⟨r.before.toArray⟩, .string ⟨r.after.toArray⟩, .string ⟨r.image.toArray⟩, dv] 24)
  have hs0 : Hid ((w.alloc (.cells #[.int .i64 r.kind, .int .i64 r.txn, .int .i64 r.page, .int .i64 r.slot, .string ⟨r.before.toArray⟩, .string ⟨r.after.toArray⟩, .string ⟨r.image.toArray⟩, dv] 24)).heap.size = w.heap.size + 1) := Lib.hid (by simp)
  have hd0 := hd
  obtain ⟨da, dc, rfl, hm, hc, -⟩ := hd.form
  have h5 := Lib.hid (five_map r hf)
  have h5l : r.five.length = 5 := rfl
  have hbo := Lib.hid (body_eq r)
  have HB2 := Lib.hid hb2
  clear hb2
  have hbl := body_length r
  obtain ⟨-, -, -, -, hfb, hfa, hfi, hfd, hfx⟩ := hf
  have hs1 := size_str r.before
  have hs2 := size_str r.after
  have hs3 := size_str r.image
  unfold maxLen at hm
  unfold Rc.val
  go_enter Try.func17, Try.ntmps17
  go_upto_region 1 with (fail)
  generalize w.alloc (.cells #[.int .i64 r.kind, .int .i64 r.txn, .int .i64 r.page, .int .i64 r.slot, .string ⟨r.before.toArray⟩, .string ⟨r.after.toArray⟩, .string ⟨r.image.toArray⟩, .slice da r.dirty.length dc] 24) = w0 at *
  obtain ⟨c0, c1, c2, c3, c4, -⟩ := hA.cells
  go_upto_region 2 with (fail)
  have hk1 := Keep.alloc w0 (.cells #[.int .u8 (r.kind % 256), .int .u8 (r.txn % 256), .int .u8 (r.page % 256), .int .u8 (r.slot % 256), .int .u8 (r.before.length : Int)] 5)
  have hO1 : Own (w0.alloc (.cells #[.int .u8 (r.kind % 256), .int .u8 (r.txn % 256), .int .u8 (r.page % 256), .int .u8 (r.slot % 256), .int .u8 (r.before.length : Int)] 5)) w0.heap.size 5 (.slice (some ⟨w0.heap.size, 0, none⟩) 5 5) (r.five.map B) := by
    rw [h5.out]
    exact Own.laid w0 _ _ 5 _ rfl (Nat.le_refl _) (by decide)
  have hkw := hk0.trans' hk1
  have hA1 := hA.keep hk1
  have hn1 : w0.heap.size ≤ (w0.alloc (.cells #[.int .u8 (r.kind % 256), .int .u8 (r.txn % 256), .int .u8 (r.page % 256), .int .u8 (r.slot % 256), .int .u8 (r.before.length : Int)] 5)).heap.size := hk1.size
  have hgl : w.heap.size < w0.heap.size := by have := hs0.out; omega
  have hgl' : w.heap.size ≤ w0.heap.size := by omega
  clear c0 c1 c2 c3 c4 h5 hs0 hA
  generalize w0.alloc (.cells #[.int .u8 (r.kind % 256), .int .u8 (r.txn % 256), .int .u8 (r.page % 256), .int .u8 (r.slot % 256), .int .u8 (r.before.length : Int)] 5) = w1 at *
  clear hk0 hk1
  generalize w0.heap.size = n at *
  obtain ⟨-, -, -, -, u4, u5, u6, u7⟩ := hA1.cells
  clear hA1
  refine wp_region_ordI [none, none, some (oV (.string ⟨r.before.toArray⟩)), some (oOwn (n) 5 (((r.five) ++ (r.before)).map B)), none, some (oV (.string ⟨r.after.toArray⟩)), none, none, some (oB [UInt8.ofNat r.after.length]), some (oOwn (n) 5 (((r.five ++ r.before) ++ ([UInt8.ofNat r.after.length])).map B)), none, some (oV (.string ⟨r.after.toArray⟩)), some (oOwn (n) 5 ((((r.five ++ r.before) ++ [UInt8.ofNat r.after.length]) ++ (r.after)).map B)), none]
    8 #[0, 0, 0, 16384, 0, 0, 0, 0, 0, 8, 0, 0, 512, 0] (n) ((oOwn n 5 (r.five.map B)).φ (.slice (some ⟨n, 0, none⟩) 5 5)) (CB n w1) (by kernel_rfl) (by kernel_rfl) (by kernel_rfl) ((CB.refl hn1).drew) ((oOwn n 5 (r.five.map B)).st (.slice (some ⟨n, 0, none⟩) 5 5)) (⟨hO1.keep (Keep.refl w1).drew, fun _ _ _ _ => trivial⟩) ?_
  refine ordT_pure rfl ?_
  go_big_quiet_step (fail)
  refine ordT_on ?_
  refine ordT_pure rfl ?_
  go_big_quiet_step (fail)
  refine ordT_on ?_
  refine ordT_same (by kernel_rfl) (fun w2 hC => ?_) ?_
  · have y0 := (hC.below.cell hgl).trans u4
    go_simp
  simp only [Act.put, List.setIfInBounds_toArray, List.set_cons_zero, List.set_cons_succ]
  refine ordT_told (by kernel_rfl) (told_appendS elemB Try.underlying9 _ _ rfl (l := r.five) (k := r.before) rfl cbG (by omega) fun w2 own hC hF => ?_) ?_
  · have h2 := (((hF 14 (by kernel_rfl)).2 rfl) rfl)
    exact ⟨h2.1, con_own h2.1 h2.2 rfl⟩
  rintro x3 wx3 ownx3 - hx3
  obtain ⟨ax3, nx3, cx3, rfl⟩ := Sl.shape hx3.1.sl
  simp only [Act.put, List.setIfInBounds_toArray, List.set_cons_zero, List.set_cons_succ]
  refine ordT_pure rfl ?_
  go_big_quiet_step (fail)
  refine ordT_on ?_
  refine ordT_same (by kernel_rfl) (fun w2 hC => ?_) ?_
  · have y0 := (hC.below.cell hgl).trans u5
    go_simp
  simp only [Act.put, List.setIfInBounds_toArray, List.set_cons_zero, List.set_cons_succ]
  refine ordT_pure rfl ?_
  go_big_quiet_step (fail)
  refine ordT_on ?_
  refine ordT_pure rfl ?_
  go_big_quiet_step (fail)
  refine ordT_on ?_
  refine ordT_laid (fun w2 => .slice (some ⟨w2.heap.size, 0, none⟩) 1 1) (.cells #[.int .u8 (r.after.length : Int)] 5) (by kernel_rfl) cbK (fun w2 hC => by go_simp) (fun w2 own hC hF S hS => ?_) ?_
  · exact ⟨laid_lt w2 _ _ _ hfa, in_new hS⟩
  rintro x8 wx8 ownx8 - hx8
  obtain ⟨ax8, nx8, cx8, rfl⟩ := Sl.shape hx8.1
  simp only [Act.put, List.setIfInBounds_toArray, List.set_cons_zero, List.set_cons_succ]
  refine ordT_told (by kernel_rfl) (told_appendB elemB _ _ rfl (r.five ++ r.before) ([UInt8.ofNat r.after.length]) cbG (by simp only [List.length_append, List.length_cons, List.length_nil]; omega) fun w2 own hC hF => ?_) ?_
  · have h2 := ((((hF 3 (by kernel_rfl)).2 rfl).2 rfl).1 rfl)
    have h1 := (((hF 8 (by kernel_rfl)).1 rfl)).1
    exact ⟨⟨h2.1, con_own h2.1 h2.2 rfl⟩, h1⟩
  rintro x9 wx9 ownx9 - hx9
  obtain ⟨ax9, nx9, cx9, rfl⟩ := Sl.shape hx9.1.sl
  simp only [Act.put, List.setIfInBounds_toArray, List.set_cons_zero, List.set_cons_succ]
  refine ordT_pure rfl ?_
  go_big_quiet_step (fail)
  refine ordT_on ?_
  refine ordT_same (by kernel_rfl) (fun w2 hC => ?_) ?_
  · have y0 := (hC.below.cell hgl).trans u5
    go_simp
  simp only [Act.put, List.setIfInBounds_toArray, List.set_cons_zero, List.set_cons_succ]
  refine ordT_told (by kernel_rfl) (told_appendS elemB Try.underlying9 _ _ rfl (l := (r.five ++ r.before) ++ [UInt8.ofNat r.after.length]) (k := r.after) rfl cbG (by simp only [List.length_append, List.length_cons, List.length_nil]; omega) fun w2 own hC hF => ?_) ?_
  · have h2 := (((hF 9 (by kernel_rfl)).2 rfl).1 rfl)
    exact ⟨h2.1, con_own h2.1 h2.2 rfl⟩
  rintro x12 wx12 ownx12 - hx12
  obtain ⟨ax12, nx12, cx12, rfl⟩ := Sl.shape hx12.1.sl
  simp only [Act.put, List.setIfInBounds_toArray, List.set_cons_zero, List.set_cons_succ]
  refine ordT_pure rfl ?_
  go_big_quiet_step (fail)
  refine ordT_on ?_
  refine ordT_done fun w3 own hC3 hF => ?_
  have hO2 := (((hF 12).1 rfl)).1
  clear hF hx3 hx8 hx9 hx12
  have hlx : (((r.five ++ r.before) ++ [UInt8.ofNat r.after.length]) ++ r.after).length ≤ 600 := by simp only [List.length_append, List.length_cons, List.length_nil]; omega
  generalize hL1 : ((r.five ++ r.before) ++ [UInt8.ofNat r.after.length]) ++ r.after = L1 at *
  have HL1 := Lib.hid hL1
  clear hL1 hO1
  replace u5 := (hC3.below.cell hgl).trans u5
  replace u6 := (hC3.below.cell hgl).trans u6
  replace u7 := (hC3.below.cell hgl).trans u7
  go_upto_region 3 with (fail)
  refine wp_region_ordI [none, none, some (oV (.string ⟨r.image.toArray⟩)), none, none, none, none, some (oV (.string ⟨r.image.toArray⟩)), none, none, some (oB [UInt8.ofNat (r.image.length / 256), UInt8.ofNat r.image.length]), some (oOwn (n) 5 (((L1) ++ ([UInt8.ofNat (r.image.length / 256), UInt8.ofNat r.image.length])).map B)), none, some (oV (.string ⟨r.image.toArray⟩)), some (oOwn (n) 5 (((L1 ++ [UInt8.ofNat (r.image.length / 256), UInt8.ofNat r.image.length]) ++ (r.image)).map B)), none]
    2048 #[0, 0, 0, 0, 0, 0, 0, 0, 0, 0, 0, 65536, 0, 0, 2048, 0] (n) ((oOwn n 5 (L1.map B)).φ (.slice ax12 nx12 cx12)) (CB n w3) (by kernel_rfl) (by kernel_rfl) (by kernel_rfl) ((CB.refl hC3.le).drew) ((oOwn n 5 (L1.map B)).st (.slice ax12 nx12 cx12)) (⟨hO2.keep (Keep.refl w3).drew, fun _ _ _ _ => trivial⟩) ?_
  refine ordT_pure rfl ?_
  go_big_quiet_step (fail)
  refine ordT_on ?_
  refine ordT_pure rfl ?_
  go_big_quiet_step (fail)
  refine ordT_on ?_
  refine ordT_same (by kernel_rfl) (fun w2 hC => ?_) ?_
  · have y0 := (hC.below.cell hgl).trans u6
    go_simp
  simp only [Act.put, List.setIfInBounds_toArray, List.set_cons_zero, List.set_cons_succ]
  refine ordT_pure rfl ?_
  go_big_quiet_step (fail)
  refine ordT_on ?_
  refine ordT_pure rfl ?_
  go_big_quiet_step (fail)
  refine ordT_on ?_
  refine ordT_pure rfl ?_
  go_big_quiet_step (fail)
  refine ordT_on ?_
  refine ordT_pure rfl ?_
  go_big_quiet_step (fail)
  refine ordT_on ?_
  refine ordT_same (by kernel_rfl) (fun w2 hC => ?_) ?_
  · have y0 := (hC.below.cell hgl).trans u6
    go_simp
  simp only [Act.put, List.setIfInBounds_toArray, List.set_cons_zero, List.set_cons_succ]
  refine ordT_pure rfl ?_
  go_big_quiet_step (fail)
  refine ordT_on ?_
  refine ordT_pure rfl ?_
  go_big_quiet_step (fail)
  refine ordT_on ?_
  refine ordT_laid (fun w2 => .slice (some ⟨w2.heap.size, 0, none⟩) 2 2) (.cells #[.int .u8 ((r.image.length : Int) / 256), .int .u8 ((r.image.length : Int) % 256)] 5) (by kernel_rfl) cbK (fun w2 hC => by go_simp) (fun w2 own hC hF S hS => ?_) ?_
  · exact ⟨laid_two' w2 _ _ _ hfi, in_new hS⟩
  rintro x10 wx10 ownx10 - hx10
  obtain ⟨ax10, nx10, cx10, rfl⟩ := Sl.shape hx10.1
  simp only [Act.put, List.setIfInBounds_toArray, List.set_cons_zero, List.set_cons_succ]
  refine ordT_told (by kernel_rfl) (told_appendB elemB _ _ rfl (L1) ([UInt8.ofNat (r.image.length / 256), UInt8.ofNat r.image.length]) cbG (by simp only [List.length_cons, List.length_nil]; omega) fun w2 own hC hF => ?_) ?_
  · have h2 := (((((hF 16 (by kernel_rfl)).2 rfl).2 rfl).2 rfl) rfl)
    have h1 := (((hF 10 (by kernel_rfl)).1 rfl)).1
    exact ⟨⟨h2.1, con_own h2.1 h2.2 rfl⟩, h1⟩
  rintro x11 wx11 ownx11 - hx11
  obtain ⟨ax11, nx11, cx11, rfl⟩ := Sl.shape hx11.1.sl
  simp only [Act.put, List.setIfInBounds_toArray, List.set_cons_zero, List.set_cons_succ]
  refine ordT_pure rfl ?_
  go_big_quiet_step (fail)
  refine ordT_on ?_
  refine ordT_same (by kernel_rfl) (fun w2 hC => ?_) ?_
  · have y0 := (hC.below.cell hgl).trans u6
    go_simp
  simp only [Act.put, List.setIfInBounds_toArray, List.set_cons_zero, List.set_cons_succ]
  refine ordT_told (by kernel_rfl) (told_appendS elemB Try.underlying9 _ _ rfl (l := L1 ++ [UInt8.ofNat (r.image.length / 256), UInt8.ofNat r.image.length]) (k := r.image) rfl cbG (by simp only [List.length_append, List.length_cons, List.length_nil]; omega) fun w2 own hC hF => ?_) ?_
  · have h2 := (((hF 11 (by kernel_rfl)).2 rfl).1 rfl)
    exact ⟨h2.1, con_own h2.1 h2.2 rfl⟩
  rintro x14 wx14 ownx14 - hx14
  obtain ⟨ax14, nx14, cx14, rfl⟩ := Sl.shape hx14.1.sl
  simp only [Act.put, List.setIfInBounds_toArray, List.set_cons_zero, List.set_cons_succ]
  refine ordT_pure rfl ?_
  go_big_quiet_step (fail)
  refine ordT_on ?_
  refine ordT_done fun w4 own hC4 hF => ?_
  have hO4 := (((hF 14).1 rfl)).1
  clear hF hx10 hx11 hx14 hO2
  have hly : ((L1 ++ [UInt8.ofNat (r.image.length / 256), UInt8.ofNat r.image.length]) ++ r.image).length ≤ 67000 := by simp only [List.length_append, List.length_cons, List.length_nil]; omega
  generalize hL2 : (L1 ++ [UInt8.ofNat (r.image.length / 256), UInt8.ofNat r.image.length]) ++ r.image = L2 at *
  have HL2 := Lib.hid hL2
  clear hL2
  replace u7 := (hC4.below.cell hgl).trans u7
  have hC14 := hC3.trans hC4
  go_upto_region 4 with (fail)
  refine wp_region_seq ?_
  refine seqW_pure rfl ?_
  go_big_quiet_step (fail)
  refine seqW_on ?_
  refine seqW_pure rfl ?_
  go_big_quiet_step (fail)
  refine seqW_on ?_
  refine seqW_gives (by kernel_rfl) ?_
  refine Gives.value (v := .slice da r.dirty.length dc) (w' := w4) (by go_simp) ?_
  simp only [Act.put, List.setIfInBounds_toArray, List.set_cons_zero, List.set_cons_succ]
  refine seqW_pure rfl ?_
  go_big_quiet_step (fail)
  refine seqW_on ?_
  refine seqW_pure rfl ?_
  go_big_quiet_step (fail)
  refine seqW_on ?_
  refine seqW_gives (by kernel_rfl) ?_
  refine Gives.value (v := .slice (some ⟨w4.heap.size, 0, none⟩) 1 1) (w' := w4.alloc (.cells #[.int .u8 (r.dirty.length : Int)] 5)) (by go_simp) ?_
  simp only [Act.put, List.setIfInBounds_toArray, List.set_cons_zero, List.set_cons_succ]
  refine seqW_gives (by kernel_rfl) ?_
  refine Gives.appendB (l := L2) (k := [UInt8.ofNat r.dirty.length]) elemB _ _ rfl rfl rfl (hO4.keep (Keep.alloc _ _)) (laid_lt w4 _ _ _ hfd) (by simp only [List.length_cons, List.length_nil]; omega) (by have := hC4.le; simp; omega) ?_
  intro v5 w5 hO5 hgr
  have hC5 : CB n w1 w5 := (cbG _ _ _ (hC14.keep (Keep.alloc _ _)) hgr (fun k hk => (World.ownsRow.lt hO4 k hk).1)).2
  obtain ⟨a5, n5, c5, rfl⟩ := Sl.shape hO5.sl
  clear hgr hO4
  simp only [Act.put, List.setIfInBounds_toArray, List.set_cons_zero, List.set_cons_succ]
  refine seqW_pure rfl ?_
  go_big_quiet_step (fail)
  refine seqW_on ?_
  refine seqW_done ?_
  generalize hL3 : L2 ++ [UInt8.ofNat r.dirty.length] = L3 at *
  have HL3 := Lib.hid hL3
  have hl3 : L3.length ≤ 68000 := by rw [← hL3, List.length_append, List.length_cons, List.length_nil]; omega
  clear hL3
  replace u7 := (hC5.below.cell hgl).trans ((hC14.below.cell hgl).symm.trans u7)
  have hfl : ∀ j, ((r.dirty.take j).flatMap fun x => Pk.be x 8).length ≤ 8 * 256 := by
    intro j
    have : ∀ d : List Nat, (d.flatMap fun x => Pk.be x 8).length = 8 * d.length := by
      intro d
      induction d with
      | nil => rfl
      | cons x d ih => rw [List.flatMap_cons, List.length_append, ih, Pk.be_length, List.length_cons]; omega
    rw [this, List.length_take]
    omega
  have HFL := Lib.hid hfl
  have HF := Lib.hid hfx
  have hkw5 : Keep w w5 := hC5.ahead hkw hgl'
  clear hfl hfx u4 u5 u6 hC3 hC4 hC14 hd
  go_wp2
  go_loopw [3, 61] (fun b i wr => ∃ j : Nat, j ≤ r.dirty.length ∧ i = .int .i64 j ∧ Own wr n 5 b ((L3 ++ (r.dirty.take j).flatMap fun x => Pk.be x 8).map B) ∧ CB n w5 wr) (fun _ i _ => r.dirty.length - (intOf i).toNat)
  case atStart => exact ⟨0, Nat.zero_le _, rfl, by simpa using hO5, CB.refl hC5.le⟩
  case round =>
    obtain ⟨j, hj, rfl, hb, hk⟩ := hrel
    obtain ⟨ab, nb, cb, rfl⟩ := Sl.shape hb.sl
    have hlj := HFL.out j
    by_cases hjn : j < r.dirty.length
    · obtain ⟨ad, cd, e1, -, -, hcell⟩ := (hd0.keep (hk.ahead hkw5 hgl')).form
      simp only [Value.slice.injEq] at e1
      obtain ⟨rfl, -, -⟩ := e1
      obtain ⟨b, off, rfl, hx⟩ := hcell j hjn
      have hdx := HF.out r.dirty[j] (List.getElem_mem _)
      have htk : (r.dirty.take (j + 1)).flatMap (fun x => Pk.be x 8) = ((r.dirty.take j).flatMap fun x => Pk.be x 8) ++ Pk.be r.dirty[j] 8 := by
        rw [List.take_add_one, List.getElem?_eq_getElem hjn, List.flatMap_append]
        simp
      have HTK := Lib.hid htk
      clear htk hcell
      generalize r.dirty[j] = x at *
      go_upto_region 8 with (fail)
      refine wp_region_seq ?_
      refine seqW_pure rfl ?_
      go_big_quiet_step (fail)
      refine seqW_on ?_
      refine seqW_pure rfl ?_
      go_big_quiet_step (fail)
      refine seqW_on ?_
      refine seqW_gives (by kernel_rfl) ?_
      refine Gives.call (by go_simp) (put_at (.slice none 0 0) [] 8 x _ _ wr rfl rfl (SlB.nil wr) (by omega) (by omega) (by simp)) ?_
      rintro e w7 ⟨v7, rfl, hO7, hk7⟩
      refine ⟨_, rfl, ?_⟩
      rw [List.nil_append] at hO7
      have hb7 := hO7.slB
      obtain ⟨a7, n7, c7, rfl⟩ := hb7.shape
      simp only [Act.put, List.setIfInBounds_toArray, List.set_cons_zero, List.set_cons_succ]
      refine seqW_gives (by kernel_rfl) ?_
      refine Gives.appendB (l := L3 ++ (r.dirty.take j).flatMap fun x => Pk.be x 8) (k := Pk.be x 8) elemB _ _ rfl rfl rfl (hb.keep hk7) hb7 (by rw [List.length_append, Pk.be_length]; omega) ((hk.keep hk7).le) ?_
      intro v8 w8 hO8 hgr
      have hC8 : CB n w5 w8 := (cbG _ _ _ (hk.keep hk7) hgr (fun k hk => (World.ownsRow.lt hb k hk).1)).2
      rw [List.append_assoc, ← HTK.out] at hO8
      obtain ⟨a8, n8, c8, rfl⟩ := Sl.shape hO8.sl
      clear hgr hO7 hb7 hb hk hk7 hx
      simp only [Act.put, List.setIfInBounds_toArray, List.set_cons_zero, List.set_cons_succ]
      refine seqW_pure rfl ?_
      go_big_quiet_step (fail)
      refine seqW_on ?_
      refine seqW_done ?_
      go_wp2
      go_roundw
      case rel => exact ⟨j + 1, by omega, by go_num, hO8, hC8⟩
      case measure => simp [intOf]; omega
    · have hjl : j = r.dirty.length := by omega
      subst hjl
      rw [List.take_length] at hb
      have hbody : L3 ++ (r.dirty.flatMap fun x => Pk.be x 8) = r.body := by
        rw [hbo.out, ← HL3.out, ← HL2.out, ← HL1.out, one_be, two_be _ hfi, txt_eq, txt_eq]
        unfold Rc.five
        simp only [List.append_assoc, List.cons_append, List.nil_append]
      rw [hbody] at hb
      have hkw6 := hk.ahead hkw5 hgl'
      obtain ⟨ab2, cb2, e2, -, -, -⟩ := hb.slB.form
      simp only [Value.slice.injEq] at e2
      obtain ⟨rfl, rfl, rfl⟩ := e2
      have hbl2 := HB2.out
      clear hO5 hlj HFL
      go_upto_region 10 with (fail)
      refine wp_region_seq ?_
      iterate 7
        refine seqW_pure rfl ?_
        go_big_quiet_step (fail)
        refine seqW_on ?_
      refine seqW_gives (by kernel_rfl) ?_
      refine Gives.value (v := .slice (some ⟨wr.heap.size, 0, none⟩) 2 2) (w' := wr.alloc (.cells #[.int .u8 ((r.body.length : Int) / 256), .int .u8 ((r.body.length : Int) % 256)] 5)) (by go_simp) ?_
      simp only [Act.put, List.setIfInBounds_toArray, List.set_cons_zero, List.set_cons_succ]
      refine seqW_pure rfl ?_
      go_big_quiet_step (fail)
      refine seqW_on ?_
      refine seqW_gives (by kernel_rfl) ?_
      have hO6 := own_two' wr 5 w.heap.size r.body.length hbl2 hkw6.size
      have hk6 := hkw6.trans' (Keep.alloc wr (.cells #[.int .u8 ((r.body.length : Int) / 256), .int .u8 ((r.body.length : Int) % 256)] 5))
      refine Gives.appendB elemB _ _ rfl rfl rfl hO6 (hb.slB.keep (Keep.alloc _ _)) (by simp only [List.length_cons, List.length_nil]; omega) hk6.size fun v8 w8 hO8 hg8 => ?_
      simp only [Act.put, List.setIfInBounds_toArray, List.set_cons_zero, List.set_cons_succ]
      refine seqW_pure rfl ?_
      go_big_quiet_step (fail)
      refine seqW_on ?_
      refine seqW_done ?_
      have hk8 : Keep w w8 := hk6.trans (Own.below hO6 hg8 (Nat.le_refl _) hk6.size)
      rw [← two_be _ hbl2] at hO8
      go_wp2
      go_ret
      exact ⟨_, rfl, hO8, hk8⟩
end Go.Proofs.Ytlihieefjlpadaa
