/- The walk of record.Encode. -/
import Derived.Test.YtlihieefjlpadaaRec
namespace Go.Proofs.Ytlihieefjlpadaa
open Go Go.RowKit
attribute [local irreducible] Go.wpQuiet

theorem B_mod (n : Nat) : Value.int .u8 ((n : Int) % 256) = B (UInt8.ofNat n) := by
  unfold B
  rw [UInt8.toNat_ofNat']
  congr 1
theorem txt_eq (s : List UInt8) : txt s = UInt8.ofNat s.length :: s := be_one s.length s
/-- the four numbers ahead -/
def Rc.four (r : Rc) : List UInt8 := [UInt8.ofNat r.kind.toNat, UInt8.ofNat r.txn.toNat, UInt8.ofNat r.page.toNat, UInt8.ofNat r.slot.toNat]
theorem four_map (r : Rc) (hf : r.Fits) : r.four.map B = [.int .u8 (r.kind % 256), .int .u8 (r.txn % 256), .int .u8 (r.page % 256), .int .u8 (r.slot % 256)] := by
  obtain ⟨⟨hk, _⟩, ⟨ht, _⟩, ⟨hp, _⟩, ⟨hs, _⟩, _⟩ := hf
  unfold Rc.four
  simp only [List.map_cons, List.map_nil]
  rw [← B_mod, ← B_mod, ← B_mod, ← B_mod, Int.toNat_of_nonneg hk, Int.toNat_of_nonneg ht, Int.toNat_of_nonneg hp, Int.toNat_of_nonneg hs]
theorem one_be (x : Nat) : Pk.be x 1 = [UInt8.ofNat x] := by
  have := be_one x []
  simpa using this
theorem body_eq (r : Rc) : r.body = ((((r.four ++ txt r.before) ++ txt r.after) ++ Pk.be r.image.length 2) ++ r.image) ++ Pk.be r.dirty.length 1 ++ r.dirty.flatMap fun x => Pk.be x 8 := by
  unfold Rc.body Rc.four
  rw [one_be, one_be, one_be, one_be]
  simp only [List.append_assoc, List.cons_append, List.nil_append]

set_option maxRecDepth 100000 in
set_option maxHeartbeats 8000000 in
theorem encode_any (r : Rc) (dv : Value) (w : World) (hf : r.Fits) (hd : SlU w dv r.dirty) : Calls Try.prog 14 #[r.val dv] w fun e w' => ∃ v, e = .returned v ∧ Own w' w.heap.size 5 v (r.enc.map B) ∧ Keep w w' := by
  have hA := RcAt.laid w r dv
  have hk0 := Keep.alloc w (.cells #[.int .i64 r.kind, .int .i64 r.txn, .int .i64 r.page, .int .i64 r.slot, .string ⟨r.before.toArray⟩, .string ⟨r.after.toArray⟩, .string ⟨r.image.toArray⟩, dv] 24)
  have hd0 := hd
  obtain ⟨da, dc, rfl, hm, hc, -⟩ := hd.form
  have h4 := Lib.hid (four_map r hf)
  have hbo := Lib.hid (body_eq r)
  have hbl := body_length r
  obtain ⟨-, -, -, -, hfb, hfa, hfi, hfd, hfx⟩ := hf
  have hs3 := size_str r.image
  unfold maxLen at hm
  unfold Rc.val
  go_enter Try.func14, Try.ntmps14
  go_upto_region 1 with (fail)
  generalize w.alloc (.cells #[.int .i64 r.kind, .int .i64 r.txn, .int .i64 r.page, .int .i64 r.slot, .string ⟨r.before.toArray⟩, .string ⟨r.after.toArray⟩, .string ⟨r.image.toArray⟩, .slice da r.dirty.length dc] 24) = w0 at *
  obtain ⟨c0, c1, c2, c3, -⟩ := hA.cells
  go_upto_region 2 with (fail)
  have hk1 := Keep.alloc w0 (.cells #[.int .u8 (r.kind % 256), .int .u8 (r.txn % 256), .int .u8 (r.page % 256), .int .u8 (r.slot % 256)] 5)
  have hB1 : SlB (w0.alloc (.cells #[.int .u8 (r.kind % 256), .int .u8 (r.txn % 256), .int .u8 (r.page % 256), .int .u8 (r.slot % 256)] 5)) (.slice (some ⟨w0.heap.size, 0, none⟩) 4 4) r.four := by
    unfold SlB
    rw [h4.out]
    exact Sl.laid w0 _ _ _ _ 4 4 rfl rfl (by decide) (Nat.le_refl _)
  have hkw := hk0.trans' hk1
  have hA1 := hA.keep hk1
  clear c0 c1 c2 c3 h4
  generalize w0.alloc (.cells #[.int .u8 (r.kind % 256), .int .u8 (r.txn % 256), .int .u8 (r.page % 256), .int .u8 (r.slot % 256)] 5) = w1 at *
  generalize w0.heap.size = g1 at *
  obtain ⟨-, -, -, -, u4, u5, u6, u7⟩ := hA1.cells
  have l4 := World.block_lt_of_cell? w1 _ u4
  have l5 := World.block_lt_of_cell? w1 _ u5
  have l6 := World.block_lt_of_cell? w1 _ u6
  have l7 := World.block_lt_of_cell? w1 _ u7
  clear hA hk0 hk1
  have h4l : r.four.length = 4 := rfl
  refine wp_region_ord' [none, none, some (oV (.string ⟨r.before.toArray⟩)), some (oB (r.four ++ txt r.before)), none, some (oV (.string ⟨r.after.toArray⟩)), some (oB ((r.four ++ txt r.before) ++ txt r.after)), none]
    #[0, 0, 0, 0, 0, 0, 0, 0] (w1.heap.size) (fun w' => Keep w1 w') (by kernel_rfl) (by kernel_rfl) (by kernel_rfl) ((Keep.refl w1).drew) ?_
  refine ordT_pure rfl ?_
  go_big_quiet_step (fail)
  refine ordT_on ?_
  refine ordT_pure rfl ?_
  go_big_quiet_step (fail)
  refine ordT_on ?_
  refine ordT_same (by kernel_rfl) (fun w2 hC => ?_) ?_
  · have x0 := (hC.cell l4).trans u4
    go_simp
  simp only [Act.put, List.setIfInBounds_toArray, List.set_cons_zero, List.set_cons_succ]
  refine ordT_call (by kernel_rfl) keepK (fun w2 own hC hF => ?_) ?_
  · rw [txt_eq]
    refine ⟨_, _, by first | (go_simp; done) | (go_simp; rfl), (text_any _ r.four r.before w2 (hB1.keep hC) (by omega) (by omega)).mono ?_⟩
    rintro e w' ⟨v, rfl, hO, hk⟩
    exact ⟨v, rfl, hk, fun S hS => ⟨hO.sl, fun _ => Own.inOf hO fun g hg => hS g (.inr (World.ownsRow.lt hO g hg).1)⟩⟩
  rintro x3 wx3 ownx3 hCx3 hx3
  obtain ⟨ax3, nx3, cx3, rfl⟩ := Sl.shape hx3.1
  simp only [Act.put, List.setIfInBounds_toArray, List.set_cons_zero, List.set_cons_succ]
  refine ordT_pure rfl ?_
  go_big_quiet_step (fail)
  refine ordT_on ?_
  refine ordT_same (by kernel_rfl) (fun w2 hC => ?_) ?_
  · have x0 := (hC.cell l5).trans u5
    go_simp
  simp only [Act.put, List.setIfInBounds_toArray, List.set_cons_zero, List.set_cons_succ]
  refine ordT_call (by kernel_rfl) keepK (fun w2 own hC hF => ?_) ?_
  · have h1 := (((hF 3 rfl).2 rfl).1 rfl)
    rw [txt_eq r.after]
    refine ⟨_, _, by first | (go_simp; done) | (go_simp; rfl), (text_any _ (r.four ++ txt r.before) r.after w2 h1.1 (by omega) (by rw [txt_eq]; simp only [List.length_append, List.length_cons]; omega)).mono ?_⟩
    rintro e w' ⟨v, rfl, hO, hk⟩
    exact ⟨v, rfl, hk, fun S hS => ⟨hO.sl, fun _ => Own.inOf hO fun g hg => hS g (.inr (World.ownsRow.lt hO g hg).1)⟩⟩
  rintro x6 wx6 ownx6 hCx6 hx6
  obtain ⟨ax6, nx6, cx6, rfl⟩ := Sl.shape hx6.1
  simp only [Act.put, List.setIfInBounds_toArray, List.set_cons_zero, List.set_cons_succ]
  refine ordT_pure rfl ?_
  go_big_quiet_step (fail)
  refine ordT_on ?_
  refine ordT_done fun w3 own hC1 hF => ?_
  have hx := (((hF 6).1 rfl)).1
  clear hF hx3 hx6
  go_upto_region 3 with (fail)
  have hlx : ((r.four ++ txt r.before) ++ txt r.after).length ≤ 600 := by rw [txt_eq, txt_eq]; simp only [List.length_append, List.length_cons]; omega
  have HX : SlB w3 (.slice ax6 nx6 cx6) ((r.four ++ txt r.before) ++ txt r.after) := hx
  generalize hL1 : (r.four ++ txt r.before) ++ txt r.after = L1 at *
  have HL1 := Lib.hid hL1
  clear hL1 hx
  refine wp_region_ord' [none, none, some (oV (.string ⟨r.image.toArray⟩)), none, none, some (oOwn w3.heap.size 5 ((L1 ++ Pk.be r.image.length 2).map B)), none, some (oV (.string ⟨r.image.toArray⟩)), some (oOwn w3.heap.size 5 (((L1 ++ Pk.be r.image.length 2) ++ r.image).map B)), none]
    #[0, 0, 0, 0, 0, 0, 0, 0, 32, 0] (w3.heap.size) (fun w' => Keep w3 w') (by kernel_rfl) (by kernel_rfl) (by kernel_rfl) ((Keep.refl w3).drew) ?_
  refine ordT_pure rfl ?_
  go_big_quiet_step (fail)
  refine ordT_on ?_
  refine ordT_pure rfl ?_
  go_big_quiet_step (fail)
  refine ordT_on ?_
  refine ordT_same (by kernel_rfl) (fun w2 hC => ?_) ?_
  · have x0 := ((hC1.trans' hC).cell l6).trans u6
    go_simp
  simp only [Act.put, List.setIfInBounds_toArray, List.set_cons_zero, List.set_cons_succ]
  refine ordT_pure rfl ?_
  go_big_quiet_step (fail)
  refine ordT_on ?_
  refine ordT_pure rfl ?_
  go_big_quiet_step (fail)
  refine ordT_on ?_
  refine ordT_call (by kernel_rfl) keepK (fun w2 own hC hF => ?_) ?_
  · refine ⟨_, _, by first | (go_simp; done) | (go_simp; rfl), (put_at _ L1 2 r.image.length _ _ w2 rfl rfl (HX.keep hC) (by omega) (by omega) (by omega)).mono ?_⟩
    rintro e w' ⟨v, rfl, hO, hk⟩
    exact ⟨v, rfl, hk, fun S hS => ⟨hO.mono hC.size, Own.inOf hO fun g hg => hS g (.inr (World.ownsRow.lt hO g hg).1)⟩⟩
  rintro y5 wy5 owny5 hCy5 hy5
  obtain ⟨ay5, ny5, cy5, rfl⟩ := Sl.shape hy5.1.sl
  simp only [Act.put, List.setIfInBounds_toArray, List.set_cons_zero, List.set_cons_succ]
  refine ordT_pure rfl ?_
  go_big_quiet_step (fail)
  refine ordT_on ?_
  refine ordT_same (by kernel_rfl) (fun w2 hC => ?_) ?_
  · have x0 := ((hC1.trans' hC).cell l6).trans u6
    go_simp
  simp only [Act.put, List.setIfInBounds_toArray, List.set_cons_zero, List.set_cons_succ]
  refine ordT_told (by kernel_rfl) ?_ ?_
  · refine told_appendS elemB Try.underlying9 _ _ rfl rfl keepG (by simp [Pk.be_length]; omega) fun w2 own hC hF => ?_
    have h2 := (((hF 5 rfl).2 rfl).1 rfl)
    exact ⟨h2.1, con_own h2.1 h2.2 rfl⟩
  rintro y8 wy8 owny8 - hy8
  obtain ⟨ay8, ny8, cy8, rfl⟩ := Sl.shape hy8.1.sl
  simp only [Act.put, List.setIfInBounds_toArray, List.set_cons_zero, List.set_cons_succ]
  refine ordT_pure rfl ?_
  go_big_quiet_step (fail)
  refine ordT_on ?_
  refine ordT_done fun w4 own hC2 hF => ?_
  have hy := (((hF 8).1 rfl)).1.slB
  clear hF hy5 hy8
  have hk4 := hC1.trans' hC2
  have hkw4 := hkw.trans' hk4
  have hly : ((L1 ++ Pk.be r.image.length 2) ++ r.image).length ≤ 67000 := by simp only [List.length_append, Pk.be_length]; omega
  have y7 := (hk4.cell l7).trans u7
  have hdk := hd0.keep hkw4
  have HF := Lib.hid hfx
  clear hfx hd0 hd hC2 hC1 hk4 u4 u5 u6 u7 l4 l5 l6 hB1 HX hA1
  generalize hL2 : (L1 ++ Pk.be r.image.length 2) ++ r.image = L2 at *
  have HL2 := Lib.hid hL2
  clear hL2
  go_wp2_with fail
  refine (put_at _ L2 1 r.dirty.length _ _ w4 rfl rfl hy (by omega) (by omega) (by omega)).mono ?_
  rintro e w5 ⟨v5, rfl, hO5, hk5⟩
  have hb5 := hO5.slB
  have hkw5 := hkw4.trans' hk5
  have y8 := (hk5.cell (World.block_lt_of_cell? w4 _ y7)).trans y7
  have hd5 := hdk.keep hk5
  clear hO5 hy hk5 hdk y7 hkw4
  obtain ⟨av, nv, cv, rfl⟩ := hb5.shape
  generalize hL3 : L2 ++ Pk.be r.dirty.length 1 = L3 at *
  have HL3 := Lib.hid hL3
  have hl3 : L3.length ≤ 68000 := by rw [← hL3, List.length_append, Pk.be_length]; omega
  clear hL3
  have hfl : ∀ j, ((r.dirty.take j).flatMap fun x => Pk.be x 8).length ≤ 8 * 256 := by
    intro j
    have : ∀ d : List Nat, (d.flatMap fun x => Pk.be x 8).length = 8 * d.length := by
      intro d
      induction d with
      | nil => rfl
      | cons x d ih => rw [List.flatMap_cons, List.length_append, ih, Pk.be_length, List.length_cons]; omega
    rw [this, List.length_take]
    omega
  have HFL := Lib.hid hfl
  clear hfl
  go_wp2
  go_loopw [3, 44] (fun b i wr => ∃ j : Nat, j ≤ r.dirty.length ∧ i = .int .i64 j ∧ SlB wr b (L3 ++ (r.dirty.take j).flatMap fun x => Pk.be x 8) ∧ Keep w5 wr) (fun _ i _ => r.dirty.length - (intOf i).toNat)
  case atStart => exact ⟨0, Nat.zero_le _, rfl, by simpa using hb5, Keep.refl _⟩
  case round =>
    obtain ⟨j, hj, rfl, hb, hk⟩ := hrel
    obtain ⟨ab, nb, cb, rfl⟩ := hb.shape
    have hlj := HFL.out j
    by_cases hjn : j < r.dirty.length
    · obtain ⟨ad, cd, e1, -, -, hcell⟩ := (hd5.keep hk).form
      simp only [Value.slice.injEq] at e1
      obtain ⟨rfl, -, -⟩ := e1
      obtain ⟨b, off, rfl, hx⟩ := hcell j hjn
      have hdx := HF.out r.dirty[j] (List.getElem_mem _)
      have htk : (r.dirty.take (j + 1)).flatMap (fun x => Pk.be x 8) = ((r.dirty.take j).flatMap fun x => Pk.be x 8) ++ Pk.be r.dirty[j] 8 := by
        rw [List.take_add_one, List.getElem?_eq_getElem hjn, List.flatMap_append]
        simp
      have HTK := Lib.hid htk
      clear htk hcell
      generalize r.dirty[j] = x at *
      go_wp2_with fail
      refine (put_at _ _ 8 x _ _ wr rfl rfl hb (by omega) (by omega) (by rw [List.length_append]; omega)).mono ?_
      rintro e w6 ⟨v6, rfl, hO6, hk6⟩
      have hb6 := hO6.slB
      rw [List.append_assoc, ← HTK.out] at hb6
      have hk56 := hk.trans' hk6
      clear hO6 hb hk hk6 hx
      obtain ⟨a6, n6, c6, rfl⟩ := hb6.shape
      go_wp2
      go_roundw
      case rel => exact ⟨j + 1, by omega, by go_num, hb6, hk56⟩
      case measure => simp [intOf]; omega
    · have hjl : j = r.dirty.length := by omega
      subst hjl
      rw [List.take_length] at hb
      have hbody : L3 ++ (r.dirty.flatMap fun x => Pk.be x 8) = r.body := by rw [hbo.out, ← HL3.out, ← HL2.out]
      rw [hbody] at hb
      have hkw6 := hkw5.trans' hk
      obtain ⟨ab2, cb2, e2, -, -, -⟩ := hb.form
      simp only [Value.slice.injEq] at e2
      obtain ⟨rfl, rfl, rfl⟩ := e2
      clear hb5 hd5 y8 hk hlj HFL
      go_upto_region 10 with (fail)
      refine wp_region_seq ?_
      refine seqW_pure rfl ?_
      go_big_quiet_step (fail)
      refine seqW_on ?_
      refine seqW_pure rfl ?_
      go_big_quiet_step (fail)
      refine seqW_on ?_
      refine seqW_pure rfl ?_
      go_big_quiet_step (fail)
      refine seqW_on ?_
      refine seqW_gives (by kernel_rfl) ?_
      refine Gives.call (by go_simp) (put_at (.slice none 0 0) [] 2 r.body.length _ _ wr rfl rfl (SlB.nil wr) (by omega) (by omega) (by simp)) ?_
      rintro e w7 ⟨v7, rfl, hO7, hk7⟩
      refine ⟨_, rfl, ?_⟩
      obtain ⟨a7, n7, c7, rfl⟩ := hO7.slB.shape
      simp only [Act.put, List.setIfInBounds_toArray, List.set_cons_zero, List.set_cons_succ]
      refine seqW_pure rfl ?_
      go_big_quiet_step (fail)
      refine seqW_on ?_
      refine seqW_gives (by kernel_rfl) ?_
      refine Gives.appendB elemB _ _ rfl rfl rfl (hO7.mono (hkw6.size)) (hb.keep hk7) (by simp [Pk.be_length]; omega) ((hkw6.trans' hk7).size) fun v8 w8 hO8 hg8 => ?_
      simp only [Act.put, List.setIfInBounds_toArray, List.set_cons_zero, List.set_cons_succ]
      refine seqW_pure rfl ?_
      go_big_quiet_step (fail)
      refine seqW_on ?_
      refine seqW_done ?_
      have hk8 : Keep w w8 := (hkw6.trans' hk7).trans (Own.below (hO7.mono hkw6.size) hg8 (Nat.le_refl _) ((hkw6.trans' hk7).size))
      go_wp2
      go_ret
      exact ⟨_, rfl, by rw [List.nil_append] at hO8; exact hO8, hk8⟩
end Go.Proofs.Ytlihieefjlpadaa
