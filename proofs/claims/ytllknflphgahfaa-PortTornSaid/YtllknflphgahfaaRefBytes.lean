/- The walk of the document's Bytes of layer 14. -/
import Derived.Test.YtllknflphgahfaaRw
import Derived.Test.YtllknflphgahfaaRefCrc
import Derived.Test.YtllknflphgahfaaAhead
import Derived.Test.YtllknflphgahfaaChain
namespace Go.Proofs.Ytllknflphgahfaa
open Go Go.RowKit
attribute [local irreducible] Go.wpQuiet

theorem byte_int (t : Int) : Value.int .u8 (t % 256) = B (UInt8.ofNat (t % 256).toNat) := by
  unfold B
  rw [UInt8.toNat_ofNat', Nat.mod_eq_of_lt (by omega)]
  congr 1
  omega
theorem laid_tk (w : World) (e : TypeId) (fr : Nat × Nat) (t : Int) (n : Nat) : SlB (w.alloc (.cells #[.int .u8 (t % 256), .int .u8 ((n : Int) % 256)] e fr)) (.slice (some ⟨w.heap.size, 0, none⟩) 2 2) [UInt8.ofNat (t % 256).toNat, UInt8.ofNat n] := by
  rw [byte_int, byte_mod]
  exact Sl.laid w _ _ _ _ 2 2 rfl rfl (by decide) (Nat.le_refl _)
theorem own_head (w : World) (e : TypeId) (base n : Nat) (h : n < 65536) (hb : base ≤ w.heap.size) : Own (w.alloc (.cells #[.int .u8 84, .int .u8 78, .int .u8 77, .int .u8 49, .int .u8 ((n : Int) / 256), .int .u8 ((n : Int) % 256)] e)) base e (.slice (some ⟨w.heap.size, 0, none⟩) 6 6) ((magicL ++ Pk.be n 2).map B) := by
  have e2 : (magicL ++ Pk.be n 2).map B = [.int .u8 84, .int .u8 78, .int .u8 77, .int .u8 49, .int .u8 ((n : Int) / 256), .int .u8 ((n : Int) % 256)] := by
    have h1 : Pk.be n 2 = [UInt8.ofNat (n / 256), UInt8.ofNat n] := by
      unfold Pk.be Pk.be Pk.be
      simp only [Nat.pow_one, Nat.pow_zero, Nat.div_one]
      congr 1
      · rw [Nat.mod_eq_of_lt (by omega)]
      · congr 1
        exact UInt8.toNat_inj.1 (by simp)
    rw [h1, byte_mod n, show ((n : Int) / 256) = ((n / 256 : Nat) : Int) by omega, byte_lt (n / 256) (by omega)]
    rfl
  rw [e2]
  exact Own.laid w e base 6 _ rfl hb (by decide)
theorem enc_steps (r : Rw) (L : List UInt8) : (((L ++ [UInt8.ofNat (r.t % 256).toNat, UInt8.ofNat r.k.length]) ++ r.k) ++ [UInt8.ofNat r.v.length]) ++ r.v = L ++ r.enc := by
  unfold Rw.enc
  simp
theorem laid_crc (w : World) (e : TypeId) (fr : Nat × Nat) (X : Nat) (hX : X < 4294967296) : SlB (w.alloc (.cells #[.int .u8 ((X : Int) / 16777216), .int .u8 ((X : Int) / 65536 % 256), .int .u8 ((X : Int) / 256 % 256), .int .u8 ((X : Int) % 256)] e fr)) (.slice (some ⟨w.heap.size, 0, none⟩) 4 4) (Pk.be X 4) := by
  have h1 : Pk.be X 4 = [UInt8.ofNat (X / 16777216), UInt8.ofNat (X / 65536), UInt8.ofNat (X / 256), UInt8.ofNat X] := by
    have m : ∀ x : Nat, UInt8.ofNat (x % 256) = UInt8.ofNat x := fun x => UInt8.toNat_inj.1 (by simp)
    unfold Pk.be Pk.be Pk.be Pk.be Pk.be
    simp only [m, Nat.pow_zero, Nat.div_one]
    try rfl
  rw [h1, byte_mod X, show ((X : Int) / 256 % 256) = ((X / 256 : Nat) : Int) % 256 by omega, byte_mod (X / 256), show ((X : Int) / 65536 % 256) = ((X / 65536 : Nat) : Int) % 256 by omega, byte_mod (X / 65536), show ((X : Int) / 16777216) = ((X / 16777216 : Nat) : Int) by omega, byte_lt (X / 16777216) (by omega)]
  exact Sl.laid w _ _ _ _ 4 4 rfl rfl (by decide) (Nat.le_refl _)

set_option maxRecDepth 100000 in
set_option maxHeartbeats 8000000 in
theorem refbytes_any (v : Value) (l : List Rw) (w : World) (hv : SlR w v l) (hl : l.length ≤ 65535) (hs : (rowsL l).length ≤ 10000000) : Calls Try.prog 16 #[v] w fun e w' => ∃ v', e = .returned v' ∧ Own w' w.heap.size 5 v' ((portL l).map B) ∧ Keep w w' := by
  obtain ⟨la, lc, rfl, -, -⟩ := hv.form
  have HSL := Lib.hid hs
  clear hs
  go_enter Try.func16, Try.ntmps16
  go_upto_region 2 with (fail)
  have hO0 := own_head w 5 w.heap.size l.length (by omega) (Nat.le_refl _)
  have hk0 := Keep.alloc w (.cells #[.int .u8 84, .int .u8 78, .int .u8 77, .int .u8 49, .int .u8 ((l.length : Int) / 256), .int .u8 ((l.length : Int) % 256)] 5)
  generalize w.alloc (.cells #[.int .u8 84, .int .u8 78, .int .u8 77, .int .u8 49, .int .u8 ((l.length : Int) / 256), .int .u8 ((l.length : Int) % 256)] 5) = w0 at *
  have hst : ((magicL ++ Pk.be l.length 2) ++ rowsL (l.take 0)) = magicL ++ Pk.be l.length 2 := by simp [rowsL]
  rw [← hst] at hO0
  have HML := Lib.hid (show (magicL ++ Pk.be l.length 2).length = 6 by rw [List.length_append, Pk.be_length]; rfl)
  clear hst
  go_wp2
  go_loopw [3, 4] (fun b i wr => ∃ j : Nat, j ≤ l.length ∧ i = .int .i64 j ∧ Own wr w.heap.size 5 b (((magicL ++ Pk.be l.length 2) ++ rowsL (l.take j)).map B) ∧ Keep w wr) (fun _ i _ => l.length - (intOf i).toNat)
  case atStart => exact ⟨0, Nat.zero_le _, rfl, hO0, hk0⟩
  case round =>
    obtain ⟨j, hj, rfl, hO, hk⟩ := hrel
    clear hO0 hk0
    obtain ⟨ba, bn, bc, rfl⟩ := hO.slB.shape
    by_cases hjn : j < l.length
    rotate_left
    · have hjd : ¬ ((j : Int) < (l.length : Int)) := by omega
      have hjl : j = l.length := by omega
      rw [hjl, List.take_length] at hO
      clear hjn hjl
      have hbl : (magicL ++ Pk.be l.length 2) ++ rowsL l = bodyL l := by unfold bodyL; rw [List.append_assoc]
      rw [hbl] at hO
      have hbn := bodyL_length l
      have HBN := Lib.hid hbn
      clear hbl hbn
      go_wp2_with fail
      refine (refcrc_any _ (bodyL l) wr hO.slB).mono ?_
      rintro e w' ⟨rfl, rfl⟩
      have hPL : bodyL l ++ crcL (bodyL l) = portL l := rfl
      have HPL := Lib.hid hPL
      have hc0 := cn_lo (Crc.sum (bodyL l))
      have hc1 := cn_hi (Crc.sum (bodyL l))
      have hcr : crcL (bodyL l) = Pk.be (Crc.sum (bodyL l)).toNat 4 := rfl
      have hxl := (Crc.sum (bodyL l)).isLt
      have HCR := Lib.hid hcr
      clear hPL hcr
      unfold cn at hc0 hc1 ⊢
      generalize (Crc.sum (bodyL l)).toNat = X at *
      go_upto_region 10 with (fail)
      refine wp_region_seq ?_
      refine seqW_pure rfl ?_
      go_big_quiet_step (fail)
      refine seqW_on ?_
      refine seqW_pure rfl ?_
      go_big_quiet_step (fail)
      refine seqW_on ?_
      refine seqW_pure rfl ?_
      go_big_quiet_step (fail)
      refine seqW_on ?_
      refine seqW_pure rfl ?_
      go_big_quiet_step (fail)
      refine seqW_on ?_
      refine seqW_pure rfl ?_
      go_big_quiet_step (fail)
      refine seqW_on ?_
      refine seqW_pure rfl ?_
      go_big_quiet_step (fail)
      refine seqW_on ?_
      refine seqW_pure rfl ?_
      go_big_quiet_step (fail)
      refine seqW_on ?_
      refine seqW_pure rfl ?_
      go_big_quiet_step (fail)
      refine seqW_on ?_
      refine seqW_pure rfl ?_
      go_big_quiet_step (fail)
      refine seqW_on ?_
      refine seqW_pure rfl ?_
      go_big_quiet_step (fail)
      refine seqW_on ?_
      refine seqW_pure rfl ?_
      go_big_quiet_step (fail)
      refine seqW_on ?_
      refine seqW_pure rfl ?_
      go_big_quiet_step (fail)
      refine seqW_on ?_
      refine seqW_gives (by kernel_rfl) ?_
      refine Gives.value (v := .slice (some ⟨wr.heap.size, 0, none⟩) 4 4) (w' := wr.alloc (.cells #[.int .u8 ((X : Int) / 16777216), .int .u8 ((X : Int) / 65536 % 256), .int .u8 ((X : Int) / 256 % 256), .int .u8 ((X : Int) % 256)] 5)) (by go_simp) ?_
      have hsl := laid_crc wr 5 (0, 0) X (by omega)
      have hka := Keep.alloc wr (.cells #[.int .u8 ((X : Int) / 16777216), .int .u8 ((X : Int) / 65536 % 256), .int .u8 ((X : Int) / 256 % 256), .int .u8 ((X : Int) % 256)] 5)
      have hO2 := hO.keep hka
      have hk2 := hk.trans' hka
      clear hka hO hk
      generalize wr.alloc (.cells #[.int .u8 ((X : Int) / 16777216), .int .u8 ((X : Int) / 65536 % 256), .int .u8 ((X : Int) / 256 % 256), .int .u8 ((X : Int) % 256)] 5) = W1 at *
      simp only [Act.put, List.setIfInBounds_toArray, List.set_cons_zero, List.set_cons_succ]
      have hbl := HBN.out
      have hrl := HSL.out
      have h4 := Pk.be_length X 4
      refine seqW_gives (by kernel_rfl) ?_
      refine Gives.appendB elemB _ _ rfl rfl rfl (l := bodyL l) (k := Pk.be X 4) hO2 hsl (by omega) hk2.size ?_
      intro W2v W2 hO3 W2g
      have hk3 : Keep w W2 := hk2.grown W2g hk2.size (fun j hj => (World.ownsRow.lt hO2 j hj).1)
      obtain ⟨W2a, W2n, W2c, rfl⟩ := hO3.slB.shape
      clear W2g hO2 hk2
      simp only [Act.put, List.setIfInBounds_toArray, List.set_cons_zero, List.set_cons_succ]
      clear hsl hbl hrl h4
      refine seqW_pure rfl ?_
      go_big_quiet_step (fail)
      refine seqW_on ?_
      refine seqW_done ?_
      rw [← HCR.out, HPL.out] at hO3
      go_wp2
      go_ret
      exact ⟨_, rfl, hO3, hk3⟩
    have hjd : (j : Int) < (l.length : Int) := by omega
    have hE := hv.elem j hjn
    obtain ⟨b, off, rfl, x0, x1, x2⟩ := hE
    have HT := Lib.hid (rowsL_take l j hjn)
    have hle : (rowsL (l.take (j + 1))).length ≤ 10000000 := by
      have h1 : rowsL l = rowsL (l.take (j + 1)) ++ rowsL (l.drop (j + 1)) := by rw [← rowsL_append, List.take_append_drop]
      have h2 := congrArg List.length h1
      rw [List.length_append] at h2
      have := HSL.out
      omega
    rw [HT.out, List.length_append, Rw.enc_length] at hle
    have hes := Lib.hid (enc_steps l[j] ((magicL ++ Pk.be l.length 2) ++ rowsL (l.take j)))
    have hln : ((magicL ++ Pk.be l.length 2) ++ rowsL (l.take j)).length = 6 + (rowsL (l.take j)).length := by rw [List.length_append, HML.out]
    have hln2 : ((magicL ++ Pk.be l.length 2) ++ rowsL (l.take j)).length + (3 + l[j].k.length + l[j].v.length) ≤ 10000006 := by omega
    generalize hLe : (magicL ++ Pk.be l.length 2) ++ rowsL (l.take j) = L at *
    have HLe := Lib.hid hLe
    clear hLe hle hln
    generalize l[j] = r at *
    have s1 := size_str r.k
    have s2 := size_str r.v
    clear hjn
    go_upto_region 5 with (fail)
    refine wp_region_ch 17 [none, none, none, none, none, none, none, none, none, none, none, none, none, none, some none, some none, none] (fun w' => Keep w w') (by kernel_rfl) (by kernel_rfl) (by kernel_rfl) (by kernel_rfl) hk.drew ?_
    have hO1 : Own wr.drew w.heap.size 5 (.slice ba bn bc) (L.map B) := hO.keep (Keep.refl wr).drew
    have hk1 : Keep w wr.drew := hk.drew
    clear hO hk
    generalize wr.drew = W0 at *
    refine chT_pure rfl ?_
    go_big_quiet_step (fail)
    refine chT_on ?_
    refine chT_pure rfl ?_
    go_big_quiet_step (fail)
    refine chT_on ?_
    refine chT_pure rfl ?_
    go_big_quiet_step (fail)
    refine chT_on ?_
    refine chT_pure rfl ?_
    go_big_quiet_step (fail)
    refine chT_on ?_
    refine chT_pure rfl ?_
    go_big_quiet_step (fail)
    refine chT_on ?_
    refine chT_same (v := .int .i64 r.t) (by kernel_rfl) (fun w2 hC => by
      have z0 := (hC.cell (World.block_lt_of_cell? _ _ x0)).trans x0
      go_simp) ?_
    simp only [Act.put, List.setIfInBounds_toArray, List.set_cons_zero, List.set_cons_succ]
    refine chT_pure rfl ?_
    go_big_quiet_step (fail)
    refine chT_on ?_
    refine chT_pure rfl ?_
    go_big_quiet_step (fail)
    refine chT_on ?_
    refine chT_pure rfl ?_
    go_big_quiet_step (fail)
    refine chT_on ?_
    refine chT_pure rfl ?_
    go_big_quiet_step (fail)
    refine chT_on ?_
    refine chT_pure rfl ?_
    go_big_quiet_step (fail)
    refine chT_on ?_
    refine chT_same (v := .string ⟨r.k.toArray⟩) (by kernel_rfl) (fun w2 hC => by
      have z0 := (hC.cell (World.block_lt_of_cell? _ _ x1)).trans x1
      go_simp) ?_
    simp only [Act.put, List.setIfInBounds_toArray, List.set_cons_zero, List.set_cons_succ]
    refine chT_pure rfl ?_
    go_big_quiet_step (fail)
    refine chT_on ?_
    refine chT_pure rfl ?_
    go_big_quiet_step (fail)
    refine chT_on ?_
    refine chT_gives (by kernel_rfl) ?_
    refine Gives.value (v := .slice (some ⟨W0.heap.size, 0, none⟩) 2 2) (w' := W0.alloc (.cells #[.int .u8 (r.t % 256), .int .u8 ((r.k.length : Int) % 256)] 5)) (by go_simp) ?_
    have hsl := laid_tk W0 5 (0, 0) r.t r.k.length
    have hka := Keep.alloc W0 (.cells #[.int .u8 (r.t % 256), .int .u8 ((r.k.length : Int) % 256)] 5)
    have hO2 := hO1.keep hka
    have hk2 := hk1.trans' hka
    clear hka hO1 hk1
    generalize W0.alloc (.cells #[.int .u8 (r.t % 256), .int .u8 ((r.k.length : Int) % 256)] 5) = W1 at *
    refine ⟨hk2, ?_⟩
    simp only [Act.put, List.setIfInBounds_toArray, List.set_cons_zero, List.set_cons_succ]
    refine chT_gives (by kernel_rfl) ?_
    refine Gives.appendB elemB _ _ rfl rfl rfl (l := L) (k := [UInt8.ofNat (r.t % 256).toNat, UInt8.ofNat r.k.length]) hO2 hsl (by simp only [List.length_append, List.length_cons, List.length_nil]; omega) hk2.size ?_
    intro W2v W2 hO3 W2g
    have hk3 : Keep w W2 := hk2.grown W2g hk2.size (fun j hj => (World.ownsRow.lt hO2 j hj).1)
    obtain ⟨W2a, W2n, W2c, rfl⟩ := hO3.slB.shape
    clear W2g hO2 hk2
    refine ⟨hk3, ?_⟩
    simp only [Act.put, List.setIfInBounds_toArray, List.set_cons_zero, List.set_cons_succ]
    clear hsl
    refine chT_pure rfl ?_
    go_big_quiet_step (fail)
    refine chT_on ?_
    refine chT_done ?_
    refine seqW_done ?_
    go_upto_region 6 with (fail)
    refine wp_region_seq ?_
    refine seqW_pure rfl ?_
    go_big_quiet_step (fail)
    refine seqW_on ?_
    refine seqW_pure rfl ?_
    go_big_quiet_step (fail)
    refine seqW_on ?_
    refine seqW_pure rfl ?_
    go_big_quiet_step (fail)
    refine seqW_on ?_
    refine seqW_pure rfl ?_
    go_big_quiet_step (fail)
    refine seqW_on ?_
    refine seqW_pure rfl ?_
    go_big_quiet_step (fail)
    refine seqW_on ?_
    refine seqW_gives (by kernel_rfl) ?_
    have zz := (hk3.cell (World.block_lt_of_cell? _ _ x1)).trans x1
    refine Gives.value (v := .string ⟨r.k.toArray⟩) (w' := W2) (by go_simp) ?_
    clear zz
    simp only [Act.put, List.setIfInBounds_toArray, List.set_cons_zero, List.set_cons_succ]
    refine seqW_gives (by kernel_rfl) ?_
    refine Gives.appendS elemB Try.underlying9 _ _ rfl rfl rfl (l := (L ++ [UInt8.ofNat (r.t % 256).toNat, UInt8.ofNat r.k.length])) (k := r.k) hO3 (by simp only [List.length_append, List.length_cons, List.length_nil]; omega) hk3.size ?_
    intro W3v W3 hO4 W3g
    have hk4 : Keep w W3 := hk3.grown W3g hk3.size (fun j hj => (World.ownsRow.lt hO3 j hj).1)
    obtain ⟨W3a, W3n, W3c, rfl⟩ := hO4.slB.shape
    clear W3g hO3 hk3
    simp only [Act.put, List.setIfInBounds_toArray, List.set_cons_zero, List.set_cons_succ]
    refine seqW_pure rfl ?_
    go_big_quiet_step (fail)
    refine seqW_on ?_
    refine seqW_done ?_
    go_upto_region 7 with (fail)
    refine wp_region_seq ?_
    refine seqW_pure rfl ?_
    go_big_quiet_step (fail)
    refine seqW_on ?_
    refine seqW_pure rfl ?_
    go_big_quiet_step (fail)
    refine seqW_on ?_
    refine seqW_pure rfl ?_
    go_big_quiet_step (fail)
    refine seqW_on ?_
    refine seqW_pure rfl ?_
    go_big_quiet_step (fail)
    refine seqW_on ?_
    refine seqW_pure rfl ?_
    go_big_quiet_step (fail)
    refine seqW_on ?_
    refine seqW_gives (by kernel_rfl) ?_
    have zz := (hk4.cell (World.block_lt_of_cell? _ _ x2)).trans x2
    refine Gives.value (v := .string ⟨r.v.toArray⟩) (w' := W3) (by go_simp) ?_
    clear zz
    simp only [Act.put, List.setIfInBounds_toArray, List.set_cons_zero, List.set_cons_succ]
    refine seqW_pure rfl ?_
    go_big_quiet_step (fail)
    refine seqW_on ?_
    refine seqW_pure rfl ?_
    go_big_quiet_step (fail)
    refine seqW_on ?_
    refine seqW_gives (by kernel_rfl) ?_
    refine Gives.value (v := .slice (some ⟨W3.heap.size, 0, none⟩) 1 1) (w' := W3.alloc (.cells #[.int .u8 ((r.v.length : Int) % 256)] 5)) (by go_simp) ?_
    have hsl := laid_one W3 5 (0, 0) r.v.length
    have hka := Keep.alloc W3 (.cells #[.int .u8 ((r.v.length : Int) % 256)] 5)
    have hO5 := hO4.keep hka
    have hk5 := hk4.trans' hka
    clear hka hO4 hk4
    generalize W3.alloc (.cells #[.int .u8 ((r.v.length : Int) % 256)] 5) = W4 at *
    simp only [Act.put, List.setIfInBounds_toArray, List.set_cons_zero, List.set_cons_succ]
    refine seqW_gives (by kernel_rfl) ?_
    refine Gives.appendB elemB _ _ rfl rfl rfl (l := ((L ++ [UInt8.ofNat (r.t % 256).toNat, UInt8.ofNat r.k.length]) ++ r.k)) (k := [UInt8.ofNat r.v.length]) hO5 hsl (by simp only [List.length_append, List.length_cons, List.length_nil]; omega) hk5.size ?_
    intro W5v W5 hO6 W5g
    have hk6 : Keep w W5 := hk5.grown W5g hk5.size (fun j hj => (World.ownsRow.lt hO5 j hj).1)
    obtain ⟨W5a, W5n, W5c, rfl⟩ := hO6.slB.shape
    clear W5g hO5 hk5
    simp only [Act.put, List.setIfInBounds_toArray, List.set_cons_zero, List.set_cons_succ]
    clear hsl
    refine seqW_pure rfl ?_
    go_big_quiet_step (fail)
    refine seqW_on ?_
    refine seqW_done ?_
    go_upto_region 8 with (fail)
    refine wp_region_seq ?_
    refine seqW_pure rfl ?_
    go_big_quiet_step (fail)
    refine seqW_on ?_
    refine seqW_pure rfl ?_
    go_big_quiet_step (fail)
    refine seqW_on ?_
    refine seqW_pure rfl ?_
    go_big_quiet_step (fail)
    refine seqW_on ?_
    refine seqW_pure rfl ?_
    go_big_quiet_step (fail)
    refine seqW_on ?_
    refine seqW_pure rfl ?_
    go_big_quiet_step (fail)
    refine seqW_on ?_
    refine seqW_gives (by kernel_rfl) ?_
    have zz := (hk6.cell (World.block_lt_of_cell? _ _ x2)).trans x2
    refine Gives.value (v := .string ⟨r.v.toArray⟩) (w' := W5) (by go_simp) ?_
    clear zz
    simp only [Act.put, List.setIfInBounds_toArray, List.set_cons_zero, List.set_cons_succ]
    refine seqW_gives (by kernel_rfl) ?_
    refine Gives.appendS elemB Try.underlying9 _ _ rfl rfl rfl (l := (((L ++ [UInt8.ofNat (r.t % 256).toNat, UInt8.ofNat r.k.length]) ++ r.k) ++ [UInt8.ofNat r.v.length])) (k := r.v) hO6 (by simp only [List.length_append, List.length_cons, List.length_nil]; omega) hk6.size ?_
    intro W6v W6 hO7 W6g
    have hk7 : Keep w W6 := hk6.grown W6g hk6.size (fun j hj => (World.ownsRow.lt hO6 j hj).1)
    obtain ⟨W6a, W6n, W6c, rfl⟩ := hO7.slB.shape
    clear W6g hO6 hk6
    simp only [Act.put, List.setIfInBounds_toArray, List.set_cons_zero, List.set_cons_succ]
    refine seqW_pure rfl ?_
    go_big_quiet_step (fail)
    refine seqW_on ?_
    refine seqW_done ?_
    rw [hes.out] at hO7
    go_wp2
    go_roundw
    case rel => exact ⟨j + 1, by omega, by go_num, by rw [HT.out, ← List.append_assoc, HLe.out]; exact hO7, hk7⟩
    case measure => simp [intOf]; omega
end Go.Proofs.Ytllknflphgahfaa
