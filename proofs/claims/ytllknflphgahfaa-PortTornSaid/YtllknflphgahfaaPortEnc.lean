/- The walk of port.Encode. -/
import Derived.Test.YtllknflphgahfaaRw
import Derived.Test.YtllknflphgahfaaSum
import Derived.Lib.SlBytesConst
namespace Go.Proofs.Ytllknflphgahfaa
open Go Go.RowKit
attribute [local irreducible] Go.wpQuiet

theorem enc_step (r : Rw) (hr : r.right = true) (l : List UInt8) : ((l ++ Pk.be r.t.toNat 1) ++ UInt8.ofNat r.k.length :: r.k) ++ UInt8.ofNat r.v.length :: r.v = l ++ r.enc := by
  obtain ⟨h0, h4, _, _⟩ := (Rw.right_iff r).1 hr
  have e : (r.t % 256).toNat = r.t.toNat := by omega
  unfold Rw.enc
  rw [e, List.append_assoc, List.append_assoc, be_one]
  simp

set_option maxRecDepth 100000 in
set_option maxHeartbeats 8000000 in
theorem encode_any (v : Value) (l : List Rw) (w : World) (hv : SlR w v l) (hr : ∀ r ∈ l, r.right = true) (hl : l.length ≤ 60000) : Calls Try.prog 14 #[v] w fun e w' => ∃ v', e = .returned v' ∧ Own w' w.heap.size 5 v' ((portL l).map B) ∧ Keep w w' := by
  obtain ⟨la, lc, rfl, -, -⟩ := hv.form
  have HR := Lib.hid hr
  have HLE := Lib.hid (rowsL_le l hr)
  clear hr
  go_enter Try.func14, Try.ntmps14
  have kc := fun (w : World) (C : Array Value) (n c : Nat) => Lib.run_convert_bytes_const (P := Try.prog) w 26 5 C n c Try.underlying26 Try.underlying5
  go_wp2_with fail
  clear kc
  have hb0 : SlB (w.alloc (.cells #[.int .u8 84, .int .u8 78, .int .u8 77, .int .u8 49] 5 (4, 5))) (.slice (some ⟨w.heap.size, 0, none⟩) 4 4) magicL := Sl.of_block (heap_alloc_new w _) (magicL.map B) 4 4 rfl rfl (by decide) (Nat.le_refl _)
  have hk0 := Keep.alloc w (.cells #[.int .u8 84, .int .u8 78, .int .u8 77, .int .u8 49] 5 (4, 5))
  have hv0 := hv.keep hk0
  generalize w.alloc (.cells #[.int .u8 84, .int .u8 78, .int .u8 77, .int .u8 49] 5 (4, 5)) = w0 at *
  generalize w.heap.size = g0 at hb0 ⊢
  refine (put_at _ magicL 2 l.length _ _ w0 rfl (by go_num) hb0 (by omega) (by omega) (by decide)).mono ?_
  rintro e w1 ⟨v1, rfl, hO1, hk1⟩
  have hv1 := hv0.keep hk1
  have hw1 := hk0.trans' hk1
  have hb1 := hO1.slB
  clear hb0 hk0 hv0 hv hO1 hk1
  go_wp2
  go_loopw [3, 14] (fun b i wr => ∃ j : Nat, j ≤ l.length ∧ i = .int .i64 j ∧ SlB wr b ((magicL ++ Pk.be l.length 2) ++ rowsL (l.take j)) ∧ SlR wr (.slice la l.length lc) l ∧ Keep w wr) (fun _ i _ => l.length - (intOf i).toNat)
  case atStart => exact ⟨0, Nat.zero_le _, rfl, by simpa [rowsL] using hb1, hv1, hw1⟩
  case round =>
    obtain ⟨j, hj, rfl, hb, hv, hk⟩ := hrel
    clear hb1 hv1 hw1
    obtain ⟨ba, bn, bc, rfl⟩ := hb.shape
    by_cases hjn : j < l.length
    rotate_left
    · have hjl : j = l.length := by omega
      rw [hjl, List.take_length] at hb
      have hjd : ¬ ((j : Int) < (l.length : Int)) := by omega
      have hle := HLE.out
      clear hjl hjn
      go_wp2_with fail
      have hkA := Keep.alloc wr (.cells #[.slice ba bn bc] 26)
      have hbA := hb.keep hkA
      have hbb := one_part 26 (heap_alloc_new wr _) hbA
      have hkA' := hk.trans' hkA
      clear hb hk hv hkA
      generalize wr.alloc (.cells #[.slice ba bn bc] 26) = y1 at *
      generalize wr.heap.size = gy at *
      have hlen : ((magicL ++ Pk.be l.length 2) ++ rowsL l).length ≤ 10000000 := by
        simp only [List.length_append, Pk.be_length, magicL, List.length_cons, List.length_nil]
        omega
      have hbl : (magicL ++ Pk.be l.length 2) ++ rowsL l = bodyL l := by unfold bodyL; rw [List.append_assoc]
      rw [hbl] at hbA hbb hlen
      refine (of_any _ _ y1 hbb).mono ?_
      rintro e y2 ⟨rfl, rfl⟩
      have e1 : ([bodyL l] : List (List UInt8)).flatten = bodyL l := by simp
      rw [e1]
      have hc0 := cn_lo (Crc.sum (bodyL l))
      have hc1 := cn_hi (Crc.sum (bodyL l))
      have hcs : (Crc.sum (bodyL l)).toNat < 18446744073709551616 := by unfold cn at hc1; omega
      clear e1 hbb hbl
      generalize hX : Crc.sum (bodyL l) = X at *
      go_wp2_with fail
      refine (put_at _ (bodyL l) 4 X.toNat _ _ y1 rfl (by unfold cn; go_num) hbA (by omega) hcs (by omega)).mono ?_
      rintro e y3 ⟨v3, rfl, hO3, hk3⟩
      have e2 : bodyL l ++ Pk.be X.toNat 4 = portL l := by unfold portL crcL; rw [hX]
      rw [e2] at hO3
      obtain ⟨a3, n3, c3, rfl⟩ := hO3.slB.shape
      go_wp2
      go_ret
      exact ⟨_, rfl, hO3.mono hkA'.size, hkA'.trans' hk3⟩
    obtain ⟨b, off, rfl, x0, x1, x2⟩ := hv.elem j hjn
    have HT := Lib.hid (rowsL_take l j hjn)
    have hrr := HR.out l[j] (List.getElem_mem _)
    have hrr' := (Rw.right_iff _).1 hrr
    have hes := Lib.hid (enc_step l[j] hrr ((magicL ++ Pk.be l.length 2) ++ rowsL (l.take j)))
    have hln : ((magicL ++ Pk.be l.length 2) ++ rowsL (l.take j)).length ≤ 10000000 := by
      have h1 := rowsL_le (l.take j) fun r hr => HR.out r (List.mem_of_mem_take hr)
      have h2 : (l.take j).length ≤ 60000 := by rw [List.length_take]; omega
      simp only [List.length_append, Pk.be_length, magicL, List.length_cons, List.length_nil]
      omega
    generalize hLe : (magicL ++ Pk.be l.length 2) ++ rowsL (l.take j) = L at *
    have HLe := Lib.hid hLe
    clear hLe
    generalize l[j] = r at *
    have hjl : (j : Int) < (l.length : Int) := by omega
    go_upto_region 5 with (fail)
    have hA := RwAt.new wr r
    have hkA := Keep.alloc wr (.cells #[.int .i64 r.t, .string ⟨r.k.toArray⟩, .string ⟨r.v.toArray⟩] 32)
    have hbA := hb.keep hkA
    have hvA := hv.keep hkA
    have hwA := hk.trans' hkA
    clear x0 x1 x2 hb hv hk hkA
    generalize wr.alloc (.cells #[.int .i64 r.t, .string ⟨r.k.toArray⟩, .string ⟨r.v.toArray⟩] 32) = y1 at *
    generalize wr.heap.size = gy at *
    obtain ⟨r0, r4, rk, rv⟩ := hrr'
    have s1 := size_str r.k
    have s2 := size_str r.v
    refine wp_region_dag' (C := fun w' => Keep y1 w') (R := Keep) [none, none, some (tV (.int .i64 r.t)), none, some (tB (L ++ Pk.be r.t.toNat 1)), none, some (tV (.string ⟨r.k.toArray⟩)), some (tB ((L ++ Pk.be r.t.toNat 1) ++ UInt8.ofNat r.k.length :: r.k)), none, some (tV (.string ⟨r.v.toArray⟩)), some (tB (((L ++ Pk.be r.t.toNat 1) ++ UInt8.ofNat r.k.length :: r.k) ++ UInt8.ofNat r.v.length :: r.v)), none]
      (by kernel_rfl) (by kernel_rfl) (Keep.refl y1).drew ?_
    refine dagT_pure rfl ?_
    go_big_quiet_step (fail)
    refine dagT_on ?_
    refine dagT_pure rfl ?_
    go_big_quiet_step (fail)
    refine dagT_on ?_
    refine dagT_told (by kernel_rfl) ?_ ?_
    · intro w2 hC hF
      obtain ⟨c0, c1, c2⟩ := (hA.keep hC).cells
      exact Gives.value (v := .int .i64 r.t) (w' := w2) (by go_simp) ⟨hC, Keep.refl _, rfl⟩
    intro vv w2 hC hF hvv
    clear hC hF
    obtain rfl := hvv
    simp only [Act.put, List.setIfInBounds_toArray, List.set_cons_zero, List.set_cons_succ]
    refine dagT_pure rfl ?_
    go_big_quiet_step (fail)
    refine dagT_on ?_
    refine dagT_told (by kernel_rfl) ?_ ?_
    · intro w2 hC hF
      refine Gives.call (by go_simp) (put_at _ L 1 r.t.toNat 1 r.t w2 rfl (by omega) (hbA.keep hC) (by omega) (by omega) (by omega)) ?_
      rintro e w' ⟨v', rfl, hO, hk⟩
      exact ⟨_, rfl, hC.trans' hk, hk, hO.slB⟩
    intro b4 w2 hC hF hb4
    clear hC hF
    obtain ⟨ab4, nb4, cb4, rfl⟩ := SlB.shape hb4
    simp only [Act.put, List.setIfInBounds_toArray, List.set_cons_zero, List.set_cons_succ]
    refine dagT_pure rfl ?_
    go_big_quiet_step (fail)
    refine dagT_on ?_
    refine dagT_told (by kernel_rfl) ?_ ?_
    · intro w2 hC hF
      obtain ⟨c0, c1, c2⟩ := (hA.keep hC).cells
      exact Gives.value (v := .string ⟨r.k.toArray⟩) (w' := w2) (by go_simp) ⟨hC, Keep.refl _, rfl⟩
    intro vv w2 hC hF hvv
    clear hC hF
    obtain rfl := hvv
    simp only [Act.put, List.setIfInBounds_toArray, List.set_cons_zero, List.set_cons_succ]
    refine dagT_told (by kernel_rfl) ?_ ?_
    · intro w2 hC hF
      have ht := text_any _ (L ++ Pk.be r.t.toNat 1) r.k w2 ((hF 4 (by kernel_rfl)).2.1 rfl) (by omega) (by rw [List.length_append, Pk.be_length]; omega)
      unfold strV at ht
      refine Gives.call (by go_simp) (ht) ?_
      rintro e w' ⟨v', rfl, hO, hk⟩
      exact ⟨_, rfl, hC.trans' hk, hk, hO.slB⟩
    intro b7 w2 hC hF hb7
    clear hC hF
    obtain ⟨ab7, nb7, cb7, rfl⟩ := SlB.shape hb7
    simp only [Act.put, List.setIfInBounds_toArray, List.set_cons_zero, List.set_cons_succ]
    refine dagT_pure rfl ?_
    go_big_quiet_step (fail)
    refine dagT_on ?_
    refine dagT_told (by kernel_rfl) ?_ ?_
    · intro w2 hC hF
      obtain ⟨c0, c1, c2⟩ := (hA.keep hC).cells
      exact Gives.value (v := .string ⟨r.v.toArray⟩) (w' := w2) (by go_simp) ⟨hC, Keep.refl _, rfl⟩
    intro vv w2 hC hF hvv
    clear hC hF
    obtain rfl := hvv
    simp only [Act.put, List.setIfInBounds_toArray, List.set_cons_zero, List.set_cons_succ]
    refine dagT_told (by kernel_rfl) ?_ ?_
    · intro w2 hC hF
      have ht := text_any _ ((L ++ Pk.be r.t.toNat 1) ++ UInt8.ofNat r.k.length :: r.k) r.v w2 ((hF 7 (by kernel_rfl)).2.1 rfl) (by omega) (by simp only [List.length_append, List.length_cons, Pk.be_length]; omega)
      unfold strV at ht
      refine Gives.call (by go_simp) (ht) ?_
      rintro e w' ⟨v', rfl, hO, hk⟩
      exact ⟨_, rfl, hC.trans' hk, hk, hO.slB⟩
    intro b10 w2 hC hF hb10
    clear hC hF
    obtain ⟨ab10, nb10, cb10, rfl⟩ := SlB.shape hb10
    simp only [Act.put, List.setIfInBounds_toArray, List.set_cons_zero, List.set_cons_succ]
    refine dagT_pure rfl ?_
    go_big_quiet_step (fail)
    refine dagT_on ?_
    refine dagT_done fun w2 hC hF => ?_
    have hb9 := (hF 10).1 rfl
    have hb9' : SlB w2 (.slice ab10 nb10 cb10) (L ++ r.enc) := by rw [← hes.out]; exact hb9
    clear hF hb9
    go_wp2
    go_roundw
    case rel => exact ⟨j + 1, by omega, by go_num, by rw [HT.out, ← List.append_assoc, HLe.out]; exact hb9', hvA.keep hC, hwA.trans' hC⟩
    case measure => simp [intOf]; omega
end Go.Proofs.Ytllknflphgahfaa
