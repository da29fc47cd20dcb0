/- The walk of PortSizes. -/
import Derived.Test.YtllknflphgahfaaFit14
namespace Go.Proofs.Ytllknflphgahfaa
open Go Go.RowKit
attribute [local irreducible] Go.wpQuiet


set_option maxRecDepth 100000 in
set_option maxHeartbeats 8000000 in
theorem portSizes_any (v : Value) (l : List Rw) (w : World) (hL : SlR w v l) : Calls Try.prog 6 #[v] w fun e w' => e = .returned (.bool true) ∧ Keep w w' := by
  obtain ⟨la, lc, rfl, -, -⟩ := hL.form
  go_enter Try.func6, Try.ntmps6
  go_wp2_with fail
  refine (fit_any w).mono ?_
  rintro e w1 ⟨rfl, hk1⟩
  have hL1 := hL.keep hk1
  clear hL
  go_wp2_with fail
  refine (light_any _ l w1 hL1).mono ?_
  rintro e w2 ⟨b1, rfl, hb1, hk2⟩
  have hw2 := hk1.trans' hk2
  cases b1
  · go_wp2
    go_ret
    exact ⟨rfl, hw2⟩
  have H1 := Lib.hid (hb1 rfl)
  have hL2 := hL1.keep hk2
  clear hb1 hL1 hk1 hk2
  go_wp2_with fail
  refine (rising_any _ l w2 hL2 (by have := H1.out.1; omega)).mono ?_
  rintro e w3 ⟨v3, rfl, ls, hO3, hR3, h30, hk3⟩
  have hw3 := hw2.trans' hk3
  have hS3 := hO3.slr
  obtain ⟨a3, c3, rfl, -, -⟩ := hS3.form
  have HR := Lib.hid hR3
  clear hL2 hw2 hk3 hR3
  clear hO3
  have HLE := Lib.hid (rowsL_le ls HR.out.right)
  go_wp2
  go_loopw [3, 15] (fun n i wr => ∃ j : Nat, j ≤ ls.length ∧ i = .int .i64 j ∧ n = .int .i64 (10 + ((rowsL (ls.take j)).length : Int)) ∧ SlR wr (.slice a3 ls.length c3) ls ∧ Keep w wr) (fun _ i _ => ls.length - (intOf i).toNat)
  case atStart => exact ⟨0, Nat.zero_le _, rfl, by simp [rowsL], hS3, hw3⟩
  case round =>
    obtain ⟨j, hj, rfl, rfl, hS, hk⟩ := hrel
    clear hS3 hw3
    by_cases hjn : j < ls.length
    rotate_left
    · have hjd : ¬ ((j : Int) < (ls.length : Int)) := by omega
      have hjl : j = ls.length := by omega
      rw [hjl, List.take_length]
      clear hjn hjl
      go_wp2_with fail
      refine (encode_any _ ls wr hS HR.out.right (by omega)).mono ?_
      rintro e w5 ⟨v5, rfl, hO5, hk5⟩
      obtain ⟨a5, c5, rfl, -, -, -⟩ := hO5.slB.form
      have hw5 := hk.trans' hk5
      rw [portL_length]
      have hle := HLE.out
      clear hO5 hk5 hk hS
      go_wp2
      go_ret
      exact ⟨ret_bool (by first | rfl | (rw [beq_iff_eq]; omega)), hw5⟩
    obtain ⟨b, off, rfl, x0, x1, x2⟩ := hS.elem j hjn
    have HT := Lib.hid (rowsL_take ls j hjn)
    have hrr := (Rw.right_iff _).1 (HR.out.right ls[j] (List.getElem_mem _))
    have hle := rowsL_le (ls.take j) fun x hx => HR.out.right x (List.mem_of_mem_take hx)
    have hln : (rowsL (ls.take j)).length ≤ 39 * 30 := by rw [List.length_take] at hle; omega
    have hEL := Lib.hid (Rw.enc_length ls[j])
    clear hle
    generalize ls[j] = r at *
    obtain ⟨-, -, rk, rv⟩ := hrr
    have hjl : (j : Int) < (ls.length : Int) := by omega
    have s1 := size_str r.k
    have s2 := size_str r.v
    go_upto_region 10 with (fail)
    have hA := RwAt.new wr r
    have hkA := Keep.alloc wr (.cells #[.int .i64 r.t, .string ⟨r.k.toArray⟩, .string ⟨r.v.toArray⟩] 32)
    have hSA := hS.keep hkA
    have hwA := hk.trans' hkA
    clear x0 x1 x2 hS hk hkA
    generalize wr.alloc (.cells #[.int .i64 r.t, .string ⟨r.k.toArray⟩, .string ⟨r.v.toArray⟩] 32) = y1 at *
    generalize wr.heap.size = gy at *
    obtain ⟨e0, e1, e2⟩ := hA.cells
    go_wp2
    go_roundw
    case rel => exact ⟨j + 1, by omega, by go_num, by rw [HT.out, List.length_append, hEL.out]; congr 1; omega, hSA, hwA⟩
    case measure => simp [intOf]; omega
end Go.Proofs.Ytllknflphgahfaa
