/- The walk of PortAny. -/
import Derived.Test.YtllknflphgahfaaPortT
import Derived.Test.YtllknflphgahfaaRefRows
namespace Go.Proofs.Ytllknflphgahfaa
open Go Go.RowKit
attribute [local irreducible] Go.wpQuiet


set_option maxRecDepth 100000 in
set_option maxHeartbeats 8000000 in
theorem portAny_any (v : Value) (l : List Rw) (at_ : Int) (x : UInt8) (w : World) (hL : SlR w v l) : Calls Try.prog 4 #[v, .int .i64 at_, .int .u8 (x.toNat : Int)] w fun e w' => e = .returned (.bool true) ∧ Keep w w' := by
  obtain ⟨la, lc, rfl, -, -⟩ := hL.form
  go_enter Try.func4, Try.ntmps4
  go_wp2_with fail
  refine (fit_any w).mono ?_
  rintro e w1 ⟨rfl, hk1⟩
  have hL1 := hL.keep hk1
  clear hL
  go_wp2_with fail
  refine (light_any _ l w1 hL1).mono ?_
  rintro e w2 ⟨b1, rfl, hb1, hk2⟩
  have hw2 := hk1.trans' hk2
  cases b1
  · go_wp2
    go_ret
    exact ⟨rfl, hw2⟩
  have H1 := Lib.hid (hb1 rfl)
  have hL2 := hL1.keep hk2
  clear hb1 hL1 hk1 hk2
  go_wp2_with fail
  refine (rising_any _ l w2 hL2 (by have := H1.out.1; omega)).mono ?_
  rintro e w3 ⟨v3, rfl, ls, hO3, hR3, h30, hk3⟩
  have hw3 := hw2.trans' hk3
  have hS3 := hO3.slr
  obtain ⟨a3, c3, rfl, -, -⟩ := hS3.form
  have HR := Lib.hid hR3
  clear hL2 hw2 hk3 hR3
  go_wp2_with fail
  refine (encode_any _ ls w3 hS3 HR.out.right (by omega)).mono ?_
  rintro e w4 ⟨v4, rfl, hO4, hk4⟩
  have hw4 := hw3.trans' hk4
  have hnw := hw3.size
  have hle := portL_le ls HR.out h30
  have h10 : 10 ≤ (portL ls).length := by rw [portL_length]; omega
  have HSH := Lib.hid (dec_short ls HR.out (by omega) ((portL ls).length - 1) (by omega))
  have HD := Lib.hid (portDec_ris ls HR.out h30)
  clear hO3 hS3 hw3 hk4
  obtain ⟨g4, cap4, rfl, hg4, -⟩ := hO4.head (by rw [List.length_map]; omega)
  rw [List.length_map] at hO4 ⊢
  generalize hLL : portL ls = L at *
  have HL := Lib.hid hLL
  clear hLL
  have t10 : ¬ ((L.length : Int) < 10) := by omega
  have hl1 : (L.length : Int) - 1 = ((L.length - 1 : Nat) : Int) := by omega
  have hcc : L.length ≤ cap4 := by
    obtain ⟨a', c', e', -, hc', -⟩ := hO4.slB.form
    simp only [Value.slice.injEq] at e'
    omega
  have hfi := hO4.slB.first (L.length - 1) (by omega)
  go_wp2_with fail
  refine (decode_any _ (L.take (L.length - 1)) w4 hfi (by rw [List.length_take]; omega)).mono ?_
  rintro e w5 ⟨v5, rfl, -, hk5⟩
  rw [HSH.out]
  have hO5 := hO4.keep hk5
  have hw5 := hw4.trans' hk5
  clear hO4 hfi hw4 hk5 hl1
  simp only
  obtain ⟨k, hkn, hke⟩ := idx_at at_ L.length (by omega) (by omega)
  have x0 := hO5.cellOf k (by rw [List.length_map]; exact hkn)
  rw [List.getElem_map] at x0
  have f0 := hO5.freeOf k
  have hS := hO5.stored k (B x)
  rw [← List.map_set] at hS
  have hS' := hS.slB
  have t9 : ((L.length : Int) == 0) = false := by rw [beq_eq_false_iff_ne]; omega
  have hk1 : (k : Int) < (L.length : Int) := by omega
  unfold B at x0 hS'
  have hw6 : Keep w (w5.setCell ⟨g4, k, none⟩ (.int .u8 (x.toNat : Int))) := Keep.setCell hw5 (by simp only; omega) _
  go_upto_region 10 with (fail)
  clear hS hO5 x0 f0 hw5 hke t9
  generalize w5.setCell ⟨g4, k, none⟩ (.int .u8 (x.toNat : Int)) = w6 at *
  have hll : (L.set k x).length = L.length := List.length_set
  generalize L.set k x = LX at *
  have HLL := Lib.hid hll
  clear hll
  go_wp2_with fail
  refine (decode_any _ LX w6 hS' (by have := HLL.out; omega)).mono ?_
  rintro e w7 ⟨v7, rfl, hS7, hk7⟩
  have hS8 := hS'.keep hk7
  have hw7 := hw6.trans' hk7
  obtain ⟨a7, c7, rfl, -, -⟩ := hS7.form
  clear hS' hw6 hS7 hk7
  go_wp2_with fail
  refine (refrows_any _ LX w7 hS8 (by have := HLL.out; omega)).mono ?_
  rintro e w8 ⟨v8, rfl, hS9, hk8⟩
  have hw8 := hw7.trans' hk8
  obtain ⟨a9, c9, rfl, -, -⟩ := hS9.form
  clear hS8 hw7 hS9 hk8
  generalize portDec LX = P at *
  obtain ⟨G, z⟩ := P
  simp only
  go_wp2
  go_ret
  exact ⟨by first | rfl | simp, hw8⟩
end Go.Proofs.Ytllknflphgahfaa
