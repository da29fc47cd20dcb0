/- The walk of ScriptNone. -/
import Derived.Test.YtndndklaaegifaaFit18
import Derived.Test.YtndndklaaegifaaSameQ
namespace Go.Proofs.Ytndndklaaegifaa
open Go Go.RowKit
attribute [local irreducible] Go.wpQuiet

set_option maxRecDepth 100000 in
set_option maxHeartbeats 4000000 in
theorem scriptNone_any (v : Value) (l : List UInt8) (w : World) (hv : SlB w v l) : Calls Try.prog 7 #[v] w fun e w' => e = .returned (.bool true) ∧ Keep w w' := by
  obtain ⟨a, c, rfl, hm, hc, -⟩ := hv.form
  unfold maxLen at hm
  go_enter Try.func7, Try.ntmps7
  go_wp2_with fail
  refine (fit_any w).mono ?_
  rintro e w1 ⟨rfl, hk1⟩
  have hv1 := hv.keep hk1
  clear hv
  by_cases h24 : 24 < l.length
  · have hv2 := hv1.first 24 (by omega)
    have h24l : (l.take 24).length = 24 := by rw [List.length_take]; omega
    have hif : ((24 : Int) < (l.length : Int)) := by omega
    have hlL : (l.take 24).length ≤ 24 := by rw [List.length_take]; omega
    have hll : ((l.take 24).length = 0 ∧ decL (l.take 24) = []) ∨ (0 < (l.take 24).length ∧ decL (l.take 24) = [badQ]) := by
      by_cases h : (l.take 24).length = 0
      · exact .inl ⟨h, by rw [List.eq_nil_of_length_eq_zero h]; rfl⟩
      · exact .inr ⟨by omega, decL_short _ (by omega) (by omega)⟩
    have HLL := Lib.hid hll
    clear hll
    go_wp2_with fail
    refine (decode_any _ (l.take 24) w1 hv2 (by omega)).mono ?_
    rintro e w2 ⟨v2, rfl, hq2, hk2⟩
    have hw2 := hk1.trans' hk2
    rcases HLL.out with ⟨h0, hd⟩ | ⟨h0, hd⟩
    · rw [hd] at hq2
      obtain ⟨a2, c2, rfl, -, -⟩ := hq2.form
      omega
    · rw [hd] at hq2
      obtain ⟨a2, c2, rfl, -, -⟩ := hq2.form
      have SM := Lib.hid (fun (bv : Value) (w : World) h1 h2 => same_any (.slice a2 [badQ].length c2) bv [badQ] [badQ] w h1 h2)
      clear HLL h0 hd
      go_wp2_with fail
      have hk3 := Keep.alloc w2 (.cells #[.int .i64 (-1), .int .i64 0, .int .i64 0, .int .i64 0, .string ⟨[].toArray⟩, .string ⟨[].toArray⟩, .string ⟨[].toArray⟩, .int .i64 0, .int .u64 0, .slice none 0 0] 34)
      have hq3 : SlQ (w2.alloc (.cells #[.int .i64 (-1), .int .i64 0, .int .i64 0, .int .i64 0, .string ⟨[].toArray⟩, .string ⟨[].toArray⟩, .string ⟨[].toArray⟩, .int .i64 0, .int .u64 0, .slice none 0 0] 34)) (.slice (some ⟨w2.heap.size, 0, none⟩) 1 1) [badQ] := (SlQin.laid w2 (fun _ => True) badQ none 0 0 (SlB.nil w2) trivial (fun h => absurd rfl h)).slq
      refine (SM.out _ _ (hq2.keep hk3) hq3).mono ?_
      rintro e w4 ⟨rfl, hk4⟩
      go_wp2
      go_ret
      exact ⟨ret_bool (by simp), (hw2.trans' hk3).trans' hk4⟩
  · have hv2 := hv1
    have hif : ¬ ((24 : Int) < (l.length : Int)) := by omega
    have hlL : (l).length ≤ 24 := by omega
    have hll : ((l).length = 0 ∧ decL (l) = []) ∨ (0 < (l).length ∧ decL (l) = [badQ]) := by
      by_cases h : (l).length = 0
      · exact .inl ⟨h, by rw [List.eq_nil_of_length_eq_zero h]; rfl⟩
      · exact .inr ⟨by omega, decL_short _ (by omega) (by omega)⟩
    have HLL := Lib.hid hll
    clear hll
    go_wp2_with fail
    refine (decode_any _ (l) w1 hv2 (by omega)).mono ?_
    rintro e w2 ⟨v2, rfl, hq2, hk2⟩
    have hw2 := hk1.trans' hk2
    rcases HLL.out with ⟨h0, hd⟩ | ⟨h0, hd⟩
    · rw [hd] at hq2
      obtain ⟨a2, c2, rfl, -, -⟩ := hq2.form
      have t5 : ((l.length : Int) == 0) = true := by rw [beq_iff_eq]; omega
      go_wp2
      go_ret
      exact ⟨rfl, hw2⟩
    · rw [hd] at hq2
      obtain ⟨a2, c2, rfl, -, -⟩ := hq2.form
      have t5 : ((l.length : Int) == 0) = false := by rw [beq_eq_false_iff_ne]; omega
      have SM := Lib.hid (fun (bv : Value) (w : World) h1 h2 => same_any (.slice a2 [badQ].length c2) bv [badQ] [badQ] w h1 h2)
      clear HLL h0 hd
      go_wp2_with fail
      have hk3 := Keep.alloc w2 (.cells #[.int .i64 (-1), .int .i64 0, .int .i64 0, .int .i64 0, .string ⟨[].toArray⟩, .string ⟨[].toArray⟩, .string ⟨[].toArray⟩, .int .i64 0, .int .u64 0, .slice none 0 0] 34)
      have hq3 : SlQ (w2.alloc (.cells #[.int .i64 (-1), .int .i64 0, .int .i64 0, .int .i64 0, .string ⟨[].toArray⟩, .string ⟨[].toArray⟩, .string ⟨[].toArray⟩, .int .i64 0, .int .u64 0, .slice none 0 0] 34)) (.slice (some ⟨w2.heap.size, 0, none⟩) 1 1) [badQ] := (SlQin.laid w2 (fun _ => True) badQ none 0 0 (SlB.nil w2) trivial (fun h => absurd rfl h)).slq
      refine (SM.out _ _ (hq2.keep hk3) hq3).mono ?_
      rintro e w4 ⟨rfl, hk4⟩
      go_wp2
      go_ret
      exact ⟨ret_bool (by simp), (hw2.trans' hk3).trans' hk4⟩
end Go.Proofs.Ytndndklaaegifaa
