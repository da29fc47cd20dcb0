/- The walk of the script law's example. -/
import Derived.Test.YtndndklaaegifaaScr
import Derived.Test.YtndndklaaegifaaReqDec
namespace Go.Proofs.Ytndndklaaegifaa
open Go Go.RowKit
attribute [local irreducible] Go.wpQuiet

/-- one request, just laid -/
theorem SlQin.laid (w : World) (S : Nat → Prop) (q : Rq) (da : Option Addr) (dn dc : Nat) (hd : SlB w (.slice da dn dc) q.data) (hS : S w.heap.size) (hdS : q.data ≠ [] → In S (.slice da dn dc)) :
    SlQin (w.alloc (.cells (q.cells (.slice da dn dc)).toArray 34)) S (.slice (some ⟨w.heap.size, 0, none⟩) 1 1) [q] := by
  refine ⟨[q.cells (.slice da dn dc)], SlC.laid _ _ 10 _ rfl, fun _ a n c e => ?_, rfl, fun i hi hi' => ?_⟩
  · simp only [Value.slice.injEq, Option.some.injEq] at e
    rw [← e.1]
    exact hS
  · have hi0 : i = 0 := by simp at hi; omega
    subst hi0
    exact ⟨_, rfl, hd.keep (Keep.alloc _ _), hdS⟩
def q37 : Rq := ⟨3, 0, 7, 0, [], [], [], 0, 0, []⟩
theorem q37_fits : q37.Fits := ⟨by decide, by decide, by decide, by decide, by decide, by decide, by decide, by decide, by decide, by decide⟩
theorem dec_five : decL [5] = [badQ] := decL_short [5] (by decide) (by decide)
theorem dec_37 : decL (encL [q37]) = [q37] := decL_of_encL [q37] (by
  intro q hq
  rw [List.mem_singleton.1 hq]
  exact q37_fits)
theorem enc_37 : (encL [q37]).length = 25 := by decide

set_option maxRecDepth 100000 in
set_option maxHeartbeats 4000000 in
theorem fit_any (w : World) : Calls Try.prog 8 #[] w fun e w' => e = .returned (.bool true) ∧ Keep w w' := by
  have H37 := Lib.hid dec_37
  have HE37 := Lib.hid enc_37
  have HF37 := Lib.hid q37_fits
  go_enter Try.func8, Try.ntmps8
  go_wp2_with fail
  have h5 : SlB (w.alloc (.cells #[.int .u8 5] 5)) (.slice (some ⟨w.heap.size, 0, none⟩) 1 1) [5] := Sl.laid w #[.int .u8 5] _ _ ([5].map B) 1 1 rfl rfl (by decide) (Nat.le_refl _)
  have hk0 := Keep.alloc w (.cells #[.int .u8 5] 5)
  generalize w.alloc (.cells #[.int .u8 5] 5) = w0 at *
  refine (decode_any _ [5] w0 h5 (by decide)).mono ?_
  rintro e w1 ⟨v1, rfl, hq1, hk1⟩
  rw [dec_five] at hq1
  obtain ⟨a1, c1, rfl, -, -⟩ := hq1.form
  have hw1 := hk0.trans' hk1
  clear h5 hk0 hk1
  go_wp2_with fail
  have hg2 := heap_alloc_new w1 (.cells #[.slice none 0 0] 28)
  have hk2 := Keep.alloc w1 (.cells #[.slice none 0 0] 28)
  have hs2 : (w1.alloc (.cells #[.slice none 0 0] 28)).heap.size = w1.heap.size + 1 := by simp
  generalize w1.alloc (.cells #[.slice none 0 0] 28) = w2 at *
  have hq3 := SlQin.laid w2 (fun b => b ≠ w1.heap.size ∧ (Value.slice none 0 0).ownBlock ≠ some b ∧ b < (w2.alloc (.cells #[.int .i64 3, .int .i64 0, .int .i64 7, .int .i64 0, .string ⟨[].toArray⟩, .string ⟨[].toArray⟩, .string ⟨[].toArray⟩, .int .i64 0, .int .u64 0, .slice none 0 0] 34)).heap.size) q37 none 0 0 (SlB.nil w2) ⟨by omega, by simp [Value.ownBlock], by simp⟩ (fun h => absurd rfl h)
  have hk3 := Keep.alloc w2 (.cells #[.int .i64 3, .int .i64 0, .int .i64 7, .int .i64 0, .string ⟨[].toArray⟩, .string ⟨[].toArray⟩, .string ⟨[].toArray⟩, .int .i64 0, .int .u64 0, .slice none 0 0] 34)
  have hg3 := (hk3.block _ (Array.getElem?_eq_some_iff.1 hg2).1).trans hg2
  replace hq3 : SlQin (w2.alloc (.cells #[.int .i64 3, .int .i64 0, .int .i64 7, .int .i64 0, .string ⟨[].toArray⟩, .string ⟨[].toArray⟩, .string ⟨[].toArray⟩, .int .i64 0, .int .u64 0, .slice none 0 0] 34)) (fun b => b ≠ w1.heap.size ∧ (Value.slice none 0 0).ownBlock ≠ some b ∧ b < (w2.alloc (.cells #[.int .i64 3, .int .i64 0, .int .i64 7, .int .i64 0, .string ⟨[].toArray⟩, .string ⟨[].toArray⟩, .string ⟨[].toArray⟩, .int .i64 0, .int .u64 0, .slice none 0 0] 34)).heap.size) (.slice (some ⟨w2.heap.size, 0, none⟩) 1 1) [q37] := hq3
  rw [hs2] at hq3
  have hw13 := hk2.trans' hk3
  have hsz3 : w1.heap.size + 1 ≤ (w2.alloc (.cells #[.int .i64 3, .int .i64 0, .int .i64 7, .int .i64 0, .string ⟨[].toArray⟩, .string ⟨[].toArray⟩, .string ⟨[].toArray⟩, .int .i64 0, .int .u64 0, .slice none 0 0] 34)).heap.size := by have := hk3.size; omega
  generalize w2.alloc (.cells #[.int .i64 3, .int .i64 0, .int .i64 7, .int .i64 0, .string ⟨[].toArray⟩, .string ⟨[].toArray⟩, .string ⟨[].toArray⟩, .int .i64 0, .int .u64 0, .slice none 0 0] 34) = w3 at *
  clear hg2 hk2 hk3 hs2
  refine (add_any w1.heap.size (w1.heap.size + 1) _ (.slice none 0 0) [q37] [] w3 hg3 (Own.nil _ _ _) (Nat.lt_succ_self _) hsz3 hq3 (by intro q hq; rw [List.mem_singleton.1 hq]; exact HF37.out) (by rw [HE37.out]; decide)).mono ?_
  rintro e w4 ⟨rfl, sv, hg4, hO4, -, hb4⟩
  have hk14 : Keep w1 w4 := hw13.trans (hb4.below w1.heap.size (by omega) (fun b h => by
    rcases h with h | h
    · omega
    · cases h))
  rw [List.nil_append] at hO4
  clear hg3 hq3 hsz3 hw13 hb4
  generalize hgs : w1.heap.size = gs at *
  go_wp2_with fail
  refine (bytes_any gs sv (encL [q37]) w4 hg4 hO4.slB (by rw [HE37.out]; decide)).mono ?_
  rintro e w5 ⟨bv, rfl, hO5, hk5⟩
  obtain ⟨ba, bn, bc, rfl⟩ := hO5.slB.shape
  have hb5 := hO5.slB
  clear hO4 hg4 hO5
  go_wp2_with fail
  refine (decode_any _ (encL [q37]) w5 hb5 (by rw [HE37.out]; decide)).mono ?_
  rintro e w6 ⟨v6, rfl, hq6, hk6⟩
  rw [H37.out] at hq6
  obtain ⟨a6, c6, rfl, -, -⟩ := hq6.form
  have hk16 := (hk14.trans' hk5).trans' hk6
  have hq1' := hq1.keep hk16
  have hw6 := hw1.trans' hk16
  clear hq1 hb5 hk5 hk6 hk14 hk16 hw1
  obtain ⟨b1, o1, rfl, dv1, -, hc1⟩ := hq1'.elem 0 (by simp)
  obtain ⟨b6, o6, rfl, dv6, -, hc6⟩ := hq6.elem 0 (by simp)
  have x0 := hc1 0 _ rfl
  have y0 := hc6 0 _ rfl
  have y2 := hc6 2 _ rfl
  simp only [List.getElem_cons_zero, badQ, q37, Nat.zero_mul, Nat.add_zero] at x0 y0 y2
  clear hc1 hc6 hq1' hq6
  go_wp2
  go_ret
  exact ⟨rfl, hw6⟩
end Go.Proofs.Ytndndklaaegifaa
