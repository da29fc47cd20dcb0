/- The walk of the row law's example, and of its small words. -/
import Derived.Test.YthgapchfhhcodaaDecode
namespace Go.Proofs.Ythgapchfhhcodaa
open Go.RowKit
attribute [local irreducible] Go.wpQuiet

set_option maxHeartbeats 1000000 in
theorem fit_any (w : World) :
    Calls Try.prog 9 #[] w fun e w' => e = .returned (.bool true) ∧ Keep w w' := by
  go_enter Try.func9, Try.ntmps9
  have hmk : (Instr.makeSlice 26 (.int .i64 40) (.int .i64 40)).run Try.prog w = .ok (.slice (some ⟨w.heap.size, 0, none⟩) 40 40) (w.alloc (.cells ((zB 40).map B).toArray 5)) := run_makeB (P := Try.prog) elemB w 40 (by omega)
  have hk0 : Keep w (w.alloc (.cells ((zB 40).map B).toArray 5)) := Keep.alloc _ _
  go_wp2_with fail
  refine (decode_any _ (zB 40) _ (Own.made w _ 0 40 (Nat.zero_le _) (by omega)).slB).mono ?_
  rintro e w1 ⟨rfl, hk⟩
  rw [show Rw.dec (zB 40) = (Rw.zero, 5) by unfold Rw.dec; rw [if_neg (by decide), if_pos rfl]]
  unfold Rw.val Rw.zero strV
  clear hmk
  go_wp2_with fail
  refine (right_any Rw.zero _).mono ?_
  rintro e w2 ⟨rfl, hk2⟩
  rw [show Rw.zero.right = true by decide]
  go_wp2
  go_ret
  exact ⟨rfl, (hk0.trans' hk).trans' ((Keep.alloc _ _).trans' hk2)⟩

set_option maxHeartbeats 1000000 in
theorem light_any (r : Rw) (w : World) :
    Calls Try.prog 10 #[r.val] w fun e w' => (∃ b, e = .returned (.bool b)) ∧ Keep w w' := by
  have hs1 := size_str r.k
  have hs2 := size_str r.v
  unfold Rw.val strV
  obtain ⟨t, k, v⟩ := r
  simp only at *
  go_enter Try.func10, Try.ntmps10
  go_wp2
  all_goals (go_ret; exact ⟨⟨_, rfl⟩, Keep.alloc _ _⟩)

set_option maxHeartbeats 1000000 in
theorem right_law_any (r : Rw) (w : World) :
    Calls Try.prog 12 #[r.val] w fun e w' => e = .returned (.bool r.right) ∧ Keep w w' := by
  have hs1 := size_str r.k
  have hs2 := size_str r.v
  have hR : r.right = (decide (0 ≤ r.t) && decide (r.t < 4) && decide (r.k.length ≤ 15) && decide (r.v.length ≤ 21)) := rfl
  unfold Rw.val strV
  rw [hR]
  clear hR
  obtain ⟨t, k, v⟩ := r
  simp only at *
  go_enter Try.func12, Try.ntmps12
  go_wp2
  all_goals (go_ret; exact ⟨ret_bool (Bool.eq_iff_iff.2 (by simp; omega)), Keep.alloc _ _⟩)

def Rw.less (a b : Rw) : Bool := decide (a.t < b.t) || (a.t == b.t && Op.bytesLess a.k b.k)
theorem less_any (a b : Rw) (w : World) : Calls Try.prog 15 #[a.val, b.val] w fun e w' => e = .returned (.bool (a.less b)) ∧ Keep w w' := by
  unfold Rw.val strV Rw.less
  obtain ⟨t, k, v⟩ := a
  obtain ⟨t2, k2, v2⟩ := b
  simp only at *
  go_enter Try.func15, Try.ntmps15
  go_wp2
  all_goals (go_ret; exact ⟨ret_bool (by first | (simp [*]; done) | (simp; omega)), (Keep.alloc _ _).trans' (Keep.alloc _ _)⟩)

theorem bytesLess_irrefl (k : List UInt8) : Op.bytesLess k k = false := by
  induction k with
  | nil => rfl
  | cons a k ih => simp [Op.bytesLess, ih]
theorem bytesLess_asymm : ∀ (k l : List UInt8), Op.bytesLess k l = true → Op.bytesLess l k = false
  | [], [], h => by simp [Op.bytesLess] at h
  | [], _ :: _, _ => by simp [Op.bytesLess]
  | _ :: _, [], h => by simp [Op.bytesLess] at h
  | a :: k, b :: l, h => by
    simp only [Op.bytesLess, Bool.or_eq_true, Bool.and_eq_true, decide_eq_true_eq, beq_iff_eq] at h
    simp only [Op.bytesLess, Bool.or_eq_false_iff, Bool.and_eq_false_iff, decide_eq_false_iff_not, beq_eq_false_iff_ne]
    rcases h with h | ⟨h1, h2⟩
    · exact ⟨fun h' => absurd (UInt8.lt_trans h h') (UInt8.lt_irrefl _), .inl fun e => by subst e; exact absurd h (UInt8.lt_irrefl _)⟩
    · exact ⟨fun h' => by subst h1; exact absurd h' (UInt8.lt_irrefl _), .inr (bytesLess_asymm k l h2)⟩

theorem Rw.less_irrefl (a : Rw) : a.less a = false := by
  simp [Rw.less, bytesLess_irrefl]
theorem Rw.less_asymm (a b : Rw) (h : a.less b = true) : b.less a = false := by
  simp only [Rw.less, Bool.or_eq_true, Bool.and_eq_true, decide_eq_true_eq, beq_iff_eq] at h
  simp only [Rw.less, Bool.or_eq_false_iff, Bool.and_eq_false_iff, decide_eq_false_iff_not, beq_eq_false_iff_ne]
  rcases h with h | ⟨h1, h2⟩
  · exact ⟨by omega, .inl (by omega)⟩
  · exact ⟨by omega, .inr (bytesLess_asymm _ _ h2)⟩
/-- at block g there stands a row's cells -/
def RwAt (w : World) (g : Nat) (r : Rw) : Prop :=
  w.cell? ⟨g, 0, none⟩ = some (.int .i64 r.t) ∧ w.cell? ⟨g, 1, none⟩ = some (.string ⟨r.k.toArray⟩) ∧ w.cell? ⟨g, 2, none⟩ = some (.string ⟨r.v.toArray⟩)
theorem RwAt.keep {w w' : World} {g : Nat} {r : Rw} (hk : Keep w w') (h : RwAt w g r) : RwAt w' g r :=
  ⟨(hk.cell (World.block_lt_of_cell? w _ h.1)).trans h.1, (hk.cell (World.block_lt_of_cell? w _ h.2.1)).trans h.2.1, (hk.cell (World.block_lt_of_cell? w _ h.2.2)).trans h.2.2⟩
theorem RwAt.laid (w : World) (r : Rw) : RwAt (w.alloc (.cells #[.int .i64 r.t, .string ⟨r.k.toArray⟩, .string ⟨r.v.toArray⟩] 23)) w.heap.size r := by
  have h := heap_alloc_new w (.cells #[.int .i64 r.t, .string ⟨r.k.toArray⟩, .string ⟨r.v.toArray⟩] 23)
  refine ⟨?_, ?_, ?_⟩ <;> (rw [cell_of_row _ _ _ _ _ _ h]; rfl)
theorem RwAt.two (w : World) (a b : Rw) : ∃ w0, w0 = (w.alloc (.cells #[.int .i64 a.t, .string ⟨a.k.toArray⟩, .string ⟨a.v.toArray⟩] 23)).alloc (.cells #[.int .i64 b.t, .string ⟨b.k.toArray⟩, .string ⟨b.v.toArray⟩] 23) ∧
    Keep w w0 ∧ RwAt w0 w.heap.size a ∧ RwAt w0 (w.heap.size + 1) b := by
  refine ⟨_, rfl, (Keep.alloc _ _).trans' (Keep.alloc _ _), (RwAt.laid w a).keep (Keep.alloc _ _), ?_⟩
  have h := RwAt.laid (w.alloc (.cells #[.int .i64 a.t, .string ⟨a.k.toArray⟩, .string ⟨a.v.toArray⟩] 23)) b
  simpa using h
end Go.Proofs.Ythgapchfhhcodaa
