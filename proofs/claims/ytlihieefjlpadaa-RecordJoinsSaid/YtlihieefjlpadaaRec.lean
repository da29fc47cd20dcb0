/- Records in memory; which may be. -/
import Derived.Test.YtlihieefjlpadaaRecL
import Derived.Test.YtlihieefjlpadaaReader2
import Derived.Test.YtlihieefjlpadaaTell
import Derived.Test.YtlihieefjlpadaaCopy
namespace Go.Proofs.Ytlihieefjlpadaa
open Go Go.RowKit
attribute [local irreducible] Go.wpQuiet

/-- a number of eight bytes as a cell -/
def U (x : Nat) : Value := .int .u64 (x : Int)
def SlU (w : World) (v : Value) (l : List Nat) : Prop := Sl w v (l.map U)
theorem SlU.keep {w w' : World} (hk : Keep w w') {v : Value} {l : List Nat} (h : SlU w v l) : SlU w' v l := Sl.keep hk h

def Rc.vals (r : Rc) (dv : Value) : List Value := [.int .i64 r.kind, .int .i64 r.txn, .int .i64 r.page, .int .i64 r.slot, .string ⟨r.before.toArray⟩, .string ⟨r.after.toArray⟩, .string ⟨r.image.toArray⟩, dv]
def Rc.val (r : Rc) (dv : Value) : Value := .agg #[.int .i64 r.kind, .int .i64 r.txn, .int .i64 r.page, .int .i64 r.slot, .string ⟨r.before.toArray⟩, .string ⟨r.after.toArray⟩, .string ⟨r.image.toArray⟩, dv]
/-- at block g there stands a record's cells -/
def RcAt (w : World) (g : Nat) (r : Rc) (dv : Value) : Prop := w.heap[g]? = some (.cells #[.int .i64 r.kind, .int .i64 r.txn, .int .i64 r.page, .int .i64 r.slot, .string ⟨r.before.toArray⟩, .string ⟨r.after.toArray⟩, .string ⟨r.image.toArray⟩, dv] 24)
theorem RcAt.keep {w w' : World} {g : Nat} {r : Rc} {dv : Value} (hk : Keep w w') (h : RcAt w g r dv) : RcAt w' g r dv := (hk.block g (Array.getElem?_eq_some_iff.1 h).1).trans h
theorem RcAt.laid (w : World) (r : Rc) (dv : Value) : RcAt (w.alloc (.cells #[.int .i64 r.kind, .int .i64 r.txn, .int .i64 r.page, .int .i64 r.slot, .string ⟨r.before.toArray⟩, .string ⟨r.after.toArray⟩, .string ⟨r.image.toArray⟩, dv] 24)) w.heap.size r dv := heap_alloc_new _ _
theorem RcAt.cells {w : World} {g : Nat} {r : Rc} {dv : Value} (h : RcAt w g r dv) : w.cell? ⟨g, 0, none⟩ = some (.int .i64 r.kind) ∧ w.cell? ⟨g, 1, none⟩ = some (.int .i64 r.txn) ∧ w.cell? ⟨g, 2, none⟩ = some (.int .i64 r.page) ∧ w.cell? ⟨g, 3, none⟩ = some (.int .i64 r.slot) ∧
    w.cell? ⟨g, 4, none⟩ = some (.string ⟨r.before.toArray⟩) ∧ w.cell? ⟨g, 5, none⟩ = some (.string ⟨r.after.toArray⟩) ∧ w.cell? ⟨g, 6, none⟩ = some (.string ⟨r.image.toArray⟩) ∧ w.cell? ⟨g, 7, none⟩ = some dv := by
  unfold RcAt at h
  unfold World.cell?
  simp [h]

theorem SlU.form {w : World} {v : Value} {l : List Nat} (h : SlU w v l) : ∃ ao cap, v = .slice ao l.length cap ∧ l.length ≤ maxLen ∧ l.length ≤ cap ∧
    ∀ i (h : i < l.length), ∃ b off, ao = some ⟨b, off, none⟩ ∧ w.cell? ⟨b, off + i, none⟩ = some (.int .u64 (l[i] : Int)) := by
  obtain ⟨ao, cap, hv, hm, hcap, hc⟩ := h
  simp only [List.length_map] at hv hm hcap hc
  refine ⟨ao, cap, hv, hm, hcap.1, fun i hi => ?_⟩
  obtain ⟨b, off, ha, hcell⟩ := hc i hi
  exact ⟨b, off, ha, by rw [hcell]; simp [U]⟩

set_option maxHeartbeats 1000000 in
theorem cell_any (s : List UInt8) (w : World) : Calls Try.prog 19 #[.string ⟨s.toArray⟩] w fun e w' => e = .returned (.bool (half s)) ∧ w = w' := by
  have hs := size_str s
  have hh : half s = (s.length == 0 || s.length == 40) := rfl
  rw [hh]
  clear hh
  go_enter Try.func19, Try.ntmps19
  cases s with
  | nil =>
    go_wp2
    go_ret
    exact ⟨rfl, rfl⟩
  | cons c t =>
    by_cases h : (c :: t).length = 40
    · have t1 : (((c :: t).length : Int) == 40) = true := by rw [beq_iff_eq]; omega
      rw [show ((c :: t).length == 40) = true by rw [beq_iff_eq]; exact h]
      go_wp2
      go_ret
      exact ⟨ret_bool (by simp), rfl⟩
    · have t1 : (((c :: t).length : Int) == 40) = false := by rw [beq_eq_false_iff_ne]; omega
      rw [show ((c :: t).length == 40) = false by rw [beq_eq_false_iff_ne]; exact h]
      go_wp2
      go_ret
      exact ⟨ret_bool (by simp; simp at h; omega), rfl⟩
theorem half_iff (s : List UInt8) : half s = true ↔ s.length = 0 ∨ s.length = 40 := by
  unfold half
  simp only [Bool.or_eq_true, beq_iff_eq]

set_option maxRecDepth 100000 in
set_option maxHeartbeats 4000000 in
theorem right_any (r : Rc) (dv : Value) (w : World) (hd : SlU w dv r.dirty) : Calls Try.prog 12 #[r.val dv] w fun e w' => e = .returned (.bool r.right) ∧ Keep w w' := by
  have hR := r.right_iff
  have hA := RcAt.laid w r dv
  have hk0 := Keep.alloc w (.cells #[.int .i64 r.kind, .int .i64 r.txn, .int .i64 r.page, .int .i64 r.slot, .string ⟨r.before.toArray⟩, .string ⟨r.after.toArray⟩, .string ⟨r.image.toArray⟩, dv] 24)
  obtain ⟨da, dc, rfl, hm, hc, -⟩ := hd.form
  unfold maxLen at hm
  unfold Rc.val
  obtain ⟨k, t, p, s, b, a, i, d⟩ := r
  generalize Rc.right ⟨k, t, p, s, b, a, i, d⟩ = R at *
  simp only at *
  have HR := Lib.hid hR
  clear hR
  go_enter Try.func12, Try.ntmps12
  go_wp2_with fail
  rotate_left
  all_goals first | (go_ret; exact ⟨ret_bool (Eq.symm (by rw [Bool.eq_false_iff]; intro h; have := HR.out.1 h; omega)), hk0⟩) | skip
  generalize w.alloc (.cells #[.int .i64 k, .int .i64 t, .int .i64 p, .int .i64 s, .string ⟨b.toArray⟩, .string ⟨a.toArray⟩, .string ⟨i.toArray⟩, .slice da d.length dc] 24) = w0 at *
  obtain ⟨c0, c1, c2, c3, c4, c5, c6, c7⟩ := hA.cells
  simp only at c0 c1 c2 c3 c4 c5 c6 c7
  refine (cell_any b _).mono ?_
  rintro e w' ⟨rfl, rfl⟩
  have Hb := half_iff b
  cases hb : half b
  · rw [hb] at Hb
    simp only [Bool.false_eq_true, false_iff] at Hb
    go_wp2
    go_ret
    exact ⟨ret_bool (Eq.symm (by rw [Bool.eq_false_iff]; intro h; have := HR.out.1 h; omega)), hk0⟩
  rw [hb] at Hb
  simp only [true_iff] at Hb
  go_wp2_with fail
  refine (cell_any a _).mono ?_
  rintro e w' ⟨rfl, rfl⟩
  have Ha := half_iff a
  cases ha : half a
  · rw [ha] at Ha
    simp only [Bool.false_eq_true, false_iff] at Ha
    go_wp2
    go_ret
    exact ⟨ret_bool (Eq.symm (by rw [Bool.eq_false_iff]; intro h; have := HR.out.1 h; omega)), hk0⟩
  rw [ha] at Ha
  simp only [true_iff] at Ha
  cases i with
  | nil =>
    have hi0 : ([] : List UInt8).length = 0 := rfl
    by_cases hd0 : d.length = 0
    · have t1 : ((d.length : Int) == 0) = true := by rw [beq_iff_eq]; omega
      go_wp2
      go_ret
      exact ⟨ret_bool (Eq.symm (HR.out.2 (by omega))), hk0⟩
    have t1 : ((d.length : Int) == 0) = false := by rw [beq_eq_false_iff_ne]; omega
    by_cases hk7 : k = 7
    · have t2 : (k == 7) = true := by rw [beq_iff_eq]; omega
      by_cases hd6 : d.length = 6
      · have t3 : ((d.length : Int) == 6) = true := by rw [beq_iff_eq]; omega
        go_wp2
        go_ret
        exact ⟨ret_bool (Eq.symm (HR.out.2 (by omega))), hk0⟩
      · have t3 : ((d.length : Int) == 6) = false := by rw [beq_eq_false_iff_ne]; omega
        go_wp2
        go_ret
        exact ⟨ret_bool (Eq.symm (by rw [Bool.eq_false_iff]; intro h; have := HR.out.1 h; omega)), hk0⟩
    · have t2 : (k == 7) = false := by rw [beq_eq_false_iff_ne]; omega
      go_wp2
      go_ret
      exact ⟨ret_bool (Eq.symm (by rw [Bool.eq_false_iff]; intro h; have := HR.out.1 h; omega)), hk0⟩
  | cons c i =>
    by_cases hi : (c :: i).length = 256
    · have t5 : (((c :: i).length : Int) == 256) = true := by rw [beq_iff_eq]; omega
      by_cases hd0 : d.length = 0
      · have t1 : ((d.length : Int) == 0) = true := by rw [beq_iff_eq]; omega
        go_wp2
        go_ret
        exact ⟨ret_bool (Eq.symm (HR.out.2 (by omega))), hk0⟩
      have t1 : ((d.length : Int) == 0) = false := by rw [beq_eq_false_iff_ne]; omega
      by_cases hk7 : k = 7
      · have t2 : (k == 7) = true := by rw [beq_iff_eq]; omega
        by_cases hd6 : d.length = 6
        · have t3 : ((d.length : Int) == 6) = true := by rw [beq_iff_eq]; omega
          go_wp2
          go_ret
          exact ⟨ret_bool (Eq.symm (HR.out.2 (by omega))), hk0⟩
        · have t3 : ((d.length : Int) == 6) = false := by rw [beq_eq_false_iff_ne]; omega
          go_wp2
          go_ret
          exact ⟨ret_bool (Eq.symm (by rw [Bool.eq_false_iff]; intro h; have := HR.out.1 h; omega)), hk0⟩
      · have t2 : (k == 7) = false := by rw [beq_eq_false_iff_ne]; omega
        go_wp2
        go_ret
        exact ⟨ret_bool (Eq.symm (by rw [Bool.eq_false_iff]; intro h; have := HR.out.1 h; omega)), hk0⟩
    · have t5 : (((c :: i).length : Int) == 256) = false := by rw [beq_eq_false_iff_ne]; omega
      have t6 : (((i.length : Int) + 1) != 256) = true := by rw [bne_iff_ne]; simp only [List.length_cons] at hi; omega
      go_wp2
      go_ret
      exact ⟨ret_bool (Eq.symm (by rw [Bool.eq_false_iff]; intro h; have := HR.out.1 h; simp only [List.length_cons] at *; omega)), hk0⟩
-- end of right_any
end Go.Proofs.Ytlihieefjlpadaa
