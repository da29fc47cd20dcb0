/- Pages plainly: what PageSlots asks. -/
import Derived.Test.YtdnmddfnlkaahaaPageL
import Derived.Test.YtdnmddfnlkaahaaRowsI
namespace Go.Proofs.Ytdnmddfnlkaahaa
open Go Go.RowKit

/-- what a slot may be set to -/
def slotTxt (v : List UInt8) : Prop := v = [] ∨ ∃ r : Rw, r.right = true ∧ v = r.slot
theorem slotTxt.len {v : List UInt8} (h : slotTxt v) : v.length ≤ 40 := by
  rcases h with rfl | ⟨r, hr, rfl⟩
  · exact Nat.zero_le _
  · rw [slot_length r hr]; exact Nat.le_refl _
theorem slotTxt.may {v : List UInt8} (h : slotTxt v) (i : Int) : Pg.may i v = decide (0 ≤ i ∧ i < 5) := by
  unfold Pg.may
  rw [decide_eq_decide]
  constructor
  · exact fun h => ⟨h.1, h.2.1⟩
  · refine fun hh => ⟨hh.1, hh.2, ?_⟩
    rcases h with rfl | ⟨r, hr, rfl⟩
    · exact .inl rfl
    · exact .inr (by rw [Rw.dec_slot r hr])
theorem may_none (i : Int) : Pg.may i [110, 111, 110, 101] = false := by
  unfold Pg.may
  refine decide_eq_false fun h => ?_
  rcases h.2.2 with h | h
  · cases h
  · unfold Rw.dec at h
    rw [if_pos (by decide)] at h
    exact absurd h (by decide)
theorem Pg.set_no {p : Pg} {i : Int} {s : List UInt8} (h : Pg.may i s = false) : p.set i s = p := by
  unfold Pg.set
  rw [if_neg (by rw [h]; decide)]
def slotRaw (v : List UInt8) : List UInt8 := if v = [] then zB 40 else v
theorem Pg.set_txt {p : Pg} {i : Nat} (hi : i < 5) {v : List UInt8} (h : slotTxt v) : p.set (i : Int) v = p.put i (slotRaw v) := by
  unfold Pg.set slotRaw
  rw [if_pos (by rw [h.may]; exact decide_eq_true (by omega)), Int.toNat_natCast]
theorem slotRaw_len {v : List UInt8} (h : slotTxt v) : (slotRaw v).length = 40 := by
  unfold slotRaw
  split
  · exact zB_length 40
  · rename_i hn
    rcases h with rfl | ⟨r, hr, rfl⟩
    · exact absurd rfl hn
    · exact slot_length r hr
theorem Pg.slot_of_raw {p : Pg} {i : Nat} (hi : i < 5) {v : List UInt8} (h : slotTxt v) (hr : p.raw i = slotRaw v) : p.slot (i : Int) = v := by
  rcases h with rfl | ⟨r, hrr, rfl⟩
  · exact Pg.slot_free hr
  · have hn : r.slot ≠ [] := fun e => by have := slot_length r hrr; rw [e] at this; cases this
    have e : slotRaw r.slot = r.slot := by unfold slotRaw; rw [if_neg hn]
    rw [e] at hr
    rw [Pg.slot_at hi (by rw [hr]; exact r.slot_ne_zero), hr]
theorem Pg.put_txt {p : Pg} (h : p.Ok) (hr : p.RowsOk) {i : Nat} (hi : i < 5) {v : List UInt8} (hv : slotTxt v) :
    (p.put i (slotRaw v)).Ok ∧ (p.put i (slotRaw v)).RowsOk ∧ (p.put i (slotRaw v)).strs = p.strs.set i (strV v) ∧ (p.put i (slotRaw v)).slot (i : Int) = v := by
  have hraw : ∀ j, (p.put i (slotRaw v)).raw j = if j = i then slotRaw v else p.raw j := fun j => Pg.put_raw h hi (slotRaw v)
  refine ⟨h.put i _ (slotRaw_len hv), fun x hx => ?_, ?_, Pg.slot_of_raw hi hv (by rw [hraw, if_pos rfl])⟩
  · rcases List.mem_or_eq_of_mem_set hx with hx | rfl
    · exact hr x hx
    · unfold slotRaw
      split
      · exact .inl rfl
      · rename_i hn
        exact hv.elim (fun e => absurd e hn) .inr
  · refine List.ext_getElem (by simp [Pg.strs]) fun j h1 h2 => ?_
    have hj : j < 5 := by simpa [Pg.strs] using h1
    rw [List.getElem_set]
    simp only [Pg.strs, List.getElem_map, List.getElem_range]
    by_cases e : i = j
    · subst e
      rw [if_pos rfl, Pg.slot_of_raw hi hv (by rw [hraw, if_pos rfl])]
    · rw [if_neg e]
      have := hraw j
      rw [if_neg (fun e2 => e e2.symm)] at this
      unfold Pg.slot
      rw [Int.toNat_natCast, this]
/-- a slot of a page of rows: free, or its text is a row's -/
theorem Pg.RowsOk.at {p : Pg} (h : p.Ok) (hr : p.RowsOk) {i : Nat} (hi : i < 5) : (p.raw i = zB 40 ∧ p.slot (i : Int) = []) ∨ ∃ r : Rw, r.right = true ∧ p.raw i = r.slot ∧ p.slot (i : Int) = r.slot ∧ p.raw i ≠ zB 40 := by
  have hmem : p.raw i ∈ p.slots := by
    rw [Pg.raw_get (by rw [h.n]; exact hi)]
    exact List.getElem_mem _
  rcases hr _ hmem with e | ⟨r, hrr, e⟩
  · exact .inl ⟨e, Pg.slot_free e⟩
  · have hne : p.raw i ≠ zB 40 := by rw [e]; exact r.slot_ne_zero
    exact .inr ⟨r, hrr, e, by rw [Pg.slot_at hi hne, e], hne⟩
theorem Pg.isFree_slot {p : Pg} (h : p.Ok) (hr : p.RowsOk) {i : Nat} (hi : i < 5) : p.isFree i = decide (p.slot (i : Int) = []) := by
  unfold Pg.isFree
  rw [decide_eq_decide]
  rcases hr.at h hi with ⟨e1, e2⟩ | ⟨r, hrr, e1, e2, hne⟩
  · rw [e1, e2]; simp
  · rw [e2]
    exact ⟨fun e => absurd e hne, fun e => by have := slot_length r hrr; rw [e] at this; cases this⟩
/-- one step of the search from above -/
theorem Pg.freeFrom_step {p : Pg} (h : p.Ok) (hr : p.RowsOk) (i : Nat) (hi : i < 5) : p.freeFrom [1, 9, -3] i (5 - i) = if p.slot (i : Int) = [] ∧ i ≠ 1 then (i : Int) else p.freeFrom [1, 9, -3] (i + 1) (5 - (i + 1)) := by
  rw [show 5 - i = (5 - (i + 1)) + 1 by omega]
  show (if p.isFree i = true ∧ ¬ (i : Int) ∈ [(1 : Int), 9, -3] then (i : Int) else p.freeFrom [1, 9, -3] (i + 1) (5 - (i + 1))) = _
  have e : (p.isFree i = true ∧ ¬ (i : Int) ∈ [(1 : Int), 9, -3]) ↔ (p.slot (i : Int) = [] ∧ i ≠ 1) := by
    rw [Pg.isFree_slot h hr hi, decide_eq_true_eq]
    have : (¬ (i : Int) ∈ [(1 : Int), 9, -3]) ↔ (i ≠ 1) := by
      simp
      omega
    rw [this]
  by_cases hc : p.slot (i : Int) = [] ∧ i ≠ 1
  · rw [if_pos hc, if_pos (e.2 hc)]
  · rw [if_neg hc, if_neg (fun h => hc (e.1 h))]
/-- what comes of a page of rows -/
theorem Pg.rowsTo_mem {p : Pg} (h : p.Ok) (hr : p.RowsOk) {x : Nat × Rw} (hx : x ∈ p.rowsTo 5) : x.1 < 5 ∧ x.2.right = true ∧ p.slot (x.1 : Int) = x.2.slot := by
  unfold Pg.rowsTo at hx
  obtain ⟨i, hi, hx⟩ := List.mem_filterMap.1 hx
  have hi5 := List.mem_range.1 hi
  split at hx
  · rename_i hd
    simp only [Option.some.injEq] at hx
    subst hx
    rcases hr.at h hi5 with ⟨e1, -⟩ | ⟨r, hrr, e1, e2, -⟩
    · rw [e1, _root_.Go.Proofs.Ytdnmddfnlkaahaa.dec_zeros] at hd; exact absurd hd (by decide)
    · simp only
      rw [e1, Rw.dec_slot r hrr]
      exact ⟨hi5, hrr, e2⟩
  · cases hx
theorem Pg.rowsTo_rising (p : Pg) (k : Nat) : (p.rowsTo k).Pairwise (fun a b => a.1 < b.1) ∧ ∀ x ∈ p.rowsTo k, x.1 < k := by
  induction k with
  | zero => exact ⟨by simp [Pg.rowsTo], fun x hx => by simp [Pg.rowsTo] at hx⟩
  | succ k ih =>
    rw [Pg.rowsTo_succ]
    split
    · refine ⟨List.pairwise_append.2 ⟨ih.1, List.pairwise_singleton _ _, fun a ha b hb => ?_⟩, fun x hx => ?_⟩
      · rw [List.mem_singleton.1 hb]; exact ih.2 a ha
      · rcases List.mem_append.1 hx with h | h
        · exact Nat.lt_succ_of_lt (ih.2 x h)
        · rw [List.mem_singleton.1 h]; exact Nat.lt_succ_self _
    · rw [List.append_nil]
      exact ⟨ih.1, fun x hx => Nat.lt_succ_of_lt (ih.2 x hx)⟩
/-- the index told last -/
def lastOf (l : List (Nat × Rw)) : Int := match l.getLast? with | some x => x.1 | none => -1
theorem lastOf_snoc (l : List (Nat × Rw)) (x : Nat × Rw) : lastOf (l ++ [x]) = x.1 := by simp [lastOf]
theorem Pg.last_lt {p : Pg} {pre post : List (Nat × Rw)} {x : Nat × Rw} (h : p.rowsTo 5 = pre ++ x :: post) : lastOf pre < (x.1 : Int) := by
  have hp := (Pg.rowsTo_rising p 5).1
  rw [h, List.pairwise_append] at hp
  unfold lastOf
  cases hl : pre.getLast? with
  | none => simp only; omega
  | some y =>
    simp only
    have := hp.2.2 y (List.mem_of_getLast? hl) x List.mem_cons_self
    omega
end Go.Proofs.Ytdnmddfnlkaahaa
