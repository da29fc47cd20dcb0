/- Arrays of bytes compared, and arrays of those. -/
import Derived.Test.YtdnmddfnlkaahaaBig
import Derived.DeepKeys
namespace Go.Proofs.Ytdnmddfnlkaahaa
open Go Go.RowKit
attribute [local irreducible] Go.wpQuiet

section
variable {P : Program} (w : World)
/-- an array's items one by one -/
theorem run_eqItems_of (d : Nat) (e : TypeId) (c : Nat) (xs ys : Array Value) (f : Nat → Bool) : ∀ (is : List Nat), (∀ i ∈ is, ∃ a b, (part e xs (i * c)).run P w = .ok a w ∧ (part e ys (i * c)).run P w = .ok b w ∧ (Op.equalIn d e a b).run P w = .ok (f i) w) →
    (Op.eqItems d e c xs ys is).run P w = .ok (is.all f) w
  | [], _ => by simp [Op.eqItems]
  | i :: is, h => by
    obtain ⟨a, b, h1, h2, h3⟩ := h i List.mem_cons_self
    have ih := run_eqItems_of d e c xs ys f is fun j hj => h j (List.mem_cons_of_mem _ hj)
    simp only [Op.eqItems, Sem.run_bind, h1, h2, h3, Result.andThen_ok]
    cases hf : f i
    · simp [hf]
    · simp [hf, ih]
theorem run_part_byte {e : TypeId} (he : P.underlying e = some (.int .u8)) (xs : List UInt8) (i : Nat) (hi : i < xs.length) : (part e (xs.map B).toArray i).run P w = .ok (.int .u8 (xs[i].toNat : Int)) w := by
  have hp : P.plainKey e = true := by simp [Program.plainKey, he]
  refine run_part_plain w hp ?_
  simp [B, hi]
theorem all_eq_bytes (a b : List UInt8) (h : a.length = b.length) : ((List.range a.length).all fun i => a[i]? == b[i]?) = decide (a = b) := by
  rw [Bool.eq_iff_iff, List.all_eq_true, decide_eq_true_iff]
  constructor
  · intro hh
    refine List.ext_getElem? fun i => ?_
    by_cases hi : i < a.length
    · exact beq_iff_eq.1 (hh i (List.mem_range.2 hi))
    · rw [List.getElem?_eq_none (by omega), List.getElem?_eq_none (by omega)]
  · rintro rfl i _
    simp
theorem run_eq_bytes (d : Nat) {t e : TypeId} {n : Nat} {i : TypeInfo} (hu : P.underlying t = some (.array n e)) (hi : P.info? e = some i) (h1 : P.cellsOf e = 1) (he : P.underlying e = some (.int .u8)) (a b : List UInt8) (ha : a.length = n) (hb : b.length = n) :
    (Op.equalIn (d + 2) t (.agg (a.map B).toArray) (.agg (b.map B).toArray)).run P w = .ok (decide (a = b)) w := by
  rw [run_equalIn_array w (d + 1) _ _ hu hi, h1, ← all_eq_bytes a b (by omega), ha]
  refine run_eqItems_of w (d + 1) e 1 _ _ _ _ fun i hi => ?_
  have hin := List.mem_range.1 hi
  refine ⟨_, _, by rw [Nat.mul_one]; exact run_part_byte w he a i (by omega), by rw [Nat.mul_one]; exact run_part_byte w he b i (by omega), ?_⟩
  rw [run_equalIn_int w d e .u8 .u8 _ _ he, List.getElem?_eq_getElem (by omega), List.getElem?_eq_getElem (by omega)]
  congr 1
  rw [Bool.eq_iff_iff, beq_iff_eq, beq_iff_eq, Option.some.injEq, Int.natCast_inj, UInt8.toNat_inj]
/-- a part that is an array or a struct -/
theorem run_part_big {e : TypeId} {k : Nat} {zs : List Value} (K : BigOk P e k zs) (xs : List Value) (off : Nat) : (part e xs.toArray off).run P w = .ok (.agg ((xs.drop off).take k).toArray) w := by
  simp only [part, Sem.run_bind, K.agg w, Result.andThen_ok, if_true, K.sizeOf w, Sem.run_pure]
  congr 2
  apply Array.toList_inj.1
  rw [Array.toList_extract]
  simp [List.extract]
/-- parts of one length, one behind the other -/
theorem flat_part (k : Nat) : ∀ (l : List (List UInt8)) (i : Nat) (h : i < l.length), (∀ x ∈ l, x.length = k) → ((l.flatten.map B).drop (i * k)).take k = l[i].map B
  | x :: l, 0, _, hl => by
    have := hl x List.mem_cons_self
    rw [Nat.zero_mul, List.drop_zero, List.flatten_cons, List.map_append, List.take_append_of_le_length (by rw [List.length_map]; omega), List.take_of_length_le (by rw [List.length_map]; omega)]
    rfl
  | x :: l, i + 1, h, hl => by
    have hx := hl x List.mem_cons_self
    have ih := flat_part k l i (by simpa using h) fun y hy => hl y (List.mem_cons_of_mem _ hy)
    rw [List.flatten_cons, List.map_append, List.drop_append, List.drop_eq_nil_of_le (by rw [List.length_map, hx, Nat.succ_mul]; omega), List.nil_append, List.length_map, hx, show (i + 1) * k - k = i * k by rw [Nat.succ_mul]; omega, ih]
    rfl
theorem run_eq_rows (d : Nat) {t e u : TypeId} {n k : Nat} {zs : List Value} {i j : TypeInfo} (hu : P.underlying t = some (.array n e)) (hi : P.info? e = some i) (K : BigOk P e k zs) (hue : P.underlying e = some (.array k u)) (hj : P.info? u = some j) (h1 : P.cellsOf u = 1) (he : P.underlying u = some (.int .u8))
    (a b : List (List UInt8)) (ha : a.length = n) (hb : b.length = n) (hak : ∀ x ∈ a, x.length = k) (hbk : ∀ x ∈ b, x.length = k) :
    (Op.equalIn (d + 3) t (.agg (a.flatten.map B).toArray) (.agg (b.flatten.map B).toArray)).run P w = .ok (decide (a = b)) w := by
  have hk : P.cellsOf e = k := by
    obtain ⟨i2, h2, h3, _⟩ := K.hi
    simp [Program.cellsOf, h2, h3]
  have e1 : ((List.range n).all fun i => a[i]? == b[i]?) = decide (a = b) := by
    rw [Bool.eq_iff_iff, List.all_eq_true, decide_eq_true_iff]
    constructor
    · intro hh
      refine List.ext_getElem? fun i => ?_
      by_cases hi : i < n
      · exact beq_iff_eq.1 (hh i (List.mem_range.2 hi))
      · rw [List.getElem?_eq_none (by omega), List.getElem?_eq_none (by omega)]
    · rintro rfl i _
      simp
  rw [run_equalIn_array w (d + 2) _ _ hu hi, hk, ← e1]
  refine run_eqItems_of w (d + 2) e k _ _ _ _ fun i hi => ?_
  have hin := List.mem_range.1 hi
  refine ⟨_, _, run_part_big w K _ _, run_part_big w K _ _, ?_⟩
  rw [flat_part k a i (by omega) hak, flat_part k b i (by omega) hbk, run_eq_bytes w d hue hj h1 he _ _ (hak _ (List.getElem_mem _)) (hbk _ (List.getElem_mem _)), List.getElem?_eq_getElem (by omega), List.getElem?_eq_getElem (by omega)]
  congr 1
  rw [Bool.eq_iff_iff, decide_eq_true_iff, beq_iff_eq, Option.some.injEq]
end
end Go.Proofs.Ytdnmddfnlkaahaa
