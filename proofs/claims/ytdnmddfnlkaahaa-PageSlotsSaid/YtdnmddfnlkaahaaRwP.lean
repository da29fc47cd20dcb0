/- Rows, plainly: which may be, which is less, their bytes in a slot. -/
import Derived.Test.YtdnmddfnlkaahaaBase
namespace Go.Proofs.Ytdnmddfnlkaahaa
open Go Go.RowKit
/-- a row -/
structure Rw where
  t : Int
  k : List UInt8
  v : List UInt8
deriving DecidableEq

def Rw.right (r : Rw) : Bool := decide (0 ≤ r.t) && decide (r.t < 4) && decide (r.k.length ≤ 15) && decide (r.v.length ≤ 21)
theorem Rw.right_iff (r : Rw) : r.right = true ↔ 0 ≤ r.t ∧ r.t < 4 ∧ r.k.length ≤ 15 ∧ r.v.length ≤ 21 := by
  simp [Rw.right, and_assoc]
def Rw.less (a b : Rw) : Bool := decide (a.t < b.t) || (a.t == b.t && Op.bytesLess a.k b.k)

theorem bytesLess_irrefl (k : List UInt8) : Op.bytesLess k k = false := by
  induction k with
  | nil => rfl
  | cons a k ih => simp [Op.bytesLess, ih]
theorem bytesLess_trans : ∀ (k l m : List UInt8), Op.bytesLess k l = true → Op.bytesLess l m = true → Op.bytesLess k m = true
  | _, _, [], _, h => by cases ‹List UInt8› <;> simp [Op.bytesLess] at h
  | _, [], _ :: _, h, _ => by cases ‹List UInt8› <;> simp [Op.bytesLess] at h
  | [], _ :: _, _ :: _, _, _ => by simp [Op.bytesLess]
  | a :: k, b :: l, c :: m, h, g => by
    simp only [Op.bytesLess, Bool.or_eq_true, Bool.and_eq_true, decide_eq_true_eq, beq_iff_eq] at h g ⊢
    rcases h with h | ⟨rfl, h⟩
    · rcases g with g | ⟨rfl, g⟩
      · exact .inl (UInt8.lt_trans h g)
      · exact .inl h
    · rcases g with g | ⟨rfl, g⟩
      · exact .inl g
      · exact .inr ⟨rfl, bytesLess_trans k l m h g⟩
theorem bytesLess_total : ∀ (k l : List UInt8), Op.bytesLess k l = false → Op.bytesLess l k = false → k = l
  | [], [], _, _ => rfl
  | [], _ :: _, h, _ => by simp [Op.bytesLess] at h
  | _ :: _, [], _, h => by simp [Op.bytesLess] at h
  | a :: k, b :: l, h, g => by
    simp only [Op.bytesLess, Bool.or_eq_false_iff, Bool.and_eq_false_iff, decide_eq_false_iff_not, beq_eq_false_iff_ne] at h g
    obtain ⟨h1, h2⟩ := h
    obtain ⟨g1, g2⟩ := g
    have hab : a = b := by
      rcases UInt8.lt_or_lt_of_ne (a := a) (b := b) |> fun f => Classical.em (a = b) with h | h
      · exact h
      · rcases UInt8.lt_or_lt_of_ne h with h' | h'
        · exact absurd h' h1
        · exact absurd h' g1
    subst hab
    rcases h2 with h2 | h2
    · exact absurd rfl h2
    · rcases g2 with g2 | g2
      · exact absurd rfl g2
      · rw [bytesLess_total k l h2 g2]
theorem Rw.less_irrefl (a : Rw) : a.less a = false := by simp [Rw.less, bytesLess_irrefl]
theorem Rw.less_trans {a b c : Rw} (h : a.less b = true) (g : b.less c = true) : a.less c = true := by
  simp only [Rw.less, Bool.or_eq_true, Bool.and_eq_true, decide_eq_true_eq, beq_iff_eq] at h g ⊢
  rcases h with h | ⟨h1, h2⟩
  · rcases g with g | ⟨g1, g2⟩
    · exact .inl (by omega)
    · exact .inl (by omega)
  · rcases g with g | ⟨g1, g2⟩
    · exact .inl (by omega)
    · exact .inr ⟨by omega, bytesLess_trans _ _ _ h2 g2⟩
theorem Rw.less_asymm {a b : Rw} (h : a.less b = true) : b.less a = false := by
  cases hb : b.less a with
  | false => rfl
  | true => rw [← Rw.less_irrefl a, Rw.less_trans h hb]

/-- a row's bytes, in a slot's size -/
def Rw.slot (r : Rw) : List UInt8 :=
  1 :: UInt8.ofNat r.t.toNat :: UInt8.ofNat r.k.length :: (r.k ++ List.replicate (15 - r.k.length) 0 ++ UInt8.ofNat r.v.length :: (r.v ++ List.replicate (21 - r.v.length) 0))
end Go.Proofs.Ytdnmddfnlkaahaa
