/- What a reader gives, forth and back: plain lists. -/
import Derived.Test.YthknhonpcmneaaaPackL
namespace Go.Proofs.Ythknhonpcmneaaa
namespace Pk
theorem be_congr : ∀ (n x y : Nat), x % 256 ^ n = y % 256 ^ n → be x n = be y n
  | 0, _, _, _ => rfl
  | n + 1, x, y, h => by
    have hd : (256 : Nat) ^ n ∣ 256 ^ (n + 1) := ⟨256, by rw [Nat.pow_succ]⟩
    have h1 : x % 256 ^ n = y % 256 ^ n := by rw [← Nat.mod_mod_of_dvd x hd, ← Nat.mod_mod_of_dvd y hd, h]
    have h2 : x / 256 ^ n % 256 = y / 256 ^ n % 256 := by
      rw [Nat.pow_succ] at h
      rw [← Nat.mod_mul_right_div_self, ← Nat.mod_mul_right_div_self, h]
    simp only [be, h2, be_congr n x y h1]
theorem be_num : ∀ (l : List UInt8), l.length ≤ 8 → be (num l) l.length = l
  | [], _ => rfl
  | c :: l, h => by
    simp only [List.length_cons] at h
    have hc := c.toNat_lt
    have hl := num_lt_pow l (by omega)
    have hp : 0 < 256 ^ l.length := Nat.pos_of_ne_zero (by simp)
    rw [List.length_cons, be, num_cons c l (by omega)]
    have e1 : (c.toNat * 256 ^ l.length + num l) / 256 ^ l.length = c.toNat := by
      rw [Nat.mul_comm, Nat.mul_add_div hp, Nat.div_eq_of_lt hl, Nat.add_zero]
    have e2 : be (c.toNat * 256 ^ l.length + num l) l.length = be (num l) l.length := be_congr _ _ _ (by rw [Nat.mul_comm, Nat.mul_add_mod])
    rw [e1, e2, be_num l (by omega), Nat.mod_eq_of_lt (by omega)]
    simp

theorem take_back {s : RS} {n : Int} {t l : List UInt8} (h : take s n = (t, ⟨l, false⟩)) : s.bad = false ∧ s.l = t ++ l ∧ n = (t.length : Int) := by
  unfold take at h
  split at h
  · simp at h
  · rename_i hn
    simp only [not_or, Int.not_lt, Bool.not_eq_true] at hn
    simp only [Prod.mk.injEq, RS.mk.injEq, and_true] at h
    obtain ⟨rfl, rfl⟩ := h
    refine ⟨hn.1, by rw [List.take_append_drop], ?_⟩
    rw [List.length_take]
    omega
theorem numN_back {s : RS} {n x : Nat} {l : List UInt8} (hn : 1 ≤ n ∧ n ≤ 8) (h : numN s n = (x, ⟨l, false⟩)) : s.bad = false ∧ s.l = be x n ++ l ∧ x < 256 ^ n := by
  unfold numN at h
  rw [if_neg (by omega)] at h
  simp only [Prod.mk.injEq] at h
  obtain ⟨h1, h2⟩ := h
  obtain ⟨hb, hl, hk⟩ := take_back (t := (take s n).1) (l := l) (by rw [← h2])
  have hlen : (take s n).1.length = n := by omega
  have := be_num (take s n).1 (by omega)
  rw [h1, hlen] at this
  refine ⟨hb, by rw [this]; exact hl, ?_⟩
  have h5 := num_lt_pow (take s n).1 (by omega)
  rw [h1, hlen] at h5
  exact h5
theorem text_back {s : RS} {t l : List UInt8} (h : text s = (t, ⟨l, false⟩)) : s.bad = false ∧ s.l = be t.length 1 ++ (t ++ l) ∧ t.length < 256 := by
  unfold text at h
  simp only at h
  obtain ⟨hb, hl, hk⟩ := take_back h
  have h1 := numN_back (n := 1) (x := (numN s 1).1) (l := t ++ l) (s := s) (by omega) (by
    rw [← hl, ← hb]; rfl)
  obtain ⟨g1, g2, g3⟩ := h1
  have hx : (numN s 1).1 = t.length := by omega
  rw [hx] at g2 g3
  exact ⟨g1, g2, by simpa using g3⟩

theorem numN_fwd (x n : Nat) (hn : 1 ≤ n ∧ n ≤ 8) (hx : x < 256 ^ n) (l : List UInt8) : numN ⟨be x n ++ l, false⟩ n = (x, ⟨l, false⟩) := by
  have := numN_front (be x n) l n (by rw [be_length]) (by rw [be_length]; omega) (by rw [be_length]; omega)
  rw [this, num_be x n hn.2, Nat.mod_eq_of_lt hx]
theorem text_fwd (t l : List UInt8) (h : t.length < 256) : text ⟨be t.length 1 ++ (t ++ l), false⟩ = (t, ⟨l, false⟩) := by
  unfold text
  have h1 := numN_fwd t.length 1 (by omega) (by simpa using h) (t ++ l)
  simp only [Int.natCast_one] at h1
  rw [h1]
  exact take_front t l _ rfl
theorem take_bad {s : RS} {n : Int} (h : s.bad = true) : (take s n).2.bad = true := by
  unfold take
  rw [if_pos (.inl h)]
theorem numN_bad {s : RS} {n : Int} (h : s.bad = true) : (numN s n).2.bad = true := take_bad h
theorem text_bad {s : RS} (h : s.bad = true) : (text s).2.bad = true := take_bad (numN_bad h)
end Pk
end Go.Proofs.Ythknhonpcmneaaa
