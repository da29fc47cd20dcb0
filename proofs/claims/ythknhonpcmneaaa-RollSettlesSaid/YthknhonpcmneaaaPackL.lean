/- Package pack as plain functions on lists of bytes: no Go, no memory. -/
namespace Go.Proofs.Ythknhonpcmneaaa.Pk

/-- n bytes of a number, the highest first -/
def be (x : Nat) : Nat → List UInt8
  | 0 => []
  | n + 1 => UInt8.ofNat (x / 256 ^ n % 256) :: be x n
/-- a number of bytes, the highest first -/
def num (l : List UInt8) : Nat := l.foldl (fun x c => (x * 256 + c.toNat) % 18446744073709551616) 0

/-- a reader: what is left; has it failed -/
structure RS where
  l : List UInt8
  bad : Bool

def take (s : RS) (n : Int) : List UInt8 × RS := if s.bad = true ∨ n < 0 ∨ (s.l.length : Int) < n then ([], ⟨s.l, true⟩) else (s.l.take n.toNat, ⟨s.l.drop n.toNat, false⟩)
def numN (s : RS) (n : Int) : Nat × RS := let r := take s (if n < 1 ∨ 8 < n then -1 else n); (num r.1, r.2)
def text (s : RS) : List UInt8 × RS := let r := numN s 1; take r.2 r.1

theorem be_length (x n : Nat) : (be x n).length = n := by
  induction n with
  | zero => rfl
  | succ n ih => simp [be, ih]
theorem take_len (s : RS) (n : Int) : (take s n).1.length ≤ s.l.length ∧ (take s n).2.l.length ≤ s.l.length := by
  unfold take
  split <;> simp
  omega

theorem fold_from (l : List UInt8) (x : Nat) (h : x * 256 ^ l.length + 256 ^ l.length ≤ 18446744073709551616) : l.foldl (fun x c => (x * 256 + c.toNat) % 18446744073709551616) x = x * 256 ^ l.length + num l := by
  induction l generalizing x with
  | nil => simp [num]
  | cons c l ih =>
    have hc := c.toNat_lt
    have hp : 0 < 256 ^ l.length := Nat.pos_of_ne_zero (by simp)
    rw [List.length_cons, Nat.pow_succ] at h
    have h2 : x * (256 ^ l.length * 256) = (x * 256) * 256 ^ l.length := by rw [Nat.mul_comm (256 ^ l.length) 256, Nat.mul_assoc]
    have hlt : (x * 256 + c.toNat) * 256 ^ l.length + 256 ^ l.length ≤ 18446744073709551616 := by
      have : (x * 256 + c.toNat) * 256 ^ l.length + 256 ^ l.length ≤ (x * 256) * 256 ^ l.length + 256 ^ l.length * 256 := by
        rw [Nat.add_mul, Nat.add_assoc]
        apply Nat.add_le_add_left
        have : c.toNat * 256 ^ l.length + 256 ^ l.length = (c.toNat + 1) * 256 ^ l.length := by rw [Nat.add_mul, Nat.one_mul]
        rw [this, Nat.mul_comm]
        exact Nat.mul_le_mul_left _ (by omega)
      omega
    have hsm : x * 256 + c.toNat < 18446744073709551616 := by
      have : x * 256 + c.toNat + 1 ≤ (x * 256 + c.toNat) * 256 ^ l.length + 256 ^ l.length := by
        have h3 : (x * 256 + c.toNat) * 1 ≤ (x * 256 + c.toNat) * 256 ^ l.length := Nat.mul_le_mul_left _ hp
        omega
      omega
    have h0 : c.toNat * 256 ^ l.length + 256 ^ l.length ≤ 18446744073709551616 := by
      rw [Nat.add_mul] at hlt
      omega
    rw [List.foldl_cons, Nat.mod_eq_of_lt hsm, ih _ hlt]
    have e2 : num (c :: l) = c.toNat * 256 ^ l.length + num l := by
      have : num (c :: l) = l.foldl (fun x c => (x * 256 + c.toNat) % 18446744073709551616) ((0 * 256 + c.toNat) % 18446744073709551616) := rfl
      rw [this, Nat.zero_mul, Nat.zero_add, Nat.mod_eq_of_lt (by omega), ih _ h0]
    rw [e2, List.length_cons, Nat.pow_succ, h2, Nat.add_mul]
    omega

theorem num_cons (c : UInt8) (l : List UInt8) (h : l.length < 8) : num (c :: l) = c.toNat * 256 ^ l.length + num l := by
  have hc := c.toNat_lt
  have hp : (256 : Nat) ^ l.length ≤ 256 ^ 7 := Nat.pow_le_pow_right (by decide) (by omega)
  have h0 : c.toNat * 256 ^ l.length + 256 ^ l.length ≤ 18446744073709551616 := by
    have : c.toNat * 256 ^ l.length + 256 ^ l.length = (c.toNat + 1) * 256 ^ l.length := by rw [Nat.add_mul, Nat.one_mul]
    rw [this]
    exact Nat.le_trans (Nat.mul_le_mul (show c.toNat + 1 ≤ 256 by omega) hp) (by decide)
  have : num (c :: l) = l.foldl (fun x c => (x * 256 + c.toNat) % 18446744073709551616) ((0 * 256 + c.toNat) % 18446744073709551616) := rfl
  rw [this, Nat.zero_mul, Nat.zero_add, Nat.mod_eq_of_lt (by omega), fold_from _ _ h0]

theorem num_lt_pow (l : List UInt8) (h : l.length ≤ 8) : num l < 256 ^ l.length := by
  induction l with
  | nil => simp [num]
  | cons c l ih =>
    have hc := c.toNat_lt
    rw [num_cons c l (by simp at h; omega), List.length_cons, Nat.pow_succ]
    have := ih (by simp at h; omega)
    have h2 : c.toNat * 256 ^ l.length + 256 ^ l.length ≤ 256 ^ l.length * 256 := by
      have : c.toNat * 256 ^ l.length + 256 ^ l.length = (c.toNat + 1) * 256 ^ l.length := by rw [Nat.add_mul, Nat.one_mul]
      rw [this, Nat.mul_comm]
      exact Nat.mul_le_mul_left _ (by omega)
    omega

theorem num_be (x n : Nat) (h : n ≤ 8) : num (be x n) = x % 256 ^ n := by
  induction n with
  | zero => simp [be, num, Nat.mod_one]
  | succ n ih =>
    rw [be, num_cons _ _ (by rw [be_length]; omega), ih (by omega), be_length, UInt8.toNat_ofNat', Nat.mod_mod, Nat.pow_succ, Nat.mod_mul]
    rw [Nat.mul_comm (256 ^ n)]
    omega

theorem be_add (x p q : Nat) : be x (p + q) = be (x / 256 ^ q) p ++ be x q := by
  induction p with
  | zero => simp [be]
  | succ p ih =>
    rw [show p + 1 + q = (p + q) + 1 by omega, be, be, List.cons_append, ih]
    congr 2
    rw [Nat.div_div_eq_div_mul, ← Nat.pow_add, Nat.add_comm q p]

theorem take_front (a b : List UInt8) (n : Int) (hn : n = a.length) : take ⟨a ++ b, false⟩ n = (a, ⟨b, false⟩) := by
  subst hn
  unfold take
  rw [if_neg]
  · simp
  · intro h
    rcases h with h | h | h
    · cases h
    · omega
    · simp at h; omega

theorem numN_front (a b : List UInt8) (n : Int) (hn : n = a.length) (h1 : 1 ≤ a.length) (h8 : a.length ≤ 8) : numN ⟨a ++ b, false⟩ n = (num a, ⟨b, false⟩) := by
  unfold numN
  have h : ¬ (n < 1 ∨ 8 < n) := by omega
  simp only [if_neg h]
  rw [take_front a b n hn]

theorem parts (x p q : Nat) : (x / 256 ^ q % 256 ^ p) * 256 ^ q + x % 256 ^ q = x % 256 ^ (p + q) := by
  rw [Nat.pow_add, Nat.mul_comm (256 ^ p), Nat.mod_mul, Nat.mul_comm (256 ^ q)]
  omega
end Go.Proofs.Ythknhonpcmneaaa.Pk
