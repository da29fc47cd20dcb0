/- The check sum as a plain function of bytes: no Go, no memory. -/
namespace Go.Proofs.Ytllknflphgahfaa.Crc

/-- one bit -/
def bit (c : BitVec 32) : BitVec 32 := if c &&& 1#32 = 1#32 then (c >>> 1) ^^^ 0xEDB88320#32 else c >>> 1
/-- n bits -/
def bits : Nat → BitVec 32 → BitVec 32
  | 0, c => c
  | n + 1, c => bits n (bit c)
/-- a byte as a register -/
def inj (b : UInt8) : BitVec 32 := BitVec.ofNat 32 b.toNat
def byte (c : BitVec 32) (b : UInt8) : BitVec 32 := bits 8 (c ^^^ inj b)
def run (c : BitVec 32) (l : List UInt8) : BitVec 32 := l.foldl byte c
def ones : BitVec 32 := BitVec.allOnes 32
def sum (l : List UInt8) : BitVec 32 := ~~~ (run ones l)

theorem run_nil (c : BitVec 32) : run c [] = c := rfl
theorem run_cons (c : BitVec 32) (b : UInt8) (l : List UInt8) : run c (b :: l) = run (byte c b) l := rfl
theorem run_append (c : BitVec 32) (l k : List UInt8) : run c (l ++ k) = run (run c l) k := by simp [run, List.foldl_append]
theorem bits_succ (n : Nat) (c : BitVec 32) : bits (n + 1) c = bit (bits n c) := by
  induction n generalizing c with
  | zero => rfl
  | succ n ih => rw [bits, ih]; rfl

theorem lsb (c : BitVec 32) : (c &&& 1#32 = 1#32) ↔ c.getLsbD 0 = true := by
  constructor
  · intro h
    have := congrArg (fun x => BitVec.getLsbD x 0) h
    simpa using this
  · intro h
    apply BitVec.eq_of_getLsbD_eq
    intro i hi
    simp only [BitVec.getLsbD_and, BitVec.getLsbD_one]
    by_cases h0 : i = 0
    · subst h0; simp [h]
    · simp [h0]

theorem bit_xor (c d : BitVec 32) : bit (c ^^^ d) = bit c ^^^ bit d := by
  unfold bit
  simp only [lsb, BitVec.getLsbD_xor, BitVec.ushiftRight_xor_distrib]
  cases c.getLsbD 0 <;> cases d.getLsbD 0 <;> simp <;> (apply BitVec.eq_of_getLsbD_eq; intro i hi; simp only [BitVec.getLsbD_xor]; generalize (c >>> 1).getLsbD i = x; generalize (d >>> 1).getLsbD i = y; generalize (3988292384#32).getLsbD i = z; cases x <;> cases y <;> cases z <;> rfl)

theorem bits_xor (n : Nat) (c d : BitVec 32) : bits n (c ^^^ d) = bits n c ^^^ bits n d := by
  induction n generalizing c d with
  | zero => rfl
  | succ n ih => rw [bits, bit_xor, ih]; rfl

theorem bit_zero : bit 0#32 = 0#32 := by decide
theorem bits_zero (n : Nat) : bits n 0#32 = 0#32 := by
  induction n with
  | zero => rfl
  | succ n ih => rw [bits, bit_zero, ih]

theorem xor_eq_zero {a b : BitVec 32} (h : a ^^^ b = 0#32) : a = b := by
  apply BitVec.eq_of_getLsbD_eq
  intro i hi
  have := congrArg (fun x => BitVec.getLsbD x i) h
  simpa using this

theorem bit_eq_zero {c : BitVec 32} (h : bit c = 0#32) : c = 0#32 := by
  unfold bit at h
  split at h
  · rename_i h1
    exfalso
    have := congrArg (fun x => BitVec.getLsbD x 31) h
    simp at this
  · rename_i h1
    rw [lsb] at h1
    apply BitVec.eq_of_getLsbD_eq
    intro i hi
    cases i with
    | zero => simpa using h1
    | succ i =>
      have := congrArg (fun x => BitVec.getLsbD x i) h
      simpa [Nat.add_comm] using this

theorem bits_eq_zero {n : Nat} {c : BitVec 32} (h : bits n c = 0#32) : c = 0#32 := by
  induction n generalizing c with
  | zero => exact h
  | succ n ih => exact bit_eq_zero (ih h)

theorem bits_inj {n : Nat} {c d : BitVec 32} (h : bits n c = bits n d) : c = d := by
  apply xor_eq_zero
  apply bits_eq_zero (n := n)
  rw [bits_xor, h]
  simp

theorem byte_inj_left {c d : BitVec 32} {b : UInt8} (h : byte c b = byte d b) : c = d := by
  have := bits_inj h
  have h2 := congrArg (fun x => x ^^^ inj b) this
  simpa [BitVec.xor_assoc] using h2

theorem inj_inj {a b : UInt8} (h : inj a = inj b) : a = b := by
  have := congrArg BitVec.toNat h
  simp only [inj, BitVec.toNat_ofNat] at this
  have h1 := a.toNat_lt
  have h2 := b.toNat_lt
  exact UInt8.toNat_inj.1 (by omega)

theorem byte_inj_right {c : BitVec 32} {a b : UInt8} (h : byte c a = byte c b) : a = b := by
  have := bits_inj h
  have h2 := congrArg (fun x => c ^^^ x) this
  simp only [← BitVec.xor_assoc, BitVec.xor_self, BitVec.zero_xor] at h2
  exact inj_inj h2

theorem run_inj_left {c d : BitVec 32} {l : List UInt8} (h : run c l = run d l) : c = d := by
  induction l generalizing c d with
  | nil => exact h
  | cons b l ih => exact byte_inj_left (ih h)

theorem not_inj {c d : BitVec 32} (h : ~~~c = ~~~d) : c = d := by
  have := congrArg (fun x => ~~~x) h
  simpa using this

theorem sum_inj {l k : List UInt8} (h : sum l = sum k) : run ones l = run ones k := not_inj h

end Go.Proofs.Ytllknflphgahfaa.Crc
