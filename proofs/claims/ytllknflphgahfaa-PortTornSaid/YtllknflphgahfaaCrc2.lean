/- More of the check sum as a plain function: what is changed changes it; sums laid behind; texts that are xored. -/
import Derived.Test.YtllknflphgahfaaCrc
namespace Go.Proofs.Ytllknflphgahfaa.Crc

theorem set_split {α : Type} (l : List α) (k : Nat) (h : k < l.length) (x : α) : l.set k x = l.take k ++ x :: l.drop (k + 1) := by
  rw [List.set_eq_take_append_cons_drop, if_pos h]
theorem split {α : Type} (l : List α) (k : Nat) (h : k < l.length) : l = l.take k ++ l[k] :: l.drop (k + 1) := by
  rw [List.getElem_cons_drop, List.take_append_drop]

theorem sum_set_ne (l : List UInt8) (k : Nat) (h : k < l.length) (x : UInt8) (hx : x ≠ l[k]) : sum (l.set k x) ≠ sum l := by
  intro he
  have h1 := sum_inj he
  rw [set_split l k h x] at h1
  conv at h1 => rhs; rw [split l k h]
  rw [run_append, run_append, run_cons, run_cons] at h1
  exact hx (byte_inj_right (run_inj_left h1))

theorem inj_xor (a b : UInt8) : inj a ^^^ inj b = inj (a ^^^ b) := by
  apply BitVec.eq_of_toNat_eq
  have h1 := a.toNat_lt
  have h2 := b.toNat_lt
  have h3 := (a ^^^ b).toNat_lt
  simp only [inj, BitVec.toNat_xor, BitVec.toNat_ofNat]
  rw [Nat.mod_eq_of_lt (by omega), Nat.mod_eq_of_lt (by omega), Nat.mod_eq_of_lt (by omega), UInt8.toNat_xor]

theorem fix_all : ∀ d : Fin 256, bits 8 (BitVec.ofNat 32 d.val) = BitVec.ofNat 32 d.val → d.val = 0 := by decide +kernel
theorem fix_zero (d : UInt8) (h : bits 8 (inj d) = inj d) : d = 0 := by
  have h1 := d.toNat_lt
  have := fix_all ⟨d.toNat, by omega⟩ h
  exact UInt8.toNat_inj.1 this

theorem swap_ne (c : BitVec 32) (a b : UInt8) (h : byte (byte c a) b = byte (byte c b) a) : a = b := by
  have h1 := bits_inj h
  unfold byte at h1
  rw [bits_xor 8 c, bits_xor 8 c] at h1
  have h2 : bits 8 (inj a ^^^ inj b) = inj a ^^^ inj b := by
    rw [bits_xor]
    generalize bits 8 c = C at h1
    generalize bits 8 (inj a) = A at *
    generalize bits 8 (inj b) = D at *
    have h3 := congrArg (fun x => C ^^^ D ^^^ inj b ^^^ x) h1
    apply BitVec.eq_of_getLsbD_eq
    intro i hi
    have h4 := congrArg (fun x => x.getLsbD i) h1
    simp only [BitVec.getLsbD_xor] at h4 ⊢
    revert h4
    cases C.getLsbD i <;> cases A.getLsbD i <;> cases D.getLsbD i <;> cases (inj a).getLsbD i <;> cases (inj b).getLsbD i <;> decide
  rw [inj_xor] at h2
  have h3 := fix_zero _ h2
  have h4 := congrArg (fun x => x ^^^ b) h3
  simpa [UInt8.xor_assoc] using h4

theorem sum_swap_ne (l : List UInt8) (k : Nat) (h : k + 1 < l.length) (hne : l[k] ≠ l[k + 1]) : sum ((l.set k l[k + 1]).set (k + 1) l[k]) ≠ sum l := by
  intro he
  have h1 := sum_inj he
  have e1 : (l.set k l[k + 1]).set (k + 1) l[k] = l.take k ++ l[k + 1] :: l[k] :: l.drop (k + 2) := by
    apply List.ext_getElem
    · simp; omega
    · intro i h1 h2
      rw [List.getElem_set, List.getElem_set]
      by_cases hi : i < k
      · rw [if_neg (by omega), if_neg (by omega), List.getElem_append_left (by simp; omega), List.getElem_take]
      · rw [List.getElem_append_right (by simp; omega)]
        have hlen : (l.take k).length = k := by simp; omega
        simp only [hlen]
        by_cases hi0 : i = k
        · subst hi0; simp
        · by_cases hi1 : i = k + 1
          · subst hi1; simp
          · rw [if_neg (by omega), if_neg (by omega)]
            obtain ⟨j, rfl⟩ : ∃ j, i = k + 2 + j := ⟨i - (k + 2), by omega⟩
            simp [show k + 2 + j - k = j + 2 by omega]
  have e2 : l = l.take k ++ l[k] :: l[k + 1] :: l.drop (k + 2) := by
    conv => lhs; rw [split l k (by omega)]
    rw [List.getElem_cons_drop (h := h)]
  rw [e1] at h1
  conv at h1 => rhs; rw [e2]
  rw [run_append, run_append, run_cons, run_cons, run_cons, run_cons] at h1
  exact hne (swap_ne _ _ _ (run_inj_left h1)).symm

/-! ### a sum laid behind -/
/-- the bytes of a register, the lowest first -/
def le (c : BitVec 32) (i : Nat) : UInt8 := UInt8.ofNat ((c >>> (8 * i)).toNat % 256)

theorem inj_le (c : BitVec 32) (i : Nat) : inj (le c i) = (c >>> (8 * i)) &&& 0xFF#32 := by
  apply BitVec.eq_of_toNat_eq
  have h : (le c i).toNat = (c >>> (8 * i)).toNat % 256 := by
    unfold le
    rw [UInt8.toNat_ofNat']
    exact Nat.mod_mod _ _
  rw [inj, BitVec.toNat_ofNat, h, BitVec.toNat_and]
  rw [show (0xFF#32 : BitVec 32).toNat = 2 ^ 8 - 1 from rfl, Nat.and_two_pow_sub_one_eq_mod]
  have : (c >>> (8 * i)).toNat % 256 < 256 := Nat.mod_lt _ (by decide)
  exact Nat.mod_eq_of_lt (by omega)

/-- eight bits of a register whose low byte is zero: a shift -/
theorem bits_shift (n : Nat) (c : BitVec 32) (h : ∀ i, i < n → c.getLsbD i = false) : bits n c = c >>> n := by
  induction n generalizing c with
  | zero => simp [bits]
  | succ n ih =>
    have hb : bit c = c >>> 1 := by
      unfold bit
      rw [if_neg]
      rw [lsb, h 0 (by omega)]
      simp
    rw [bits, hb, ih (c >>> 1) (fun i hi => by simp; rw [Nat.add_comm]; exact h (i + 1) (by omega)), ← BitVec.shiftRight_add, Nat.add_comm]

/-- s: what is left of the sum that is being laid behind (its bytes above the first) -/
theorem byte_step (c s : BitVec 32) (b : UInt8) (hb : inj b = s &&& 0xFF#32) : byte c b ^^^ (s >>> 8) = bits 8 (c ^^^ s) := by
  have hs : s = (s &&& 0xFF#32) ^^^ (s &&& 0xFFFFFF00#32) := by
    apply BitVec.eq_of_getLsbD_eq
    intro i hi
    simp only [BitVec.getLsbD_xor, BitVec.getLsbD_and]
    have : (0xFF#32).getLsbD i = !(0xFFFFFF00#32).getLsbD i := by
      have : ∀ i : Fin 32, (0xFF#32).getLsbD i.val = !(0xFFFFFF00#32).getLsbD i.val := by decide
      exact this ⟨i, hi⟩
    rw [this]
    cases s.getLsbD i <;> cases (0xFFFFFF00#32).getLsbD i <;> rfl
  have hhi : bits 8 (s &&& 0xFFFFFF00#32) = s >>> 8 := by
    rw [bits_shift 8]
    · apply BitVec.eq_of_getLsbD_eq
      intro i hi
      simp only [BitVec.getLsbD_ushiftRight, BitVec.getLsbD_and]
      by_cases h : 8 + i < 32
      · have : ∀ i : Fin 32, 8 ≤ i.val → (0xFFFFFF00#32).getLsbD i.val = true := by decide
        rw [this ⟨8 + i, h⟩ (by simp)]
        simp
      · rw [BitVec.getLsbD_of_ge _ _ (by omega)]; simp
    · intro i hi
      simp only [BitVec.getLsbD_and]
      have : ∀ i : Fin 8, (0xFFFFFF00#32).getLsbD i.val = false := by decide
      rw [this ⟨i, hi⟩]; simp
  conv => rhs; rw [hs]
  rw [← BitVec.xor_assoc, bits_xor, hhi, ← hb]
  rfl

theorem shr_shr (s : BitVec 32) (i : Nat) : (s >>> (8 * i)) >>> 8 = s >>> (8 * (i + 1)) := by
  rw [← BitVec.shiftRight_add]; congr 1

theorem tail_run (c s : BitVec 32) : run c [le s 0, le s 1, le s 2, le s 3] = bits 8 (bits 8 (bits 8 (bits 8 (c ^^^ s)))) := by
  have h0 := byte_step c (s >>> (8 * 0)) (le s 0) (inj_le s 0)
  rw [shr_shr] at h0
  have h1 := byte_step (byte c (le s 0)) (s >>> (8 * 1)) (le s 1) (inj_le s 1)
  rw [shr_shr, h0] at h1
  have h2 := byte_step (byte (byte c (le s 0)) (le s 1)) (s >>> (8 * 2)) (le s 2) (inj_le s 2)
  rw [shr_shr, h1] at h2
  have h3 := byte_step (byte (byte (byte c (le s 0)) (le s 1)) (le s 2)) (s >>> (8 * 3)) (le s 3) (inj_le s 3)
  rw [shr_shr, h2] at h3
  have hz : s >>> (8 * (3 + 1)) = 0#32 := by
    apply BitVec.eq_of_getLsbD_eq
    intro i hi
    simp only [BitVec.getLsbD_ushiftRight]
    rw [BitVec.getLsbD_of_ge _ _ (by omega)]; simp
  rw [hz, BitVec.xor_zero] at h3
  rw [run_cons, run_cons, run_cons, run_cons, run_nil, h3]
  simp

theorem sum_tail (l : List UInt8) : sum (l ++ [le (sum l) 0, le (sum l) 1, le (sum l) 2, le (sum l) 3]) = 0x2144DF1C#32 := by
  have h : run ones l ^^^ sum l = BitVec.allOnes 32 := by
    unfold sum
    apply BitVec.eq_of_getLsbD_eq
    intro i hi
    rw [BitVec.getLsbD_allOnes, BitVec.getLsbD_xor, BitVec.getLsbD_not]
    cases (run ones l).getLsbD i <;> simp [hi]
  show ~~~ (run ones (l ++ _)) = _
  rw [run_append, tail_run, h]
  decide +kernel

theorem sum_other (l : List UInt8) (a b : UInt8) (h : a ≠ b) : sum (l ++ [a]) ≠ sum (l ++ [b]) := by
  intro he
  have h1 := sum_inj he
  rw [run_append, run_append, run_cons, run_cons, run_nil, run_nil] at h1
  exact h (byte_inj_right h1)

/-! ### texts that are xored -/
def xorL (l k : List UInt8) : List UInt8 := List.zipWith (· ^^^ ·) l k

theorem run_xor (l : List UInt8) : ∀ (k z : List UInt8) (c d e : BitVec 32), l.length = k.length → k.length = z.length → (∀ x ∈ z, x = 0) → run (c ^^^ d ^^^ e) (xorL l k) = run c l ^^^ run d k ^^^ run e z := by
  induction l with
  | nil =>
    intro k z c d e h1 h2 hz
    have : k = [] := List.eq_nil_of_length_eq_zero (by simpa using h1.symm)
    subst this
    have : z = [] := List.eq_nil_of_length_eq_zero (by simpa using h2.symm)
    subst this
    rfl
  | cons a l ih =>
    intro k z c d e h1 h2 hz
    cases k with
    | nil => cases h1
    | cons b k =>
      cases z with
      | nil => cases h2
      | cons y z =>
        have hy : y = 0 := hz y List.mem_cons_self
        subst hy
        have hb : byte (c ^^^ d ^^^ e) (a ^^^ b) = byte c a ^^^ byte d b ^^^ byte e 0 := by
          unfold byte
          rw [← bits_xor, ← bits_xor, ← inj_xor]
          congr 1
          have h0 : inj 0 = 0#32 := rfl
          rw [h0]
          apply BitVec.eq_of_getLsbD_eq
          intro i hi
          simp only [BitVec.getLsbD_xor]
          cases c.getLsbD i <;> cases d.getLsbD i <;> cases e.getLsbD i <;> cases (inj a).getLsbD i <;> cases (inj b).getLsbD i <;> simp
        show run (byte (c ^^^ d ^^^ e) (a ^^^ b)) (xorL l k) = _
        rw [hb, ih k z _ _ _ (by simpa using h1) (by simpa using h2) (fun x hx => hz x (List.mem_cons_of_mem _ hx))]
        rfl

theorem sum_xor (l k z : List UInt8) (h1 : l.length = k.length) (h2 : k.length = z.length) (hz : ∀ x ∈ z, x = 0) : sum (xorL l k) = sum l ^^^ sum k ^^^ sum z := by
  have h := run_xor l k z ones ones ones h1 h2 hz
  have ho : ones ^^^ ones ^^^ ones = ones := by decide
  rw [ho] at h
  unfold sum
  rw [h]
  apply BitVec.eq_of_getLsbD_eq
  intro i hi
  simp only [BitVec.getLsbD_xor, BitVec.getLsbD_not, hi, decide_true, Bool.true_and]
  cases (run ones l).getLsbD i <;> cases (run ones k).getLsbD i <;> cases (run ones z).getLsbD i <;> rfl

theorem sum_one (a b : UInt8) : (sum [a] = sum [b]) ↔ a = b := by
  constructor
  · intro h
    have h1 := sum_inj h
    rw [run_cons, run_cons, run_nil, run_nil] at h1
    exact byte_inj_right h1
  · intro h; rw [h]

end Go.Proofs.Ytllknflphgahfaa.Crc
