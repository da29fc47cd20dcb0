/- Rows that are refused: no walk. -/
import Derived.Test.YtllknflphgahfaaPortL
import Derived.Test.YtllknflphgahfaaRefBytes
namespace Go.Proofs.Ytllknflphgahfaa
open Go Go.RowKit

def Rw.fits (r : Rw) : Prop := 0 ≤ r.t ∧ r.t < 256 ∧ r.k.length < 256 ∧ r.v.length < 256
theorem Rw.fits_of {r : Rw} (h : r.right = true) : r.fits := by
  obtain ⟨h1, h2, h3, h4⟩ := (Rw.right_iff r).1 h
  exact ⟨h1, by omega, by omega, by omega⟩
theorem readR_fits (r : Rw) (h : r.fits) (l : List UInt8) : readR ⟨r.enc ++ l, false⟩ = (r, ⟨l, false⟩) := by
  obtain ⟨h1, h2, h3, h4⟩ := h
  have e : r.enc ++ l = Pk.be r.t.toNat 1 ++ (Pk.be r.k.length 1 ++ (r.k ++ (Pk.be r.v.length 1 ++ (r.v ++ l)))) := by
    have e1 : (r.t % 256).toNat = r.t.toNat := by omega
    have b1 : ∀ (x : Nat) (k : List UInt8), Pk.be x 1 ++ k = UInt8.ofNat x :: k := fun x k => by
      have : UInt8.ofNat (x % 256) = UInt8.ofNat x := (ofNat_mod x).symm
      simp [Pk.be, this]
    unfold Rw.enc
    rw [b1, b1, b1, e1]
    simp
  unfold readR
  have f1 := fun l => Pk.numN_fwd r.t.toNat 1 (by omega) (by omega) l
  have f2 := fun l => Pk.text_fwd r.k l (by omega)
  have f3 := fun l => Pk.text_fwd r.v l (by omega)
  simp only [Int.natCast_one] at f1
  rw [e]
  simp only [f1, f2, f3]
  rw [Int.toNat_of_nonneg h1]
def parseN : Nat → Pk.RS → List Rw
  | 0, _ => []
  | n + 1, s => (readR s).1 :: parseN n (readR s).2
theorem parse_fwd : ∀ (l : List Rw) (rest : List UInt8), (∀ r ∈ l, r.fits) → parseN l.length ⟨rowsL l ++ rest, false⟩ = l
  | [], _, _ => rfl
  | r :: l, rest, h => by
    rw [rowsL_cons, List.append_assoc, List.length_cons]
    unfold parseN
    rw [readR_fits r (h r List.mem_cons_self)]
    simp only
    rw [parse_fwd l rest fun x hx => h x (List.mem_cons_of_mem _ hx)]
theorem portL_inj_fits (a b : List Rw) (ha : ∀ r ∈ a, r.fits) (hb : ∀ r ∈ b, r.fits) (la : a.length < 65536) (lb : b.length < 65536) (h : portL a = portL b) : a = b := by
  have h1 := portL_take a
  rw [h, portL_take b] at h1
  have h2 := bodyL_drop a
  rw [← h1, bodyL_drop b] at h2
  have h3 := List.append_inj h2 (by rw [Pk.be_length, Pk.be_length])
  have h4 := congrArg Pk.num h3.1
  rw [Pk.num_be _ _ (by omega), Pk.num_be _ _ (by omega)] at h4
  have h5 : a.length = b.length := by omega
  have h6 := parse_fwd a [] ha
  rw [← h3.2, h5, parse_fwd b [] hb] at h6
  exact h6.symm
theorem portDec_not (a : List Rw) (ha : ∀ r ∈ a, r.fits) (la : a.length < 65536) (hn : ¬ Rise a) : portDec (portL a) = ([], 9) := by
  rcases portDec_back (portL a) with e | ⟨l, h1, h2, h3⟩
  · exact e
  · exfalso
    have := portL_inj_fits a l ha (fun r hr => Rw.fits_of (h1.right r hr)) la h2 h3
    rw [this] at hn
    exact hn h1
theorem swap_not (l : List Rw) (h : Rise l) (k : Nat) (hk : k + 1 < l.length) : ¬ Rise ((l.set k l[k + 1]).set (k + 1) l[k]) := by
  intro hr
  have h1 := h.step k hk
  have h2 := hr.step k (by simp; omega)
  have e1 : ((l.set k l[k + 1]).set (k + 1) l[k])[k]'(by simp; omega) = l[k + 1] := by
    rw [List.getElem_set, if_neg (by omega), List.getElem_set, if_pos rfl]
  have e2 : ((l.set k l[k + 1]).set (k + 1) l[k])[k + 1]'(by simp; omega) = l[k] := by
    rw [List.getElem_set, if_pos rfl]
  rw [e1, e2, Rw.less_asymm h1] at h2
  cases h2
theorem swap_fits (l : List Rw) (h : ∀ r ∈ l, r.fits) (k : Nat) (hk : k + 1 < l.length) : ∀ r ∈ (l.set k l[k + 1]).set (k + 1) l[k], r.fits := by
  intro r hr
  rcases List.mem_or_eq_of_mem_set hr with h1 | h1
  · rcases List.mem_or_eq_of_mem_set h1 with h2 | h2
    · exact h r h2
    · rw [h2]; exact h _ (List.getElem_mem _)
  · rw [h1]; exact h _ (List.getElem_mem _)
def mkR (i : Nat) : Rw := ⟨0, [UInt8.ofNat i], []⟩
def manyR (n : Nat) : List Rw := (List.range n).map mkR
theorem many_length (n : Nat) : (manyR n).length = n := by simp [manyR]
theorem many_succ (n : Nat) : manyR (n + 1) = manyR n ++ [mkR n] := by simp [manyR, List.range_succ]
theorem many_rise (n : Nat) (hn : n ≤ 256) : Rise (manyR n) := by
  refine rise_of _ (fun r hr => ?_) (fun i hi => ?_)
  · obtain ⟨i, hi, rfl⟩ := List.mem_map.1 hr
    simp [Rw.right, mkR]
  · rw [many_length] at hi
    have e : ∀ j (h : j < (manyR n).length), (manyR n)[j] = mkR j := fun j h => by simp [manyR]
    rw [e, e]
    have hlt : UInt8.ofNat i < UInt8.ofNat (i + 1) := by
      rw [UInt8.lt_iff_toNat_lt, UInt8.toNat_ofNat', UInt8.toNat_ofNat', Nat.mod_eq_of_lt (by omega), Nat.mod_eq_of_lt (by omega)]
      omega
    have hlt2 : UInt8.ofNat i < UInt8.ofNat i + 1 := by simpa using hlt
    simp [Rw.less, mkR, Op.bytesLess, hlt2]
theorem many_dec (n : Nat) (h1 : 30 < n) (h2 : n ≤ 256) : portDec (portL (manyR n)) = ([], 7) := by
  rw [portDec_fwd _ (many_rise n h2) (by rw [many_length]; omega), many_length, if_pos h1]
theorem table4_dec : portDec (portL [⟨4, [], []⟩]) = ([], 9) :=
  portDec_not _ (fun r hr => by rw [List.mem_singleton.1 hr]; exact ⟨by decide, by decide, by decide, by decide⟩) (by decide) (fun h => by
    have := h.head
    simp [Rw.right] at this)
theorem key16_dec : portDec (portL [⟨0, [48, 49, 50, 51, 52, 53, 54, 55, 56, 57, 97, 98, 99, 100, 101, 102], []⟩]) = ([], 9) :=
  portDec_not _ (fun r hr => by rw [List.mem_singleton.1 hr]; exact ⟨by decide, by decide, by decide, by decide⟩) (by decide) (fun h => by
    have := h.head
    simp [Rw.right] at this)
theorem fits_rows : ∀ (l : List Rw), (∀ r ∈ l, r.fits) → (rowsL l).length ≤ 600 * l.length
  | [], _ => by simp [rowsL]
  | r :: l, h => by
    rw [rowsL_cons, List.length_append, List.length_cons, Rw.enc_length]
    obtain ⟨_, _, h3, h4⟩ := h r List.mem_cons_self
    have h2 := fits_rows l fun x hx => h x (List.mem_cons_of_mem _ hx)
    omega
/-- x & m, m of low bits -/
theorem and_low (x : Int) (m : Nat) (k : Nat) (hm : m = 2 ^ k - 1) (hk : k ≤ 20) : ∃ c : Nat, c ≤ m ∧ Go.bits .and .i64 x (m : Int) = (c : Int) := by
  have hm2 : m < 1048576 := by
    have : 2 ^ k ≤ 2 ^ 20 := Nat.pow_le_pow_right (by omega) hk
    omega
  have e : Go.bits .and .i64 x (m : Int) = IntKind.i64.wrap ((((BitVec.ofInt 64 x) &&& (BitVec.ofInt 64 (m : Int))).toNat : Nat) : Int) := rfl
  have h1 : ((BitVec.ofInt 64 x) &&& (BitVec.ofInt 64 (m : Int))).toNat ≤ m := by
    rw [BitVec.toNat_and, BitVec.ofInt_natCast, BitVec.toNat_ofNat, Nat.mod_eq_of_lt (by omega)]
    exact Nat.and_le_right
  refine ⟨_, h1, ?_⟩
  rw [e, IntKind.wrap_i64]
  generalize ((BitVec.ofInt 64 x) &&& (BitVec.ofInt 64 (m : Int))).toNat = z at *
  omega
end Go.Proofs.Ytllknflphgahfaa
