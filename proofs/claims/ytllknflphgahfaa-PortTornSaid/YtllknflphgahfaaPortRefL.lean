/- What the document's Rows is, step by step: no walk. -/
import Derived.Test.YtllknflphgahfaaPortL
namespace Go.Proofs.Ytllknflphgahfaa
open Go Go.RowKit

theorem numN_one (t : UInt8) (M : List UInt8) : Pk.numN ⟨t :: M, false⟩ 1 = (t.toNat, ⟨M, false⟩) := by
  have h := Pk.numN_front [t] M 1 rfl (by simp) (by simp)
  have e : Pk.num [t] = t.toNat := by
    have := t.toNat_lt
    simp [Pk.num]
    try omega
  rw [e] at h
  exact h
theorem text_of (k : UInt8) (M : List UInt8) : Pk.text ⟨k :: M, false⟩ = if M.length < k.toNat then ([], ⟨M, true⟩) else (M.take k.toNat, ⟨M.drop k.toNat, false⟩) := by
  unfold Pk.text
  rw [numN_one]
  simp only
  unfold Pk.take
  by_cases h : M.length < k.toNat
  · rw [if_pos h, if_pos (.inr (.inr (by simp only; omega)))]
  · rw [if_neg h, if_neg (by simp only; intro hh; rcases hh with hh | hh | hh; cases hh; omega; omega)]
    simp
theorem text_nil : (Pk.text ⟨[], false⟩).2.bad = true := by decide
theorem numN_nil1 : (Pk.numN ⟨[], false⟩ 1).2.bad = true := by decide

theorem readR_short {L : List UInt8} (h : L.length < 2) : (readR ⟨L, false⟩).2.bad = true := by
  match L, h with
  | [], _ => exact Pk.text_bad (Pk.text_bad numN_nil1)
  | [t], _ =>
    unfold readR
    rw [numN_one]
    exact Pk.text_bad text_nil
theorem readR_two (t k : UInt8) (M : List UInt8) : readR ⟨t :: k :: M, false⟩ = (⟨(t.toNat : Int), (Pk.text ⟨k :: M, false⟩).1, (Pk.text (Pk.text ⟨k :: M, false⟩).2).1⟩, (Pk.text (Pk.text ⟨k :: M, false⟩).2).2) := by
  unfold readR
  rw [numN_one]
theorem readR_key {t k : UInt8} {M : List UInt8} (h : M.length < k.toNat + 1) : (readR ⟨t :: k :: M, false⟩).2.bad = true := by
  rw [readR_two]
  simp only
  rw [text_of]
  by_cases hc : M.length < k.toNat
  · rw [if_pos hc]
    exact Pk.text_bad rfl
  · rw [if_neg hc]
    have e : M.drop k.toNat = [] := List.drop_eq_nil_of_le (by omega)
    simp only
    rw [e]
    exact text_nil
theorem readR_full {t k v : UInt8} {M V : List UInt8} (h : k.toNat ≤ M.length) (hv : M.drop k.toNat = v :: V) : readR ⟨t :: k :: M, false⟩ = if V.length < v.toNat then (⟨t.toNat, M.take k.toNat, []⟩, ⟨V, true⟩) else (⟨t.toNat, M.take k.toNat, V.take v.toNat⟩, ⟨V.drop v.toNat, false⟩) := by
  rw [readR_two, text_of, if_neg (by omega)]
  simp only
  rw [hv, text_of]
  split <;> rfl

/-- what is left from place at on -/
def leftAt (b : List UInt8) (at_ : Nat) : Pk.RS := ⟨(b.take (b.length - 4)).drop at_, false⟩
theorem left_drop (b : List UInt8) (i : Nat) : (b.take (b.length - 4)).drop i = (b.drop i).take (b.length - 4 - i) := List.drop_take
theorem left_cons (b : List UInt8) (i : Nat) (h : i < b.length - 4) : (b.take (b.length - 4)).drop i = b[i]'(by omega) :: (b.take (b.length - 4)).drop (i + 1) := by
  rw [List.drop_eq_getElem_cons (by rw [List.length_take]; omega), List.getElem_take]
theorem mid_num (b : List UInt8) (h : 10 ≤ b.length) : Pk.numN (midR b) 2 = ((b[4]'(by omega)).toNat * 256 + (b[5]'(by omega)).toNat, leftAt b 6) := by
  unfold midR leftAt
  rw [left_cons b 4 (by omega), left_cons b 5 (by omega)]
  have h2 := Pk.numN_front [b[4]'(by omega), b[5]'(by omega)] ((b.take (b.length - 4)).drop 6) 2 rfl (by simp) (by simp)
  have e : Pk.num [b[4]'(by omega), b[5]'(by omega)] = (b[4]'(by omega)).toNat * 256 + (b[5]'(by omega)).toNat := by
    have h3 := (b[4]'(by omega)).toNat_lt
    have h4 := (b[5]'(by omega)).toNat_lt
    simp [Pk.num]
    try omega
  rw [e] at h2
  exact h2

/-- all that is told of the reading so far -/
def Sofar (b : List UInt8) (N i at_ : Nat) (l : List Rw) : Prop := decR N [] (leftAt b 6) = decR (N - i) l (leftAt b at_)
theorem fail_of (b : List UInt8) (h : 10 ≤ b.length) (N i at_ : Nat) (hN : N = (b[4]'(by omega)).toNat * 256 + (b[5]'(by omega)).toNat) (l : List Rw) (hs : Sofar b N i at_ l) (hi : i < N) (hno : stepOk l (readR (leftAt b at_)) = false) : portDec b = ([], 9) := by
  have h1 : decR N [] (leftAt b 6) = none := by
    rw [hs, show N - i = (N - (i + 1)) + 1 by omega]
    simp only [decR]
    rw [if_neg (by rw [hno]; exact Bool.false_ne_true)]
  unfold portDec
  split
  · rw [mid_num b h]
    simp only
    rw [← hN, h1]
    rfl
  · rfl
theorem bad_no {l : List Rw} {q : Rw × Pk.RS} (h : q.2.bad = true) : stepOk l q = false := by simp [stepOk, h]
theorem fail_short (b : List UInt8) (h : 10 ≤ b.length) (N i at_ : Nat) (hN : N = (b[4]'(by omega)).toNat * 256 + (b[5]'(by omega)).toNat) (l : List Rw) (hs : Sofar b N i at_ l) (hi : i < N) (h2 : b.length - 4 < at_ + 2) : portDec b = ([], 9) :=
  fail_of b h N i at_ hN l hs hi (bad_no (readR_short (by rw [List.length_drop, List.length_take]; omega)))
theorem left_two (b : List UInt8) (at_ : Nat) (h : at_ + 2 ≤ b.length - 4) : leftAt b at_ = ⟨b[at_]'(by omega) :: b[at_ + 1]'(by omega) :: (b.take (b.length - 4)).drop (at_ + 2), false⟩ := by
  unfold leftAt
  rw [left_cons b at_ (by omega), left_cons b (at_ + 1) (by omega)]
theorem fail_key (b : List UInt8) (h : 10 ≤ b.length) (N i at_ : Nat) (hN : N = (b[4]'(by omega)).toNat * 256 + (b[5]'(by omega)).toNat) (l : List Rw) (hs : Sofar b N i at_ l) (hi : i < N) (h1 : at_ + 2 ≤ b.length - 4) (h2 : b.length - 4 < at_ + 2 + (b[at_ + 1]'(by omega)).toNat + 1) : portDec b = ([], 9) := by
  refine fail_of b h N i at_ hN l hs hi (bad_no ?_)
  rw [left_two b at_ h1]
  exact readR_key (by rw [List.length_drop, List.length_take]; omega)
/-- the row that stands at a place -/
def rowAt (b : List UInt8) (at_ k : Nat) (t v : UInt8) : Rw := ⟨t.toNat, (b.drop (at_ + 2)).take k, (b.drop (at_ + 3 + k)).take v.toNat⟩
theorem read_at (b : List UInt8) (at_ k : Nat) (t v : UInt8) (h1 : at_ + 2 ≤ b.length - 4) (hk : (b[at_ + 1]'(by omega)).toNat = k) (h2 : at_ + 2 + k + 1 ≤ b.length - 4) (ht : b[at_]'(by omega) = t) (hv : b[at_ + 2 + k]'(by omega) = v) :
    readR (leftAt b at_) = if b.length - 4 < at_ + 3 + k + v.toNat then (⟨t.toNat, (b.drop (at_ + 2)).take k, []⟩, ⟨(b.take (b.length - 4)).drop (at_ + 3 + k), true⟩) else (rowAt b at_ k t v, leftAt b (at_ + 3 + k + v.toNat)) := by
  rw [left_two b at_ h1]
  have e1 : ((b.take (b.length - 4)).drop (at_ + 2)).drop (b[at_ + 1]'(by omega)).toNat = v :: (b.take (b.length - 4)).drop (at_ + 3 + k) := by
    rw [List.drop_drop, hk, left_cons b (at_ + 2 + k) (by omega), hv, show at_ + 2 + k + 1 = at_ + 3 + k by omega]
  have h3 := readR_full (t := b[at_]'(by omega)) (k := b[at_ + 1]'(by omega)) (by rw [List.length_drop, List.length_take]; omega) e1
  rw [h3, hk, ht]
  have e2 : ((b.take (b.length - 4)).drop (at_ + 2)).take k = (b.drop (at_ + 2)).take k := by
    rw [left_drop, List.take_take, Nat.min_eq_left (by omega)]
  have e3 : ((b.take (b.length - 4)).drop (at_ + 3 + k)).length = b.length - 4 - (at_ + 3 + k) := by rw [List.length_drop, List.length_take]; omega
  rw [e2, e3]
  by_cases hc : b.length - 4 < at_ + 3 + k + v.toNat
  · rw [if_pos hc, if_pos (by omega)]
  · rw [if_neg hc, if_neg (by omega)]
    unfold rowAt leftAt
    rw [List.drop_drop]
    have e4 : ((b.take (b.length - 4)).drop (at_ + 3 + k)).take v.toNat = (b.drop (at_ + 3 + k)).take v.toNat := by
      rw [left_drop, List.take_take, Nat.min_eq_left (by omega)]
    rw [e4]
theorem fail_value (b : List UInt8) (h : 10 ≤ b.length) (N i at_ k : Nat) (t v : UInt8) (hN : N = (b[4]'(by omega)).toNat * 256 + (b[5]'(by omega)).toNat) (l : List Rw) (hs : Sofar b N i at_ l) (hi : i < N) (h1 : at_ + 2 ≤ b.length - 4) (hk : (b[at_ + 1]'(by omega)).toNat = k) (h2 : at_ + 2 + k + 1 ≤ b.length - 4) (ht : b[at_]'(by omega) = t) (hv : b[at_ + 2 + k]'(by omega) = v)
    (h3 : b.length - 4 < at_ + 3 + k + v.toNat) : portDec b = ([], 9) := by
  refine fail_of b h N i at_ hN l hs hi (bad_no ?_)
  rw [read_at b at_ k t v h1 hk h2 ht hv, if_pos h3]
theorem fail_row (b : List UInt8) (h : 10 ≤ b.length) (N i at_ k : Nat) (t v : UInt8) (hN : N = (b[4]'(by omega)).toNat * 256 + (b[5]'(by omega)).toNat) (l : List Rw) (hs : Sofar b N i at_ l) (hi : i < N) (h1 : at_ + 2 ≤ b.length - 4) (hk : (b[at_ + 1]'(by omega)).toNat = k) (h2 : at_ + 2 + k + 1 ≤ b.length - 4) (ht : b[at_]'(by omega) = t) (hv : b[at_ + 2 + k]'(by omega) = v)
    (h3 : at_ + 3 + k + v.toNat ≤ b.length - 4) (hno : ((rowAt b at_ k t v).right && follows l (rowAt b at_ k t v)) = false) : portDec b = ([], 9) := by
  refine fail_of b h N i at_ hN l hs hi ?_
  rw [read_at b at_ k t v h1 hk h2 ht hv, if_neg (by omega)]
  unfold stepOk leftAt
  simp only [Bool.not_false, Bool.true_and]
  exact hno
theorem next_row (b : List UInt8) (N i at_ k : Nat) (t v : UInt8) (l : List Rw) (hs : Sofar b N i at_ l) (hi : i < N) (h1 : at_ + 2 ≤ b.length - 4) (hk : (b[at_ + 1]'(by omega)).toNat = k) (h2 : at_ + 2 + k + 1 ≤ b.length - 4) (ht : b[at_]'(by omega) = t) (hv : b[at_ + 2 + k]'(by omega) = v)
    (h3 : at_ + 3 + k + v.toNat ≤ b.length - 4) (hok : ((rowAt b at_ k t v).right && follows l (rowAt b at_ k t v)) = true) : Sofar b N (i + 1) (at_ + 3 + k + v.toNat) (l ++ [rowAt b at_ k t v]) := by
  unfold Sofar at *
  rw [hs, show N - i = (N - (i + 1)) + 1 by omega]
  simp only [decR]
  have e := read_at b at_ k t v h1 hk h2 ht hv
  rw [if_neg (by omega)] at e
  rw [e]
  rw [if_pos (by unfold stepOk leftAt; simp only [Bool.not_false, Bool.true_and]; exact hok)]
/-- at the end -/
theorem end_of (b : List UInt8) (h : 10 ≤ b.length) (N at_ : Nat) (hN : N = (b[4]'(by omega)).toNat * 256 + (b[5]'(by omega)).toNat) (l : List Rw) (hs : Sofar b N N at_ l) (hr : Rise l) (hl : l.length = N) :
    portDec b = if portL l = b then (if 30 < N then ([], 7) else (l, 0)) else ([], 9) := by
  have hN2 : N < 65536 := by
    have h3 := (b[4]'(by omega)).toNat_lt
    have h4 := (b[5]'(by omega)).toNat_lt
    omega
  by_cases hc : portL l = b
  · rw [if_pos hc, ← hc, portDec_fwd l hr (by omega), hl]
  · rw [if_neg hc]
    rcases portDec_back b with e | ⟨k, h1, h2, h3⟩
    · exact e
    · exfalso
      apply hc
      have h4 := decR_fwd k [] [] (by simpa using h1)
      rw [List.append_nil] at h4
      have h5 : Pk.numN (midR b) 2 = (k.length, ⟨rowsL k, false⟩) := by
        have hm : midR b = ⟨Pk.be k.length 2 ++ rowsL k, false⟩ := by
          unfold midR
          rw [h3, portL_take, bodyL_drop]
        rw [hm]
        exact Pk.numN_fwd k.length 2 (by omega) (by omega) (rowsL k)
      rw [mid_num b h, ← hN] at h5
      have h6 := (Prod.mk.inj h5)
      unfold Sofar at hs
      rw [h6.2, ← h6.1.symm, Nat.sub_self] at hs
      rw [h4] at hs
      simp only [decR, List.nil_append, Option.some.injEq, Prod.mk.injEq] at hs
      rw [← hs.1, h3]
end Go.Proofs.Ytllknflphgahfaa
