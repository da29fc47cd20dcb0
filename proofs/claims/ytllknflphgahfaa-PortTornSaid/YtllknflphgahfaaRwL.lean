/- Rows as plain lists of bytes: no Go, no memory. -/
import Derived.Test.YtllknflphgahfaaPackB
import Derived.Test.YtllknflphgahfaaCrc2
import Derived.Test.YtllknflphgahfaaBase
namespace Go.Proofs.Ytllknflphgahfaa
open Go

/-- a row -/
structure Rw where
  t : Int
  k : List UInt8
  v : List UInt8
deriving DecidableEq

def Rw.right (r : Rw) : Bool := decide (0 ≤ r.t) && decide (r.t < 4) && decide (r.k.length ≤ 15) && decide (r.v.length ≤ 21)
theorem Rw.right_iff (r : Rw) : r.right = true ↔ 0 ≤ r.t ∧ r.t < 4 ∧ r.k.length ≤ 15 ∧ r.v.length ≤ 21 := by
  simp [Rw.right, and_assoc]
def Rw.less (a b : Rw) : Bool := decide (a.t < b.t) || (a.t == b.t && Op.bytesLess a.k b.k)

theorem bytesLess_irrefl (k : List UInt8) : Op.bytesLess k k = false := by
  induction k with
  | nil => rfl
  | cons a k ih => simp [Op.bytesLess, ih]
theorem bytesLess_trans : ∀ (k l m : List UInt8), Op.bytesLess k l = true → Op.bytesLess l m = true → Op.bytesLess k m = true
  | _, _, [], _, h => by cases ‹List UInt8› <;> simp [Op.bytesLess] at h
  | _, [], _ :: _, h, _ => by cases ‹List UInt8› <;> simp [Op.bytesLess] at h
  | [], _ :: _, _ :: _, _, _ => by simp [Op.bytesLess]
  | a :: k, b :: l, c :: m, h, g => by
    simp only [Op.bytesLess, Bool.or_eq_true, Bool.and_eq_true, decide_eq_true_eq, beq_iff_eq] at h g ⊢
    rcases h with h | ⟨rfl, h⟩
    · rcases g with g | ⟨rfl, g⟩
      · exact .inl (UInt8.lt_trans h g)
      · exact .inl h
    · rcases g with g | ⟨rfl, g⟩
      · exact .inl g
      · exact .inr ⟨rfl, bytesLess_trans k l m h g⟩
theorem bytesLess_total : ∀ (k l : List UInt8), Op.bytesLess k l = false → Op.bytesLess l k = false → k = l
  | [], [], _, _ => rfl
  | [], _ :: _, h, _ => by simp [Op.bytesLess] at h
  | _ :: _, [], _, h => by simp [Op.bytesLess] at h
  | a :: k, b :: l, h, g => by
    simp only [Op.bytesLess, Bool.or_eq_false_iff, Bool.and_eq_false_iff, decide_eq_false_iff_not, beq_eq_false_iff_ne] at h g
    obtain ⟨h1, h2⟩ := h
    obtain ⟨g1, g2⟩ := g
    have hab : a = b := by
      rcases UInt8.lt_or_lt_of_ne (a := a) (b := b) |> fun f => Classical.em (a = b) with h | h
      · exact h
      · rcases UInt8.lt_or_lt_of_ne h with h' | h'
        · exact absurd h' h1
        · exact absurd h' g1
    subst hab
    rcases h2 with h2 | h2
    · exact absurd rfl h2
    · rcases g2 with g2 | g2
      · exact absurd rfl g2
      · rw [bytesLess_total k l h2 g2]
theorem Rw.less_irrefl (a : Rw) : a.less a = false := by simp [Rw.less, bytesLess_irrefl]
theorem Rw.less_trans {a b c : Rw} (h : a.less b = true) (g : b.less c = true) : a.less c = true := by
  simp only [Rw.less, Bool.or_eq_true, Bool.and_eq_true, decide_eq_true_eq, beq_iff_eq] at h g ⊢
  rcases h with h | ⟨h1, h2⟩
  · rcases g with g | ⟨g1, g2⟩
    · exact .inl (by omega)
    · exact .inl (by omega)
  · rcases g with g | ⟨g1, g2⟩
    · exact .inl (by omega)
    · exact .inr ⟨by omega, bytesLess_trans _ _ _ h2 g2⟩
theorem Rw.less_asymm {a b : Rw} (h : a.less b = true) : b.less a = false := by
  cases hb : b.less a with
  | false => rfl
  | true => rw [← Rw.less_irrefl a, Rw.less_trans h hb]

/-- rows that rise, each of which may be -/
def Rise : List Rw → Prop
  | [] => True
  | [r] => r.right = true
  | r :: s :: l => r.right = true ∧ r.less s = true ∧ Rise (s :: l)
theorem Rise.tail {r : Rw} {l : List Rw} (h : Rise (r :: l)) : Rise l := by
  cases l with
  | nil => trivial
  | cons s l => exact h.2.2
theorem Rise.head {r : Rw} {l : List Rw} (h : Rise (r :: l)) : r.right = true := by
  cases l with
  | nil => exact h
  | cons s l => exact h.1
theorem Rise.right : ∀ {l : List Rw}, Rise l → ∀ r ∈ l, r.right = true
  | [], _, r, hr => by cases hr
  | s :: l, h, r, hr => by
    rcases List.mem_cons.1 hr with rfl | hr
    · exact h.head
    · exact Rise.right h.tail r hr
theorem Rise.step : ∀ {l : List Rw}, Rise l → ∀ (i : Nat) (h : i + 1 < l.length), (l[i]).less l[i + 1] = true
  | r :: s :: l, h, 0, _ => h.2.1
  | r :: s :: l, h, i + 1, hi => by
    have := Rise.step h.tail i (by simpa using hi)
    simpa using this
theorem rise_of : ∀ (l : List Rw), (∀ r ∈ l, r.right = true) → (∀ (i : Nat) (h : i + 1 < l.length), (l[i]).less l[i + 1] = true) → Rise l
  | [], _, _ => trivial
  | [r], h, _ => h r List.mem_cons_self
  | r :: s :: l, h, g => ⟨h r List.mem_cons_self, g 0 (by simp), rise_of (s :: l) (fun x hx => h x (List.mem_cons_of_mem _ hx)) (fun i hi => by
    have := g (i + 1) (by simpa using hi)
    simpa using this)⟩
/-- one put into its place -/
theorem Rise.insert {l : List Rw} (h : Rise l) (r : Rw) (hr : r.right = true) (k : Nat) (hk : k ≤ l.length) (h1 : ∀ h : k < l.length, r.less l[k] = true) (h2 : ∀ h : 0 < k, (l[k - 1]'(by omega)).less r = true) : Rise (l.take k ++ r :: l.drop k) := by
  refine rise_of _ (fun x hx => ?_) (fun i hi => ?_)
  · rcases List.mem_append.1 hx with hx | hx
    · exact h.right x (List.mem_of_mem_take hx)
    · rcases List.mem_cons.1 hx with rfl | hx
      · exact hr
      · exact h.right x (List.mem_of_mem_drop hx)
  · have hlen : (l.take k ++ r :: l.drop k).length = l.length + 1 := by simp; omega
    rw [hlen] at hi
    have get : ∀ (j : Nat) (hj : j < l.length + 1), (l.take k ++ r :: l.drop k)[j]'(by rw [hlen]; exact hj) = if h : j < k then l[j]'(by omega) else if h : j = k then r else l[j - 1]'(by omega) := by
      intro j hj
      split
      · rename_i h'
        rw [List.getElem_append_left (by simp; omega), List.getElem_take]
      · rename_i h'
        rw [List.getElem_append_right (by simp; omega)]
        split
        · rename_i h''
          subst h''
          have e : j - (l.take j).length = 0 := by simp; omega
          simp only [e, List.getElem_cons_zero]
        · rename_i h''
          have e : j - (l.take k).length = (j - k - 1) + 1 := by simp; omega
          simp only [e, List.getElem_cons_succ, List.getElem_drop]
          congr 1
          omega
    rw [get i (by omega), get (i + 1) (by omega)]
    by_cases c1 : i + 1 < k
    · rw [dif_pos (by omega), dif_pos c1]
      exact h.step i (by omega)
    · by_cases c2 : i + 1 = k
      · rw [dif_pos (by omega), dif_neg (by omega), dif_pos c2]
        have := h2 (by omega)
        have e : k - 1 = i := by omega
        simp only [e] at this
        exact this
      · by_cases c3 : i = k
        · rw [dif_neg (by omega), dif_pos c3, dif_neg (by omega), dif_neg (by omega)]
          subst c3
          exact h1 (by omega)
        · rw [dif_neg (by omega), dif_neg (by omega), dif_neg (by omega), dif_neg (by omega)]
          have := h.step (i - 1) (by omega)
          have e : i - 1 + 1 = i := by omega
          simp only [e] at this
          exact this
/-- one more at the end -/
theorem Rise.snoc {l : List Rw} (h : Rise l) (r : Rw) (hr : r.right = true) (h2 : ∀ h : 0 < l.length, (l[l.length - 1]'(by omega)).less r = true) : Rise (l ++ [r]) := by
  have := h.insert r hr l.length (Nat.le_refl _) (fun h => absurd h (by omega)) h2
  simpa using this
theorem Rise.take {l : List Rw} (h : Rise l) (n : Nat) : Rise (l.take n) :=
  rise_of _ (fun r hr => h.right r (List.mem_of_mem_take hr)) (fun i hi => by
    rw [List.getElem_take, List.getElem_take]
    rw [List.length_take] at hi
    exact h.step i (by omega))

/-! ### Their bytes -/
def Rw.enc (r : Rw) : List UInt8 := UInt8.ofNat (r.t % 256).toNat :: UInt8.ofNat r.k.length :: (r.k ++ UInt8.ofNat r.v.length :: r.v)
def rowsL (l : List Rw) : List UInt8 := l.flatMap Rw.enc
def magicL : List UInt8 := [84, 78, 77, 49]
def bodyL (l : List Rw) : List UInt8 := magicL ++ (Pk.be l.length 2 ++ rowsL l)
def crcL (l : List UInt8) : List UInt8 := Pk.be (Crc.sum l).toNat 4
def portL (l : List Rw) : List UInt8 := bodyL l ++ crcL (bodyL l)
theorem crcL_length (l : List UInt8) : (crcL l).length = 4 := Pk.be_length _ _
theorem Rw.enc_length (r : Rw) : r.enc.length = 3 + r.k.length + r.v.length := by
  unfold Rw.enc
  simp only [List.length_cons, List.length_append]
  omega
theorem bodyL_length (l : List Rw) : (bodyL l).length = 6 + (rowsL l).length := by
  unfold bodyL magicL
  simp only [List.length_append, Pk.be_length, List.length_cons, List.length_nil]
  omega
theorem portL_length (l : List Rw) : (portL l).length = 10 + (rowsL l).length := by
  unfold portL
  rw [List.length_append, crcL_length, bodyL_length]
  omega
theorem rowsL_take (l : List Rw) (j : Nat) (h : j < l.length) : rowsL (l.take (j + 1)) = rowsL (l.take j) ++ l[j].enc := by
  unfold rowsL
  rw [List.take_add_one, List.getElem?_eq_getElem h, List.flatMap_append]
  simp
theorem rowsL_cons (r : Rw) (l : List Rw) : rowsL (r :: l) = r.enc ++ rowsL l := by unfold rowsL; rw [List.flatMap_cons]
theorem rowsL_append (a b : List Rw) : rowsL (a ++ b) = rowsL a ++ rowsL b := by unfold rowsL; rw [List.flatMap_append]
theorem rowsL_le : ∀ (l : List Rw), (∀ r ∈ l, r.right = true) → (rowsL l).length ≤ 39 * l.length
  | [], _ => by simp [rowsL]
  | r :: l, h => by
    rw [rowsL_cons, List.length_append, List.length_cons, Rw.enc_length]
    have h1 := (Rw.right_iff r).1 (h r List.mem_cons_self)
    have h2 := rowsL_le l fun x hx => h x (List.mem_cons_of_mem _ hx)
    omega
theorem rowsL_ge : ∀ (l : List Rw), 3 * l.length ≤ (rowsL l).length
  | [] => by simp
  | r :: l => by
    rw [rowsL_cons, List.length_append, List.length_cons, Rw.enc_length]
    have h2 := rowsL_ge l
    omega
end Go.Proofs.Ytllknflphgahfaa
