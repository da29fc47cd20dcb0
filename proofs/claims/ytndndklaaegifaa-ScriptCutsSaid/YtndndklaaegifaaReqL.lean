/- Requests as plain lists of bytes: no Go, no memory. -/
import Derived.Test.YtndndklaaegifaaPackB
namespace Go.Proofs.Ytndndklaaegifaa

/-- a request -/
structure Rq where
  kind : Int
  tenant : Int
  handle : Int
  table : Int
  key : List UInt8
  value : List UInt8
  to_ : List UInt8
  n : Int
  mask : Nat
  data : List UInt8
deriving DecidableEq

def txt (s : List UInt8) : List UInt8 := Pk.be s.length 1 ++ s
theorem txt_length (s : List UInt8) : (txt s).length = s.length + 1 := by unfold txt; rw [List.length_append, Pk.be_length]; omega
/-- an int as eight bytes have it -/
def u64 (x : Int) : Nat := (x % 18446744073709551616).toNat
def w64 (x : Nat) : Int := if x < 9223372036854775808 then (x : Int) else (x : Int) - 18446744073709551616
theorem u64_lt (x : Int) : u64 x < 256 ^ 8 := by unfold u64; omega
theorem w64_u64 (x : Int) (h : -9223372036854775808 ≤ x ∧ x < 9223372036854775808) : w64 (u64 x) = x := by
  unfold w64 u64
  split <;> omega
theorem u64_w64 (x : Nat) (h : x < 256 ^ 8) : u64 (w64 x) = x := by
  unfold w64 u64
  split <;> omega
theorem w64_bounds (x : Nat) (h : x < 256 ^ 8) : -9223372036854775808 ≤ w64 x ∧ w64 x < 9223372036854775808 := by
  unfold w64
  split <;> omega

def Rq.enc (q : Rq) : List UInt8 :=
  Pk.be q.kind.toNat 1 ++ (Pk.be q.tenant.toNat 1 ++ (Pk.be q.table.toNat 1 ++ (Pk.be (u64 q.handle) 8 ++ (Pk.be q.n.toNat 2 ++ (txt q.key ++ (txt q.value ++ (txt q.to_ ++ (Pk.be q.mask 8 ++ txt q.data))))))))
theorem Rq.enc_length (q : Rq) : q.enc.length = 25 + q.key.length + q.value.length + q.to_.length + q.data.length := by
  unfold Rq.enc
  simp only [List.length_append, Pk.be_length, txt_length]
  omega
/-- small enough to be laid in bytes -/
structure Rq.Fits (q : Rq) : Prop where
  k : 0 ≤ q.kind ∧ q.kind < 256
  t : 0 ≤ q.tenant ∧ q.tenant < 256
  h : -9223372036854775808 ≤ q.handle ∧ q.handle < 9223372036854775808
  b : 0 ≤ q.table ∧ q.table < 256
  key : q.key.length < 256
  value : q.value.length < 256
  to_ : q.to_.length < 256
  n : 0 ≤ q.n ∧ q.n < 65536
  m : q.mask < 256 ^ 8
  d : q.data.length < 256

/-- what a reader gives next -/
def readQ (s : Pk.RS) : Rq × Pk.RS :=
  let a := Pk.numN s 1
  let b := Pk.numN a.2 1
  let c := Pk.numN b.2 1
  let h := Pk.numN c.2 8
  let n := Pk.numN h.2 2
  let k := Pk.text n.2
  let v := Pk.text k.2
  let t := Pk.text v.2
  let m := Pk.numN t.2 8
  let d := Pk.text m.2
  (⟨a.1, b.1, w64 h.1, c.1, k.1, v.1, t.1, n.1, m.1, d.1⟩, d.2)
def badQ : Rq := ⟨-1, 0, 0, 0, [], [], [], 0, 0, []⟩

theorem readQ_fwd (q : Rq) (hf : q.Fits) (l : List UInt8) : readQ ⟨q.enc ++ l, false⟩ = (q, ⟨l, false⟩) := by
  obtain ⟨hk, ht, hh, hb, h1, h2, h3, hn, hm, hd⟩ := hf
  unfold readQ Rq.enc txt
  have e1 := fun l => Pk.numN_fwd q.kind.toNat 1 (by omega) (by omega) l
  have e2 := fun l => Pk.numN_fwd q.tenant.toNat 1 (by omega) (by omega) l
  have e3 := fun l => Pk.numN_fwd q.table.toNat 1 (by omega) (by omega) l
  have e4 := fun l => Pk.numN_fwd (u64 q.handle) 8 (by omega) (u64_lt _) l
  have e5 := fun l => Pk.numN_fwd q.n.toNat 2 (by omega) (by omega) l
  have e6 := fun l => Pk.text_fwd q.key l h1
  have e7 := fun l => Pk.text_fwd q.value l h2
  have e8 := fun l => Pk.text_fwd q.to_ l h3
  have e9 := fun l => Pk.numN_fwd q.mask 8 (by omega) hm l
  have e10 := fun l => Pk.text_fwd q.data l hd
  simp only [Int.natCast_one, show ((2 : Nat) : Int) = 2 from rfl, show ((8 : Nat) : Int) = 8 from rfl] at e1 e2 e3 e4 e5 e9
  simp only [List.append_assoc, e1, e2, e3, e4, e5, e6, e7, e8, e9, e10]
  rw [Int.toNat_of_nonneg hk.1, Int.toNat_of_nonneg ht.1, Int.toNat_of_nonneg hb.1, Int.toNat_of_nonneg hn.1, w64_u64 _ hh]

theorem readQ_back (s : Pk.RS) (h : (readQ s).2.bad = false) : s.bad = false ∧ (readQ s).1.Fits ∧ s.l = (readQ s).1.enc ++ (readQ s).2.l := by
  unfold readQ at h ⊢
  simp only at h ⊢
  generalize ha : Pk.numN s 1 = a at *
  generalize hb : Pk.numN a.2 1 = b at *
  generalize hc : Pk.numN b.2 1 = c at *
  generalize hh : Pk.numN c.2 8 = hx at *
  generalize hn : Pk.numN hx.2 2 = n at *
  generalize hk : Pk.text n.2 = k at *
  generalize hv : Pk.text k.2 = v at *
  generalize ht : Pk.text v.2 = t at *
  generalize hm : Pk.numN t.2 8 = m at *
  generalize hd : Pk.text m.2 = d at *
  obtain ⟨a, sa⟩ := a
  obtain ⟨b, sb⟩ := b
  obtain ⟨c, sc⟩ := c
  obtain ⟨hx, sh⟩ := hx
  obtain ⟨n, sn⟩ := n
  obtain ⟨k, sk⟩ := k
  obtain ⟨v, sv⟩ := v
  obtain ⟨t, st⟩ := t
  obtain ⟨m, sm⟩ := m
  obtain ⟨d, sd⟩ := d
  simp only at *
  have rs : ∀ z : Pk.RS, z.bad = false → z = ⟨z.l, false⟩ := fun z hz => by cases z; simp_all
  rw [rs sd h] at hd
  obtain ⟨b9, l9, x9⟩ := Pk.text_back hd
  rw [rs sm b9] at hm
  obtain ⟨b8, l8, x8⟩ := Pk.numN_back (n := 8) (by omega) hm
  rw [rs st b8] at ht
  obtain ⟨b7, l7, x7⟩ := Pk.text_back ht
  rw [rs sv b7] at hv
  obtain ⟨b6, l6, x6⟩ := Pk.text_back hv
  rw [rs sk b6] at hk
  obtain ⟨b5, l5, x5⟩ := Pk.text_back hk
  rw [rs sn b5] at hn
  obtain ⟨b4, l4, x4⟩ := Pk.numN_back (n := 2) (by omega) hn
  rw [rs sh b4] at hh
  obtain ⟨b3, l3, x3⟩ := Pk.numN_back (n := 8) (by omega) hh
  rw [rs sc b3] at hc
  obtain ⟨b2, l2, x2⟩ := Pk.numN_back (n := 1) (by omega) hc
  rw [rs sb b2] at hb
  obtain ⟨b1, l1, x1⟩ := Pk.numN_back (n := 1) (by omega) hb
  rw [rs sa b1] at ha
  obtain ⟨b0, l0, x0⟩ := Pk.numN_back (n := 1) (by omega) ha
  refine ⟨b0, ⟨by simp only; omega, by simp only; omega, w64_bounds _ x3, by simp only; omega, x5, x6, x7, by simp only; omega, x8, x9⟩, ?_⟩
  unfold Rq.enc txt
  simp only [Int.toNat_natCast, u64_w64 _ x3]
  rw [l0, l1, l2, l3, l4, l5, l6, l7, l8, l9]
  simp only [List.append_assoc]

theorem readQ_less (l : List UInt8) (h : (readQ ⟨l, false⟩).2.bad = false) : (readQ ⟨l, false⟩).2.l.length + 25 ≤ l.length := by
  obtain ⟨_, _, h3⟩ := readQ_back _ h
  have := congrArg List.length h3
  rw [List.length_append, Rq.enc_length] at this
  simp only at this
  omega

/-- the requests of bytes -/
def decAll : Nat → List UInt8 → List Rq
  | 0, _ => []
  | f + 1, l => if l.length = 0 then [] else if (readQ ⟨l, false⟩).2.bad = true then [badQ] else (readQ ⟨l, false⟩).1 :: decAll f (readQ ⟨l, false⟩).2.l
def decL (l : List UInt8) : List Rq := decAll l.length l
theorem decAll_two : ∀ (f g : Nat) (l : List UInt8), l.length ≤ f → l.length ≤ g → decAll f l = decAll g l
  | 0, g, l, h, _ => by
    have : l = [] := List.eq_nil_of_length_eq_zero (by omega)
    subst this
    cases g <;> rfl
  | f + 1, 0, l, _, h => by
    have : l = [] := List.eq_nil_of_length_eq_zero (by omega)
    subst this
    rfl
  | f + 1, g + 1, l, h, h' => by
    simp only [decAll]
    split
    · rfl
    · split
      · rfl
      · rename_i hb
        have hb' : (readQ ⟨l, false⟩).2.bad = false := by simpa using hb
        have hless := readQ_less l hb'
        rw [decAll_two f g (readQ ⟨l, false⟩).2.l (by omega) (by omega)]
theorem decAll_fuel (f : Nat) (l : List UInt8) (h : l.length ≤ f) : decAll f l = decL l := decAll_two _ _ _ h (Nat.le_refl _)
theorem decL_nil : decL [] = [] := rfl
theorem decL_bad {l : List UInt8} (h0 : 0 < l.length) (h : (readQ ⟨l, false⟩).2.bad = true) : decL l = [badQ] := by
  unfold decL
  cases hl : l.length with
  | zero => omega
  | succ m => simp [decAll, hl, h]
theorem decL_good {l : List UInt8} (h0 : 0 < l.length) (h : (readQ ⟨l, false⟩).2.bad = false) : decL l = (readQ ⟨l, false⟩).1 :: decL (readQ ⟨l, false⟩).2.l := by
  have hless := readQ_less l h
  rw [← decAll_fuel l.length (readQ ⟨l, false⟩).2.l (by omega)]
  unfold decL
  cases hl : l.length with
  | zero => omega
  | succ m =>
    have h1 : decAll (m + 1) l = (readQ ⟨l, false⟩).1 :: decAll m (readQ ⟨l, false⟩).2.l := by simp [decAll, hl, h]
    rw [h1, decAll_fuel m (readQ ⟨l, false⟩).2.l (by omega), decAll_fuel (m + 1) (readQ ⟨l, false⟩).2.l (by omega)]

/-- all requests' bytes -/
def encL (qs : List Rq) : List UInt8 := qs.flatMap Rq.enc
theorem decL_enc (q : Rq) (hf : q.Fits) (l : List UInt8) : decL (q.enc ++ l) = q :: decL l := by
  have h := readQ_fwd q hf l
  have hl := q.enc_length
  rw [decL_good (by rw [List.length_append]; omega) (by rw [h]), h]
theorem decL_encL : ∀ (qs : List Rq) (l : List UInt8), (∀ q ∈ qs, q.Fits) → decL (encL qs ++ l) = qs ++ decL l
  | [], _, _ => rfl
  | q :: qs, l, h => by
    unfold encL
    rw [List.flatMap_cons, List.append_assoc, decL_enc q (h q List.mem_cons_self)]
    have := decL_encL qs l fun x hx => h x (List.mem_cons_of_mem _ hx)
    unfold encL at this
    rw [this]
    rfl
theorem decL_of_encL (qs : List Rq) (h : ∀ q ∈ qs, q.Fits) : decL (encL qs) = qs := by
  have := decL_encL qs [] h
  rw [List.append_nil, decL_nil, List.append_nil] at this
  exact this
/-- too few bytes for one -/
theorem decL_short (l : List UInt8) (h0 : 0 < l.length) (h : l.length < 25) : decL l = [badQ] := by
  refine decL_bad h0 ?_
  cases hb : (readQ ⟨l, false⟩).2.bad with
  | true => rfl
  | false =>
    have := readQ_less l hb
    omega
end Go.Proofs.Ytndndklaaegifaa
