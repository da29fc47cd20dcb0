/- Records as plain lists of bytes: no Go, no memory. -/
import Derived.Test.YtlihieefjlpadaaPackL
namespace Go.Proofs.Ytlihieefjlpadaa
namespace Pk
theorem be_congr : ∀ (n x y : Nat), x % 256 ^ n = y % 256 ^ n → be x n = be y n
  | 0, _, _, _ => rfl
  | n + 1, x, y, h => by
    have hd : (256 : Nat) ^ n ∣ 256 ^ (n + 1) := ⟨256, by rw [Nat.pow_succ]⟩
    have h1 : x % 256 ^ n = y % 256 ^ n := by rw [← Nat.mod_mod_of_dvd x hd, ← Nat.mod_mod_of_dvd y hd, h]
    have h2 : x / 256 ^ n % 256 = y / 256 ^ n % 256 := by
      rw [Nat.pow_succ] at h
      rw [← Nat.mod_mul_right_div_self, ← Nat.mod_mul_right_div_self, h]
    simp only [be, h2, be_congr n x y h1]
theorem be_num : ∀ (l : List UInt8), l.length ≤ 8 → be (num l) l.length = l
  | [], _ => rfl
  | c :: l, h => by
    simp only [List.length_cons] at h
    have hc := c.toNat_lt
    have hl := num_lt_pow l (by omega)
    have hp : 0 < 256 ^ l.length := Nat.pos_of_ne_zero (by simp)
    rw [List.length_cons, be, num_cons c l (by omega)]
    have e1 : (c.toNat * 256 ^ l.length + num l) / 256 ^ l.length = c.toNat := by
      rw [Nat.mul_comm, Nat.mul_add_div hp, Nat.div_eq_of_lt hl, Nat.add_zero]
    have e2 : be (c.toNat * 256 ^ l.length + num l) l.length = be (num l) l.length := be_congr _ _ _ (by rw [Nat.mul_comm, Nat.mul_add_mod])
    rw [e1, e2, be_num l (by omega), Nat.mod_eq_of_lt (by omega)]
    simp

theorem take_back {s : RS} {n : Int} {t l : List UInt8} (h : take s n = (t, ⟨l, false⟩)) : s.bad = false ∧ s.l = t ++ l ∧ n = (t.length : Int) := by
  unfold take at h
  split at h
  · simp at h
  · rename_i hn
    simp only [not_or, Int.not_lt, Bool.not_eq_true] at hn
    simp only [Prod.mk.injEq, RS.mk.injEq, and_true] at h
    obtain ⟨rfl, rfl⟩ := h
    refine ⟨hn.1, by rw [List.take_append_drop], ?_⟩
    rw [List.length_take]
    omega
theorem numN_back {s : RS} {n x : Nat} {l : List UInt8} (hn : 1 ≤ n ∧ n ≤ 8) (h : numN s n = (x, ⟨l, false⟩)) : s.bad = false ∧ s.l = be x n ++ l ∧ x < 256 ^ n := by
  unfold numN at h
  rw [if_neg (by omega)] at h
  simp only [Prod.mk.injEq] at h
  obtain ⟨h1, h2⟩ := h
  obtain ⟨hb, hl, hk⟩ := take_back (t := (take s n).1) (l := l) (by rw [← h2])
  have hlen : (take s n).1.length = n := by omega
  have := be_num (take s n).1 (by omega)
  rw [h1, hlen] at this
  refine ⟨hb, by rw [this]; exact hl, ?_⟩
  have h5 := num_lt_pow (take s n).1 (by omega)
  rw [h1, hlen] at h5
  exact h5
theorem text_back {s : RS} {t l : List UInt8} (h : text s = (t, ⟨l, false⟩)) : s.bad = false ∧ s.l = be t.length 1 ++ (t ++ l) ∧ t.length < 256 := by
  unfold text at h
  simp only at h
  obtain ⟨hb, hl, hk⟩ := take_back h
  have h1 := numN_back (n := 1) (x := (numN s 1).1) (l := t ++ l) (s := s) (by omega) (by
    rw [← hl, ← hb]; rfl)
  obtain ⟨g1, g2, g3⟩ := h1
  have hx : (numN s 1).1 = t.length := by omega
  rw [hx] at g2 g3
  exact ⟨g1, g2, by simpa using g3⟩

theorem numN_fwd (x n : Nat) (hn : 1 ≤ n ∧ n ≤ 8) (hx : x < 256 ^ n) (l : List UInt8) : numN ⟨be x n ++ l, false⟩ n = (x, ⟨l, false⟩) := by
  have := numN_front (be x n) l n (by rw [be_length]) (by rw [be_length]; omega) (by rw [be_length]; omega)
  rw [this, num_be x n hn.2, Nat.mod_eq_of_lt hx]
theorem text_fwd (t l : List UInt8) (h : t.length < 256) : text ⟨be t.length 1 ++ (t ++ l), false⟩ = (t, ⟨l, false⟩) := by
  unfold text
  have h1 := numN_fwd t.length 1 (by omega) (by simpa using h) (t ++ l)
  simp only [Int.natCast_one] at h1
  rw [h1]
  exact take_front t l _ rfl

/-- so many numbers of eight bytes -/
def nums : Nat → RS → List Nat × RS
  | 0, s => ([], s)
  | n + 1, s => ((numN s 8).1 :: (nums n (numN s 8).2).1, (nums n (numN s 8).2).2)
theorem nums_back : ∀ (n : Nat) {s : RS} {d : List Nat} {l : List UInt8}, nums n s = (d, ⟨l, false⟩) → s.bad = false ∧ s.l = d.flatMap (fun x => be x 8) ++ l ∧ d.length = n ∧ ∀ x ∈ d, x < 256 ^ 8
  | 0, s, d, l, h => by
    simp only [nums, Prod.mk.injEq] at h
    obtain ⟨rfl, rfl⟩ := h
    simp
  | n + 1, s, d, l, h => by
    simp only [nums, Prod.mk.injEq] at h
    obtain ⟨rfl, h2⟩ := h
    obtain ⟨h3, h4, h5, h6⟩ := nums_back n (s := (numN s 8).2) (d := (nums n (numN s 8).2).1) (l := l) (by rw [← h2])
    obtain ⟨g1, g2, g3⟩ := numN_back (n := 8) (s := s) (x := (numN s 8).1) (l := (numN s 8).2.l) (by omega) (by rw [← h3]; rfl)
    refine ⟨g1, ?_, by simp [h5], ?_⟩
    · rw [g2, h4, List.flatMap_cons, List.append_assoc]
    · intro x hx
      rcases List.mem_cons.1 hx with h | h
      · rw [h]; exact g3
      · exact h6 x h
theorem nums_fwd : ∀ (d : List Nat) (l : List UInt8), (∀ x ∈ d, x < 256 ^ 8) → nums d.length ⟨d.flatMap (fun x => be x 8) ++ l, false⟩ = (d, ⟨l, false⟩)
  | [], _, _ => rfl
  | x :: d, l, h => by
    have h1 := numN_fwd x 8 (by omega) (h x List.mem_cons_self) (d.flatMap (fun x => be x 8) ++ l)
    have ih := nums_fwd d l fun y hy => h y (List.mem_cons_of_mem _ hy)
    rw [List.flatMap_cons, List.append_assoc, List.length_cons]
    simp only [nums]
    rw [show ((8 : Nat) : Int) = (8 : Int) from rfl] at h1
    rw [h1, ih]
end Pk

/-- a record, its numbers, texts and marks -/
structure Rc where
  kind : Int
  txn : Int
  page : Int
  slot : Int
  before : List UInt8
  after : List UInt8
  image : List UInt8
  dirty : List Nat
deriving DecidableEq

def half (s : List UInt8) : Bool := s.length == 0 || s.length == 40
def Rc.right (r : Rc) : Bool :=
  decide (1 ≤ r.kind) && decide (r.kind ≤ 7) && decide (0 ≤ r.txn) && decide (r.txn ≤ 255) && decide (0 ≤ r.page) && decide (r.page < 6) && decide (0 ≤ r.slot) && decide (r.slot < 5) &&
  half r.before && half r.after && (r.image.length == 0 || r.image.length == 256) && (r.dirty.length == 0 || (r.kind == 7 && r.dirty.length == 6))
/-- small enough to be laid in bytes -/
structure Rc.Fits (r : Rc) : Prop where
  k : 0 ≤ r.kind ∧ r.kind < 256
  t : 0 ≤ r.txn ∧ r.txn < 256
  p : 0 ≤ r.page ∧ r.page < 256
  s : 0 ≤ r.slot ∧ r.slot < 256
  b : r.before.length < 256
  a : r.after.length < 256
  i : r.image.length < 65536
  d : r.dirty.length < 256
  dx : ∀ x ∈ r.dirty, x < 256 ^ 8
theorem Rc.right_iff (r : Rc) : r.right = true ↔ (1 ≤ r.kind ∧ r.kind ≤ 7) ∧ (0 ≤ r.txn ∧ r.txn ≤ 255) ∧ (0 ≤ r.page ∧ r.page < 6) ∧ (0 ≤ r.slot ∧ r.slot < 5) ∧
    (r.before.length = 0 ∨ r.before.length = 40) ∧ (r.after.length = 0 ∨ r.after.length = 40) ∧ (r.image.length = 0 ∨ r.image.length = 256) ∧ (r.dirty.length = 0 ∨ r.kind = 7 ∧ r.dirty.length = 6) := by
  unfold Rc.right half
  simp only [Bool.and_eq_true, Bool.or_eq_true, decide_eq_true_eq, beq_iff_eq]
  omega
theorem Rc.right.fits {r : Rc} (h : r.right = true) (hd : ∀ x ∈ r.dirty, x < 256 ^ 8) : r.Fits := by
  have := r.right_iff.1 h
  exact ⟨by omega, by omega, by omega, by omega, by omega, by omega, by omega, by omega, hd⟩

def txt (s : List UInt8) : List UInt8 := Pk.be s.length 1 ++ s
def Rc.body (r : Rc) : List UInt8 :=
  Pk.be r.kind.toNat 1 ++ (Pk.be r.txn.toNat 1 ++ (Pk.be r.page.toNat 1 ++ (Pk.be r.slot.toNat 1 ++ (txt r.before ++ (txt r.after ++ (Pk.be r.image.length 2 ++ (r.image ++ (Pk.be r.dirty.length 1 ++ r.dirty.flatMap fun x => Pk.be x 8))))))))
def Rc.enc (r : Rc) : List UInt8 := Pk.be r.body.length 2 ++ r.body

/-- what bytes say, and the reader behind it -/
def say (b : List UInt8) : Rc × Pk.RS :=
  let k := Pk.numN ⟨b, false⟩ 1
  let t := Pk.numN k.2 1
  let p := Pk.numN t.2 1
  let s := Pk.numN p.2 1
  let x := Pk.text s.2
  let y := Pk.text x.2
  let m := Pk.numN y.2 2
  let i := Pk.take m.2 m.1
  let c := Pk.numN i.2 1
  let d := Pk.nums c.1 c.2
  (⟨k.1, t.1, p.1, s.1, x.1, y.1, i.1, d.1⟩, d.2)
def said (x : Rc × Pk.RS) : Bool := !x.2.bad && x.2.l.length == 0
def dec (b : List UInt8) : Option (Rc × Nat) :=
  let n := Pk.numN ⟨b, false⟩ 2
  let t := Pk.take n.2 n.1
  if t.2.bad = true then none else if said (say t.1) && (say t.1).1.right then some ((say t.1).1, 2 + n.1) else none

theorem say_body (r : Rc) (h : r.Fits) : say r.body = (r, ⟨[], false⟩) := by
  obtain ⟨hk, ht, hp, hs, hb, ha, hi, hd, hx⟩ := h
  unfold say Rc.body txt
  have e1 := fun l => Pk.numN_fwd r.kind.toNat 1 (by omega) (by omega) l
  have e2 := fun l => Pk.numN_fwd r.txn.toNat 1 (by omega) (by omega) l
  have e3 := fun l => Pk.numN_fwd r.page.toNat 1 (by omega) (by omega) l
  have e4 := fun l => Pk.numN_fwd r.slot.toNat 1 (by omega) (by omega) l
  have e5 := fun l => Pk.text_fwd r.before l hb
  have e6 := fun l => Pk.text_fwd r.after l ha
  have e7 := fun l => Pk.numN_fwd r.image.length 2 (by omega) (by omega) l
  have e8 := fun l => Pk.take_front r.image l r.image.length rfl
  have e9 := fun l => Pk.numN_fwd r.dirty.length 1 (by omega) (by omega) l
  have e10 := Pk.nums_fwd r.dirty [] hx
  rw [List.append_nil] at e10
  simp only [Int.natCast_one, show ((2 : Nat) : Int) = 2 from rfl] at e1 e2 e3 e4 e7 e9
  simp only [List.append_assoc, e1, e2, e3, e4, e5, e6, e7, e8, e9, e10]
  rw [Int.toNat_of_nonneg hk.1, Int.toNat_of_nonneg ht.1, Int.toNat_of_nonneg hp.1, Int.toNat_of_nonneg hs.1]

theorem said_iff {x : Rc × Pk.RS} : said x = true ↔ x.2 = ⟨[], false⟩ := by
  obtain ⟨r, l, b⟩ := x
  unfold said
  cases b <;> simp

theorem body_say (b : List UInt8) (h : said (say b) = true) : (say b).1.body = b ∧ ∀ x ∈ (say b).1.dirty, x < 256 ^ 8 := by
  rw [said_iff] at h
  unfold say at h ⊢
  simp only at h ⊢
  generalize hk : Pk.numN ⟨b, false⟩ 1 = k at *
  generalize ht : Pk.numN k.2 1 = t at *
  generalize hp : Pk.numN t.2 1 = p at *
  generalize hs : Pk.numN p.2 1 = s at *
  generalize hx : Pk.text s.2 = x at *
  generalize hy : Pk.text x.2 = y at *
  generalize hm : Pk.numN y.2 2 = m at *
  generalize hi : Pk.take m.2 m.1 = i at *
  generalize hc : Pk.numN i.2 1 = c at *
  generalize hd : Pk.nums c.1 c.2 = d at *
  obtain ⟨k, sk⟩ := k
  obtain ⟨t, st⟩ := t
  obtain ⟨p, sp⟩ := p
  obtain ⟨s, ss⟩ := s
  obtain ⟨x, sx⟩ := x
  obtain ⟨y, sy⟩ := y
  obtain ⟨m, sm⟩ := m
  obtain ⟨i, si⟩ := i
  obtain ⟨c, sc⟩ := c
  obtain ⟨d, sd⟩ := d
  simp only at *
  subst h
  have rs : ∀ z : Pk.RS, z.bad = false → z = ⟨z.l, false⟩ := fun z hz => by cases z; simp_all
  obtain ⟨b9, l9, n9, hx9⟩ := Pk.nums_back _ hd
  rw [rs sc b9] at hc
  obtain ⟨b8, l8, h8⟩ := Pk.numN_back (n := 1) (by omega) hc
  rw [rs si b8] at hi
  obtain ⟨b7, l7, h7⟩ := Pk.take_back hi
  rw [rs sm b7] at hm
  obtain ⟨b6, l6, h6⟩ := Pk.numN_back (n := 2) (by omega) hm
  rw [rs sy b6] at hy
  obtain ⟨b5, l5, h5⟩ := Pk.text_back hy
  rw [rs sx b5] at hx
  obtain ⟨b4, l4, h4⟩ := Pk.text_back hx
  rw [rs ss b4] at hs
  obtain ⟨b3, l3, h3⟩ := Pk.numN_back (n := 1) (by omega) hs
  rw [rs sp b3] at hp
  obtain ⟨b2, l2, h2⟩ := Pk.numN_back (n := 1) (by omega) hp
  rw [rs st b2] at ht
  obtain ⟨b1, l1, h1⟩ := Pk.numN_back (n := 1) (by omega) ht
  rw [rs sk b1] at hk
  obtain ⟨b0, l0, h0⟩ := Pk.numN_back (n := 1) (by omega) hk
  refine ⟨?_, hx9⟩
  simp only at l0
  have hm7 : m = i.length := by omega
  subst hm7
  subst n9
  rw [List.append_nil] at l9
  unfold Rc.body txt
  simp only [Int.toNat_natCast]
  rw [l0, l1, l2, l3, l4, l5, l6, l7, l8, l9]
  simp only [List.append_assoc]

theorem body_length (r : Rc) : r.body.length = 9 + r.before.length + r.after.length + r.image.length + 8 * r.dirty.length := by
  have h8 : ∀ d : List Nat, (d.flatMap fun x => Pk.be x 8).length = 8 * d.length := by
    intro d
    induction d with
    | nil => rfl
    | cons x d ih => rw [List.flatMap_cons, List.length_append, ih, Pk.be_length, List.length_cons]; omega
  unfold Rc.body txt
  simp only [List.length_append, Pk.be_length, h8]
  omega
theorem enc_length (r : Rc) : r.enc.length = 11 + r.before.length + r.after.length + r.image.length + 8 * r.dirty.length := by
  unfold Rc.enc
  rw [List.length_append, Pk.be_length, body_length]
  omega

/-- a right record comes back, whatever stands behind -/
theorem dec_enc (r : Rc) (h : r.right = true) (hd : ∀ x ∈ r.dirty, x < 256 ^ 8) (more : List UInt8) : dec (r.enc ++ more) = some (r, r.enc.length) := by
  have hf := Rc.right.fits h hd
  have hr := r.right_iff.1 h
  have hl := body_length r
  unfold dec Rc.enc
  have e1 := Pk.numN_fwd r.body.length 2 (by omega) (by omega) (r.body ++ more)
  rw [show ((2 : Nat) : Int) = 2 from rfl] at e1
  have e2 := Pk.take_front r.body more r.body.length rfl
  simp only [List.append_assoc, e1, e2, say_body r hf, h]
  simp [said, Pk.be_length]
/-- what is read is right, and stood there -/
theorem dec_some {b : List UInt8} {r : Rc} {n : Nat} (h : dec b = some (r, n)) : r.right = true ∧ (∀ x ∈ r.dirty, x < 256 ^ 8) ∧ n = r.enc.length ∧ ∃ more, b = r.enc ++ more := by
  unfold dec at h
  simp only at h
  generalize hn : Pk.numN ⟨b, false⟩ 2 = m at *
  generalize ht : Pk.take m.2 m.1 = t at *
  obtain ⟨m, sm⟩ := m
  obtain ⟨t, st⟩ := t
  simp only at *
  split at h
  · cases h
  · rename_i hb
    split at h
    · rename_i hs
      simp only [Bool.and_eq_true] at hs
      simp only [Option.some.injEq, Prod.mk.injEq] at h
      obtain ⟨rfl, rfl⟩ := h
      obtain ⟨hbody, hx⟩ := body_say t hs.1
      have rs : ∀ z : Pk.RS, z.bad = false → z = ⟨z.l, false⟩ := fun z hz => by cases z; simp_all
      have hb' : st.bad = false := by simpa using hb
      rw [rs st hb'] at ht
      obtain ⟨b1, l1, h1⟩ := Pk.take_back ht
      rw [rs sm b1] at hn
      obtain ⟨b0, l0, h0⟩ := Pk.numN_back (n := 2) (by omega) hn
      simp only at l0
      have hm : m = t.length := by omega
      refine ⟨hs.2, hx, ?_, st.l, ?_⟩
      · unfold Rc.enc
        rw [hbody, List.length_append, Pk.be_length, hm]
      · unfold Rc.enc
        rw [hbody, l0, l1, hm, List.append_assoc]
    · cases h
/-- frames don't begin one another -/
theorem enc_apart {a b : Rc} (ha : a.right = true) (ha' : ∀ x ∈ a.dirty, x < 256 ^ 8) (hb : b.right = true) (hb' : ∀ x ∈ b.dirty, x < 256 ^ 8) {x y : List UInt8} (h : a.enc ++ x = b.enc ++ y) : a = b := by
  have h1 := dec_enc a ha ha' x
  rw [h, dec_enc b hb hb' y] at h1
  have h2 := Option.some.inj h1
  simp only [Prod.mk.injEq] at h2
  exact h2.1.symm
end Go.Proofs.Ytlihieefjlpadaa
