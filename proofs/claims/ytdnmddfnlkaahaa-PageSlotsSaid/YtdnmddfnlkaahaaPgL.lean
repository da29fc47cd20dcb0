/- A page, plainly. -/
import Derived.Test.YtdnmddfnlkaahaaRowDL
import Derived.Test.YtdnmddfnlkaahaaPackL
namespace Go.Proofs.Ytdnmddfnlkaahaa
open Go Go.RowKit

structure Pg where
  mark : Nat
  tenant : Int
  number : Int
  slots : List (List UInt8)
deriving DecidableEq
structure Pg.Ok (p : Pg) : Prop where
  m : p.mark < 18446744073709551616
  n : p.slots.length = 5
  k : ∀ s ∈ p.slots, s.length = 40
def Pg.zero : Pg := ⟨0, 0, 0, List.replicate 5 (zB 40)⟩
theorem Pg.zero_ok : Pg.zero.Ok := ⟨by decide, rfl, fun s hs => by rw [List.eq_of_mem_replicate hs]; exact zB_length 40⟩
/-- the slot's bytes; none if it is free, or there is none -/
def Pg.raw (p : Pg) (i : Nat) : List UInt8 := p.slots.getD i []
def Pg.slot (p : Pg) (i : Int) : List UInt8 := if 0 ≤ i ∧ i < 5 ∧ p.raw i.toNat ≠ zB 40 then p.raw i.toNat else []
def Pg.put (p : Pg) (i : Nat) (s : List UInt8) : Pg := { p with slots := p.slots.set i s }
/-- may a slot be set to this -/
def Pg.may (i : Int) (s : List UInt8) : Bool := decide (0 ≤ i ∧ i < 5 ∧ (s = [] ∨ (Rw.dec s).2 = 0))
def Pg.set (p : Pg) (i : Int) (s : List UInt8) : Pg := if Pg.may i s = true then p.put i.toNat (if s = [] then zB 40 else s) else p
def Pg.isFree (p : Pg) (i : Nat) : Bool := decide (p.raw i = zB 40)
/-- the first free slot from i on that isn't among these -/
def Pg.freeFrom (p : Pg) (but : List Int) (i : Nat) : Nat → Int
  | 0 => -1
  | n + 1 => if p.isFree i = true ∧ ¬ (i : Int) ∈ but then i else p.freeFrom but (i + 1) n
def Pg.free (p : Pg) (but : List Int) : Int := p.freeFrom but 0 5
theorem Pg.raw_get {p : Pg} {i : Nat} (h : i < p.slots.length) : p.raw i = p.slots[i] := by
  unfold Pg.raw
  rw [List.getD_eq_getElem?_getD, List.getElem?_eq_getElem h]
  rfl
theorem Pg.Ok.raw {p : Pg} (h : p.Ok) {i : Nat} (hi : i < 5) : (p.raw i).length = 40 := by
  rw [Pg.raw_get (by rw [h.n]; exact hi)]
  exact h.k _ (List.getElem_mem _)
theorem Pg.Ok.put {p : Pg} (h : p.Ok) (i : Nat) (s : List UInt8) (hs : s.length = 40) : (p.put i s).Ok :=
  ⟨h.m, by simpa [Pg.put] using h.n, fun x hx => (List.mem_or_eq_of_mem_set hx).elim (h.k x) fun e => by rw [e]; exact hs⟩
theorem dec_len {s : List UInt8} (h : (Rw.dec s).2 = 0) : s.length = 40 := by
  unfold Rw.dec at h
  split at h
  · cases h
  · rename_i hh
    exact Decidable.byContradiction hh
theorem Pg.Ok.set {p : Pg} (h : p.Ok) (i : Int) (s : List UInt8) : (p.set i s).Ok := by
  unfold Pg.set
  split
  · rename_i hm
    obtain ⟨_, _, h3⟩ := of_decide_eq_true hm
    refine h.put _ _ ?_
    split
    · exact zB_length 40
    · rename_i hs
      exact dec_len (h3.resolve_left hs)
  · exact h
theorem Pg.put_raw {p : Pg} (h : p.Ok) {i j : Nat} (hi : i < 5) (s : List UInt8) : (p.put i s).raw j = if j = i then s else p.raw j := by
  unfold Pg.raw Pg.put
  simp only [List.getD_eq_getElem?_getD, List.getElem?_set]
  by_cases hj : j = i
  · subst hj
    simp [h.n, hi]
  · rw [if_neg (fun e => hj e.symm), if_neg hj]
/-- a page's bytes -/
def Pg.body (p : Pg) : List UInt8 := Pk.be p.tenant.toNat 2 ++ Pk.be p.number.toNat 2 ++ p.slots.flatten ++ zB 20
def Pg.sec (p : Pg) (i : Nat) : List UInt8 := Pk.be p.mark 8 ++ (p.body.drop (i * 56)).take 56
def Pg.enc (p : Pg) : List UInt8 := if p.mark = 0 then zB 256 else p.sec 0 ++ p.sec 1 ++ p.sec 2 ++ p.sec 3
theorem flatten_len (k : Nat) : ∀ (l : List (List UInt8)), (∀ x ∈ l, x.length = k) → l.flatten.length = l.length * k
  | [], _ => by simp
  | x :: l, h => by
    rw [List.flatten_cons, List.length_append, flatten_len k l fun y hy => h y (List.mem_cons_of_mem _ hy), h x List.mem_cons_self, List.length_cons, Nat.succ_mul]
    omega
theorem Pg.Ok.flat {p : Pg} (h : p.Ok) : p.slots.flatten.length = 200 := by rw [flatten_len 40 _ h.k, h.n]
theorem Pg.Ok.body {p : Pg} (h : p.Ok) : p.body.length = 224 := by
  simp only [Pg.body, List.length_append, Pk.be_length, h.flat, zB_length]
theorem Pg.Ok.sec {p : Pg} (h : p.Ok) {i : Nat} (hi : i < 4) : (p.sec i).length = 64 := by
  simp only [Pg.sec, List.length_append, Pk.be_length, List.length_take, List.length_drop, h.body]
  omega
theorem Pg.Ok.enc {p : Pg} (h : p.Ok) : p.enc.length = 256 := by
  unfold Pg.enc
  split
  · exact zB_length 256
  · simp only [List.length_append, h.sec (show 0 < 4 by decide), h.sec (show 1 < 4 by decide), h.sec (show 2 < 4 by decide), h.sec (show 3 < 4 by decide)]
/-- the bytes that say something -/
def loadOf (b : List UInt8) : List UInt8 := (b.drop 8).take 56 ++ (b.drop 72).take 56 ++ (b.drop 136).take 56 ++ (b.drop 200).take 56
/-- the page that bytes may tell -/
def Pg.of (b : List UInt8) (t n : Int) : Pg :=
  ⟨Pk.num (b.take 8), t, n, if 0 < Pk.num (b.take 8) then (List.range 5).map fun i => ((loadOf b).drop (4 + i * 40)).take 40 else List.replicate 5 (zB 40)⟩
def Pg.mine (b : List UInt8) (t n : Int) : Prop := Pk.num (b.take 8) = 0 ∨ ((Pk.num ((loadOf b).take 2) : Int) = t ∧ (Pk.num (((loadOf b).drop 2).take 2) : Int) = n)
instance (b : List UInt8) (t n : Int) : Decidable (Pg.mine b t n) := by unfold Pg.mine; infer_instance
def Pg.rows (p : Pg) : Prop := ∀ s ∈ p.slots, (Rw.dec s).2 ≠ 9
instance (p : Pg) : Decidable p.rows := by unfold Pg.rows; infer_instance
def Pg.dec (b : List UInt8) (t n : Int) : Pg × Int :=
  if b.length = 256 ∧ Pg.mine b t n ∧ (Pg.of b t n).enc = b ∧ (Pg.of b t n).rows then (Pg.of b t n, 0) else (Pg.zero, 11)
end Go.Proofs.Ytdnmddfnlkaahaa
