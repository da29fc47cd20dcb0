/- Disks as plain lists: no Go, no memory. -/
import Derived.Test.YthknhonpcmneaaaSlK
namespace Go.Proofs.Ythknhonpcmneaaa
open Go

/-- a region: what waits, is it armed, what is left -/
structure Rg where
  waits : List (Nat × List UInt8)
  armed : Bool
  left : Int
structure Dk where
  size : Nat
  data : List (List UInt8)
  regs : List Rg
  writes : Nat
structure Rg.Ok (r : Rg) (size : Nat) : Prop where
  w : ∀ x ∈ r.waits, x.1 < size ∧ x.2.length = 64
  n : r.waits.length ≤ 1000000
  a : 0 ≤ r.left ∧ r.left ≤ 9223372036854775807
structure Dk.Ok (d : Dk) : Prop where
  s1 : 1 ≤ d.size
  s2 : d.size ≤ 65536
  r1 : 1 ≤ d.regs.length
  r2 : d.regs.length ≤ 64
  len : d.data.length = d.regs.length * d.size
  each : ∀ x ∈ d.data, x.length = 64
  rg : ∀ r ∈ d.regs, r.Ok d.size
  wr : d.writes ≤ 1000000000
def pad (b : List UInt8) : List UInt8 := b ++ List.replicate (64 - b.length) 0
theorem pad_length (b : List UInt8) (h : b.length ≤ 64) : (pad b).length = 64 := by simp [pad]; omega
def emptyRg : Rg := ⟨[], false, 0⟩
def newD (n size : Nat) : Dk := ⟨size, List.replicate (n * size) (List.replicate 64 0), List.replicate n emptyRg, 0⟩
theorem newD_ok (n size : Nat) (h1 : 1 ≤ n) (h2 : n ≤ 64) (h3 : 1 ≤ size) (h4 : size ≤ 65536) : (newD n size).Ok := by
  refine ⟨h3, h4, by simpa [newD] using h1, by simpa [newD] using h2, by simp [newD], fun x hx => ?_, fun r hr => ?_, by simp [newD]⟩
  · rw [(List.mem_replicate.1 hx).2]; simp
  · rw [(List.mem_replicate.1 hr).2]
    exact ⟨fun x hx => by simp [emptyRg] at hx, by simp [emptyRg], by simp [emptyRg]⟩

/-- the last of those that wait for a sector -/
def lastW (l : List (Nat × List UInt8)) (s : Nat) (o : List UInt8) : List UInt8 := l.foldl (fun o x => if x.1 = s then x.2 else o) o
theorem lastW_none (l : List (Nat × List UInt8)) (s : Nat) (o : List UInt8) (h : ∀ x ∈ l, x.1 ≠ s) : lastW l s o = o := by
  induction l generalizing o with
  | nil => rfl
  | cons x l ih =>
    unfold lastW
    rw [List.foldl_cons, if_neg (h x List.mem_cons_self)]
    exact ih o fun y hy => h y (List.mem_cons_of_mem _ hy)
theorem lastW_append (a b : List (Nat × List UInt8)) (s : Nat) (o : List UInt8) : lastW (a ++ b) s o = lastW b s (lastW a s o) := by unfold lastW; rw [List.foldl_append]
theorem lastW_at (l : List (Nat × List UInt8)) (s : Nat) (o : List UInt8) (k : Nat) (hk : k < l.length) (h1 : l[k].1 = s) (h2 : ∀ j (h : j < l.length), k < j → l[j].1 ≠ s) : lastW l s o = l[k].2 := by
  have e : l = l.take k ++ (l[k] :: l.drop (k + 1)) := by rw [← List.drop_eq_getElem_cons hk, List.take_append_drop]
  conv => lhs; rw [e]
  rw [lastW_append]
  unfold lastW
  rw [List.foldl_cons, if_pos h1]
  refine lastW_none _ s _ fun x hx => ?_
  obtain ⟨i, hi, rfl⟩ := List.mem_iff_getElem.1 hx
  rw [List.getElem_drop]
  exact h2 _ (by simp at hi; omega) (by omega)
/-- what is read at a region and a sector that are there -/
def Dk.read (d : Dk) (r s : Nat) : List UInt8 := lastW (d.regs[r]?.getD emptyRg).waits s (d.data.getD (r * d.size + s) [])

/-- one that waits is laid down, if the mask says so -/
def stepD (mask base : Nat) (data : List (List UInt8)) (x : (Nat × List UInt8) × Nat) : List (List UInt8) := if mask.testBit (x.2 % 64) then data.set (base + x.1.1) x.1.2 else data
def keepD (mask base : Nat) (l : List (Nat × List UInt8)) (data : List (List UInt8)) : List (List UInt8) := l.zipIdx.foldl (stepD mask base) data
theorem stepD_length (mask base : Nat) (data : List (List UInt8)) (x : (Nat × List UInt8) × Nat) : (stepD mask base data x).length = data.length := by unfold stepD; split <;> simp
theorem keepD_take (mask base : Nat) (l : List (Nat × List UInt8)) (data : List (List UInt8)) (k : Nat) (h : k < l.length) : keepD mask base (l.take (k + 1)) data = stepD mask base (keepD mask base (l.take k) data) (l[k], k) := by
  have e : l.take (k + 1) = l.take k ++ [l[k]] := by rw [List.take_add_one, List.getElem?_eq_getElem h]; rfl
  unfold keepD
  rw [e, List.zipIdx_append, List.foldl_append]
  have e2 : (l.take k).length = k := by rw [List.length_take]; omega
  simp [e2]
theorem foldD_length (mask base : Nat) (l : List ((Nat × List UInt8) × Nat)) : ∀ data : List (List UInt8), (l.foldl (stepD mask base) data).length = data.length := by
  induction l with
  | nil => intro data; rfl
  | cons x l ih => intro data; rw [List.foldl_cons, ih, stepD_length]
theorem keepD_length (mask base : Nat) (l : List (Nat × List UInt8)) (data : List (List UInt8)) : (keepD mask base l data).length = data.length := foldD_length mask base _ data
theorem stepD_each (mask base : Nat) (data : List (List UInt8)) (x : (Nat × List UInt8) × Nat) (hx : x.1.2.length = 64) (h : ∀ y ∈ data, y.length = 64) : ∀ y ∈ stepD mask base data x, y.length = 64 := by
  intro y hy
  unfold stepD at hy
  split at hy
  · rcases List.mem_or_eq_of_mem_set hy with h1 | h1
    · exact h y h1
    · rw [h1]; exact hx
  · exact h y hy
theorem foldD_each (mask base : Nat) (l : List ((Nat × List UInt8) × Nat)) : ∀ data : List (List UInt8), (∀ x ∈ l, x.1.2.length = 64) → (∀ y ∈ data, y.length = 64) → ∀ y ∈ l.foldl (stepD mask base) data, y.length = 64 := by
  induction l with
  | nil => intro data _ h; exact h
  | cons x l ih =>
    intro data hl h
    rw [List.foldl_cons]
    exact ih _ (fun z hz => hl z (List.mem_cons_of_mem _ hz)) (stepD_each mask base data x (hl x List.mem_cons_self) h)
theorem keepD_each (mask base : Nat) (l : List (Nat × List UInt8)) (data : List (List UInt8)) (hl : ∀ x ∈ l, x.2.length = 64) (h : ∀ y ∈ data, y.length = 64) : ∀ y ∈ keepD mask base l data, y.length = 64 :=
  foldD_each mask base _ data (fun x hx => by
    have := List.mem_zipIdx hx
    exact hl x.1 (by rw [this.2.2]; exact List.getElem_mem _)) h

/-- a region that is set -/
def Dk.setRg (d : Dk) (r : Nat) (g : Rg) : Dk := { d with regs := d.regs.set r g }
theorem Dk.Ok.setRg {d : Dk} (h : d.Ok) (r : Nat) (g : Rg) (hg : g.Ok d.size) : (d.setRg r g).Ok := by
  refine ⟨h.s1, h.s2, by simpa [Dk.setRg] using h.r1, by simpa [Dk.setRg] using h.r2, by simpa [Dk.setRg] using h.len, h.each, fun x hx => ?_, h.wr⟩
  rcases List.mem_or_eq_of_mem_set hx with h1 | h1
  · exact h.rg x h1
  · rw [h1]; exact hg
def Dk.keep (d : Dk) (r mask : Nat) : Dk := let g := d.regs[r]?.getD emptyRg; { d with data := keepD mask (r * d.size) g.waits d.data, regs := d.regs.set r { g with waits := [] } }
theorem Dk.Ok.keep {d : Dk} (h : d.Ok) (r mask : Nat) (hr : r < d.regs.length) : (d.keep r mask).Ok := by
  have hg := h.rg d.regs[r] (List.getElem_mem hr)
  have e : d.regs[r]?.getD emptyRg = d.regs[r] := by rw [List.getElem?_eq_getElem hr]; rfl
  refine ⟨h.s1, h.s2, by simpa [Dk.keep] using h.r1, by simpa [Dk.keep] using h.r2, by simpa [Dk.keep, keepD_length] using h.len, fun x hx => ?_, fun x hx => ?_, h.wr⟩
  · refine keepD_each mask _ _ d.data (fun y hy => ?_) h.each x hx
    rw [e] at hy
    exact (hg.w y hy).2
  · rcases List.mem_or_eq_of_mem_set hx with h1 | h1
    · exact h.rg x h1
    · rw [h1, e]
      exact ⟨fun y hy => by simp at hy, by simp, hg.a⟩
def Dk.crashR (d : Dk) (mask r : Nat) : Dk := (d.keep r mask).setRg r { ((d.regs[r]?.getD emptyRg)) with waits := [], armed := false }
def Dk.crash (d : Dk) (mask : Nat) : Dk := (List.range d.regs.length).foldl (fun d r => d.crashR mask r) d
theorem Dk.crashR_length (d : Dk) (mask r : Nat) : (d.crashR mask r).regs.length = d.regs.length := by simp [Dk.crashR, Dk.setRg, Dk.keep]
theorem Dk.Ok.crashR {d : Dk} (h : d.Ok) (mask r : Nat) (hr : r < d.regs.length) : (d.crashR mask r).Ok := by
  have hg := h.rg d.regs[r] (List.getElem_mem hr)
  have e : d.regs[r]?.getD emptyRg = d.regs[r] := by rw [List.getElem?_eq_getElem hr]; rfl
  refine (h.keep r mask hr).setRg r _ ⟨fun y hy => by simp at hy, by simp, ?_⟩
  rw [e]
  exact hg.a
def Dk.write (d : Dk) (r s : Nat) (b : List UInt8) : Dk := let g := d.regs[r]?.getD emptyRg; { d.setRg r ⟨g.waits ++ [(s, pad b)], g.armed, if g.armed then g.left - 1 else g.left⟩ with writes := d.writes + 1 }
/-- is a region there, and a sector of it -/
def Dk.there (d : Dk) (r s : Int) : Bool := decide (0 ≤ r) && decide (r < d.regs.length) && decide (0 ≤ s) && decide (s < d.size)
theorem Dk.there_iff (d : Dk) (r s : Int) : d.there r s = true ↔ 0 ≤ r ∧ r < d.regs.length ∧ 0 ≤ s ∧ s < d.size := by simp [Dk.there, and_assoc]
def Dk.down (d : Dk) (r : Nat) : Bool := let g := d.regs[r]?.getD emptyRg; g.armed && g.left == 0
end Go.Proofs.Ythknhonpcmneaaa
