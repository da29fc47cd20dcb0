/- Disks plainly: what is read behind writes, barriers and crashes. -/
import Derived.Test.YthknhonpcmneaaaSmall
namespace Go.Proofs.Ythknhonpcmneaaa
open Go Go.RowKit

def z64 : List UInt8 := List.replicate 64 0
theorem z64_length : z64.length = 64 := by simp [z64]
theorem pad_nil : pad [] = z64 := rfl
theorem getD_set {α : Type} (l : List α) (i j : Nat) (x d : α) (h : i < l.length) : (l.set i x).getD j d = if j = i then x else l.getD j d := by
  rw [List.getD_eq_getElem?_getD, List.getD_eq_getElem?_getD, List.getElem?_set]
  by_cases e : i = j
  · subst e
    simp [h]
  · rw [if_neg e, if_neg (fun e' => e e'.symm)]

def Dk.rg (d : Dk) (r : Nat) : Rg := d.regs[r]?.getD emptyRg
theorem Dk.rg_at {d : Dk} {r : Nat} (h : r < d.regs.length) : d.rg r = d.regs[r] := by unfold Dk.rg; rw [List.getElem?_eq_getElem h]; rfl
theorem Dk.rg_set (d : Dk) (r q : Nat) (g : Rg) (h : r < d.regs.length) : (d.setRg r g).rg q = if q = r then g else d.rg q := by
  unfold Dk.rg Dk.setRg
  simp only [List.getElem?_set]
  by_cases e : r = q
  · subst e; simp [h]
  · rw [if_neg e, if_neg (fun e' => e e'.symm)]
theorem Dk.read_eq (d : Dk) (r t : Nat) : d.read r t = lastW (d.rg r).waits t (d.data.getD (r * d.size + t) []) := rfl
theorem Dk.down_eq (d : Dk) (r : Nat) : d.down r = ((d.rg r).armed && (d.rg r).left == 0) := rfl

/-! ### Writes -/
theorem Dk.write_size (d : Dk) (r s : Nat) (b : List UInt8) : (d.write r s b).size = d.size := rfl
theorem Dk.write_data (d : Dk) (r s : Nat) (b : List UInt8) : (d.write r s b).data = d.data := rfl
theorem Dk.write_regs (d : Dk) (r s : Nat) (b : List UInt8) : (d.write r s b).regs.length = d.regs.length := by simp [Dk.write, Dk.setRg]
theorem Dk.write_rg (d : Dk) (r s q : Nat) (b : List UInt8) (h : r < d.regs.length) :
    (d.write r s b).rg q = if q = r then ⟨(d.rg r).waits ++ [(s, pad b)], (d.rg r).armed, if (d.rg r).armed then (d.rg r).left - 1 else (d.rg r).left⟩ else d.rg q :=
  Dk.rg_set d r q _ h
theorem Dk.read_write (d : Dk) (r s q t : Nat) (b : List UInt8) (h : r < d.regs.length) : (d.write r s b).read q t = if q = r ∧ t = s then pad b else d.read q t := by
  rw [Dk.read_eq, Dk.write_rg d r s q b h, Dk.write_size, Dk.write_data, Dk.read_eq]
  by_cases e : q = r
  · subst e
    rw [if_pos rfl]
    simp only [lastW_append]
    by_cases e2 : t = s
    · subst e2
      rw [if_pos (by simp)]
      simp [lastW]
    · rw [if_neg (fun h => e2 h.2)]
      simp [lastW, Ne.symm e2]
  · rw [if_neg e, if_neg (fun h => e h.1)]

/-! ### Barriers -/
def fullM : Nat := 18446744073709551615
theorem fullM_bit (k : Nat) (h : k < 64) : fullM.testBit k = true := by
  have e : fullM = 2 ^ 64 - 1 := rfl
  rw [e, Nat.testBit_two_pow_sub_one]
  simpa using h
theorem foldD_get_other (mask base i : Nat) (l : List ((Nat × List UInt8) × Nat)) : ∀ (data : List (List UInt8)), (∀ x ∈ l, base + x.1.1 ≠ i) → (l.foldl (stepD mask base) data).getD i [] = data.getD i [] := by
  induction l with
  | nil => intro data _; rfl
  | cons x l ih =>
    intro data h
    rw [List.foldl_cons, ih _ (fun y hy => h y (List.mem_cons_of_mem _ hy))]
    unfold stepD
    split
    · rw [List.getD_eq_getElem?_getD, List.getD_eq_getElem?_getD, List.getElem?_set_ne (h x List.mem_cons_self)]
    · rfl
theorem keepD_get_other (mask base i : Nat) (l : List (Nat × List UInt8)) (data : List (List UInt8)) (h : ∀ x ∈ l, base + x.1 ≠ i) : (keepD mask base l data).getD i [] = data.getD i [] :=
  foldD_get_other mask base i _ data fun x hx => by
    have := List.mem_zipIdx hx
    exact h x.1 (by rw [this.2.2]; exact List.getElem_mem _)
theorem foldD_full (base t : Nat) (l : List (Nat × List UInt8)) : ∀ (n : Nat) (data : List (List UInt8)), (∀ x ∈ l, base + x.1 < data.length) → ((l.zipIdx n).foldl (stepD fullM base) data).getD (base + t) [] = lastW l t (data.getD (base + t) []) := by
  induction l with
  | nil => intro n data _; rfl
  | cons x l ih =>
    intro n data h
    rw [List.zipIdx_cons, List.foldl_cons, ih _ _ (fun y hy => by rw [stepD_length]; exact h y (List.mem_cons_of_mem _ hy))]
    have e : lastW (x :: l) t (data.getD (base + t) []) = lastW l t (if x.1 = t then x.2 else data.getD (base + t) []) := rfl
    rw [e]
    congr 1
    unfold stepD
    simp only [fullM_bit (n % 64) (Nat.mod_lt _ (by decide)), if_true]
    rw [getD_set _ _ _ _ _ (h x List.mem_cons_self)]
    by_cases e2 : x.1 = t
    · rw [if_pos (by omega), if_pos e2]
    · rw [if_neg (by omega), if_neg e2]
theorem keepD_full (base t : Nat) (l : List (Nat × List UInt8)) (data : List (List UInt8)) (h : ∀ x ∈ l, base + x.1 < data.length) : (keepD fullM base l data).getD (base + t) [] = lastW l t (data.getD (base + t) []) := foldD_full base t l 0 data h
theorem Dk.keep_size (d : Dk) (r m : Nat) : (d.keep r m).size = d.size := rfl
theorem Dk.keep_regs (d : Dk) (r m : Nat) : (d.keep r m).regs.length = d.regs.length := by simp [Dk.keep]
theorem Dk.keep_rg (d : Dk) (r m q : Nat) (h : r < d.regs.length) : (d.keep r m).rg q = if q = r then { d.rg r with waits := [] } else d.rg q := Dk.rg_set d r q _ h
theorem mul_apart {a b c i j : Nat} (hi : i < c) (hj : j < c) (h : a * c + i = b * c + j) : a = b ∧ i = j := by
  have h1 : (a * c + i) / c = a := by rw [Nat.mul_comm, Nat.mul_add_div (by omega), Nat.div_eq_of_lt hi, Nat.add_zero]
  have h2 : (b * c + j) / c = b := by rw [Nat.mul_comm, Nat.mul_add_div (by omega), Nat.div_eq_of_lt hj, Nat.add_zero]
  have h3 : a = b := by rw [← h1, h, h2]
  subst h3
  exact ⟨rfl, by omega⟩
theorem Dk.Ok.waits_lt {d : Dk} (h : d.Ok) {r : Nat} (hr : r < d.regs.length) : ∀ x ∈ (d.rg r).waits, x.1 < d.size ∧ x.2.length = 64 := by
  rw [Dk.rg_at hr]
  exact (h.rg _ (List.getElem_mem hr)).w
theorem Dk.read_keep_other (d : Dk) (h : d.Ok) (r m q t : Nat) (hr : r < d.regs.length) (ht : t < d.size) (hq : q ≠ r) : (d.keep r m).read q t = d.read q t := by
  rw [Dk.read_eq, Dk.keep_rg d r m q hr, if_neg hq, Dk.keep_size, Dk.read_eq]
  congr 1
  exact keepD_get_other m _ _ _ _ fun x hx e => hq (mul_apart (h.waits_lt hr x hx).1 ht e).1.symm
theorem Dk.read_keep_full (d : Dk) (h : d.Ok) (r q t : Nat) (hr : r < d.regs.length) (ht : t < d.size) : (d.keep r fullM).read q t = d.read q t := by
  by_cases hq : q = r
  · subst hq
    rw [Dk.read_eq, Dk.keep_rg d q _ q hr, if_pos rfl, Dk.keep_size, Dk.read_eq]
    show (keepD fullM (q * d.size) (d.rg q).waits d.data).getD (q * d.size + t) [] = _
    refine keepD_full _ t _ _ fun x hx => ?_
    rw [h.len]
    have h1 := (h.waits_lt hr x hx).1
    have h2 : (q + 1) * d.size ≤ d.regs.length * d.size := Nat.mul_le_mul_right _ hr
    rw [Nat.add_mul, Nat.one_mul] at h2
    omega
  · exact d.read_keep_other h r _ q t hr ht hq

/-! ### What holds of all that a region has, and of what waits -/
def Dk.All (P : Nat → List UInt8 → Prop) (d : Dk) (r : Nat) : Prop := (∀ x ∈ (d.rg r).waits, P x.1 x.2) ∧ ∀ t, t < d.size → P t (d.data.getD (r * d.size + t) [])
theorem lastW_all {P : List UInt8 → Prop} {t : Nat} {l : List (Nat × List UInt8)} : ∀ {o : List UInt8}, (∀ x ∈ l, x.1 = t → P x.2) → P o → P (lastW l t o) := by
  induction l with
  | nil => intro o _ h; exact h
  | cons x l ih =>
    intro o h ho
    show P (lastW l t (if x.1 = t then x.2 else o))
    refine ih (fun y hy => h y (List.mem_cons_of_mem _ hy)) ?_
    split
    · exact h x List.mem_cons_self ‹_›
    · exact ho
theorem Dk.All.read {P : Nat → List UInt8 → Prop} {d : Dk} {r : Nat} (h : d.All P r) {t : Nat} (ht : t < d.size) : P t (d.read r t) := by
  rw [Dk.read_eq]
  exact lastW_all (fun x hx e => e ▸ h.1 x hx) (h.2 t ht)
theorem Dk.All.write {P : Nat → List UInt8 → Prop} {d : Dk} {r : Nat} (h : d.All P r) (hr : r < d.regs.length) {s : Nat} {b : List UInt8} (hP : P s (pad b)) : (d.write r s b).All P r := by
  refine ⟨fun x hx => ?_, h.2⟩
  rw [Dk.write_rg d r s r b hr, if_pos rfl] at hx
  rcases List.mem_append.1 hx with hx | hx
  · exact h.1 x hx
  · rw [List.mem_singleton.1 hx]; exact hP
theorem foldD_all {P : Nat → List UInt8 → Prop} (mask base size : Nat) (l : List ((Nat × List UInt8) × Nat)) : ∀ (data : List (List UInt8)), (∀ x ∈ l, P x.1.1 x.1.2 ∧ x.1.1 < size) → base + size ≤ data.length → (∀ t, t < size → P t (data.getD (base + t) [])) →
    ∀ t, t < size → P t ((l.foldl (stepD mask base) data).getD (base + t) []) := by
  induction l with
  | nil => intro data _ _ h; exact h
  | cons x l ih =>
    intro data hl hb h
    rw [List.foldl_cons]
    refine ih _ (fun y hy => hl y (List.mem_cons_of_mem _ hy)) (by rw [stepD_length]; exact hb) (fun t ht => ?_)
    have hx := hl x List.mem_cons_self
    unfold stepD
    split
    · rw [getD_set _ _ _ _ _ (by omega)]
      split
      · have e : t = x.1.1 := by omega
        rw [e]; exact hx.1
      · exact h t ht
    · exact h t ht
theorem Dk.All.keep {P : Nat → List UInt8 → Prop} {d : Dk} {r : Nat} (h : d.All P r) (ok : d.Ok) (hr : r < d.regs.length) (m : Nat) : (d.keep r m).All P r := by
  refine ⟨fun x hx => ?_, fun t ht => ?_⟩
  · rw [Dk.keep_rg d r m r hr, if_pos rfl] at hx
    cases hx
  · refine foldD_all m (r * d.size) d.size _ d.data (fun x hx => ?_) ?_ h.2 t ht
    · have := List.mem_zipIdx hx
      have hm : x.1 ∈ (d.regs[r]?.getD emptyRg).waits := by rw [this.2.2]; exact List.getElem_mem _
      exact ⟨h.1 _ hm, (ok.waits_lt hr _ hm).1⟩
    · rw [ok.len]
      have h2 : (r + 1) * d.size ≤ d.regs.length * d.size := Nat.mul_le_mul_right _ hr
      rw [Nat.add_mul, Nat.one_mul] at h2
      exact h2
theorem Dk.All.mono {P Q : Nat → List UInt8 → Prop} {d : Dk} {r : Nat} (h : d.All P r) (hPQ : ∀ t x, P t x → Q t x) : d.All Q r := ⟨fun x hx => hPQ _ _ (h.1 x hx), fun t ht => hPQ _ _ (h.2 t ht)⟩
end Go.Proofs.Ythknhonpcmneaaa
