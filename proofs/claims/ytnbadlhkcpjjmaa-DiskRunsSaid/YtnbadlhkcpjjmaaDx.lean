/- Several disks in a world, and blocks that they leave alone. -/
import Derived.Test.YtnbadlhkcpjjmaaCl
import Derived.Test.YtnbadlhkcpjjmaaCrashL
namespace Go.Proofs.Ytnbadlhkcpjjmaa
open Go Go.RowKit
attribute [local irreducible] Go.wpQuiet

/-- these disks, apart from one another, all of them newer than W, and none of their blocks in X -/
structure Dx (W : World) (X : Nat → Prop) (w : World) (l : List (Nat × Dk)) : Prop where
  k : Keep W w
  x : ∀ b, X b → b < w.heap.size
  s : ∃ S : Nat → Nat → Prop, (∀ i (h : i < l.length), Dsk w (S i) l[i].1 l[i].2) ∧ (∀ i b, i < l.length → S i b → W.heap.size ≤ b ∧ ¬ X b) ∧ (∀ i j b, i < l.length → j < l.length → i ≠ j → S i b → ¬ S j b)
theorem Ds.dx {W w : World} {l : List (Nat × Dk)} (h : Ds W w l) : Dx W (fun _ => False) w l := by
  obtain ⟨h0, S, h1, h2, h3⟩ := h
  exact ⟨h0, fun _ h => h.elim, S, h1, fun i b _ hb => ⟨h2 i b hb, fun h => h⟩, h3⟩
theorem Dx.keep {W w w' : World} {X : Nat → Prop} {l : List (Nat × Dk)} (h : Dx W X w l) (k : Keep w w') : Dx W X w' l := by
  obtain ⟨h0, hx, S, h1, h2, h3⟩ := h
  exact ⟨h0.trans' k, fun b hb => Nat.lt_of_lt_of_le (hx b hb) k.size, S, fun i hi => (h1 i hi).keep k, h2, h3⟩
/-- what is new may be kept too -/
theorem Dx.more {W w w' : World} {X : Nat → Prop} {l : List (Nat × Dk)} (h : Dx W X w l) (k : Keep w w') (Y : Nat → Prop) (hY : ∀ b, Y b → X b ∨ (w.heap.size ≤ b ∧ b < w'.heap.size)) : Dx W Y w' l := by
  obtain ⟨h0, hx, S, h1, h2, h3⟩ := h
  refine ⟨h0.trans' k, fun b hb => (hY b hb).elim (fun h => Nat.lt_of_lt_of_le (hx b h) k.size) (fun h => h.2), S, fun i hi => (h1 i hi).keep k, fun i b hi hb => ⟨(h2 i b hi hb).1, fun hy => ?_⟩, h3⟩
  rcases hY b hy with h | h
  · exact (h2 i b hi hb).2 h
  · have := (h1 i hi).low b hb
    omega
/-- less is kept -/
theorem Dx.less {W w : World} {X : Nat → Prop} {l : List (Nat × Dk)} (h : Dx W X w l) (Y : Nat → Prop) (hY : ∀ b, Y b → X b) : Dx W Y w l := h.more (Keep.refl w) Y fun b hb => .inl (hY b hb)
theorem Dx.op {W w w' : World} {X : Nat → Prop} {l : List (Nat × Dk)} {S : Nat → Nat → Prop} {S' : Nat → Prop} {p : Nat} {d : Dk} (i : Nat) (hi : i < l.length) (h0 : Keep W w) (hx : ∀ b, X b → b < w.heap.size) (h1 : ∀ i (h : i < l.length), Dsk w (S i) l[i].1 l[i].2) (h2 : ∀ i b, i < l.length → S i b → W.heap.size ≤ b ∧ ¬ X b) (h3 : ∀ i j b, i < l.length → j < l.length → i ≠ j → S i b → ¬ S j b)
    (hd : Dsk w' S' p d) (hB : ButS w w' (S i)) (hS : ∀ b, S' b → S i b ∨ w.heap.size ≤ b) : Dx W X w' (l.set i (p, d)) ∧ ∀ b, X b → w'.heap[b]? = w.heap[b]? := by
  refine ⟨⟨h0.trans (hB.below W.heap.size h0.size (fun b hb => (h2 i b hi hb).1)), fun b hb => Nat.lt_of_lt_of_le (hx b hb) hB.size, fun j => if j = i then S' else S j, fun j hj => ?_, fun j b hj hb => ?_, fun j k b hj hk hjk hb => ?_⟩, fun b hb => hB.block b (hx b hb) (fun hh => (h2 i b hi hh).2 hb)⟩
  · by_cases hl : j = i
    · subst hl
      simp only [if_true, List.getElem_set_self]
      exact hd
    · have hj' : j < l.length := by simpa using hj
      simp only [hl, if_false]
      rw [List.getElem_set_ne (fun e => hl e.symm)]
      exact (h1 j hj').but hB (fun b hb => h3 j i b hj' hi hl hb)
  · simp only [List.length_set] at hj
    by_cases hl : j = i
    · subst hl
      simp only [if_true] at hb
      exact (hS b hb).elim (h2 j b hj) (fun h => ⟨Nat.le_trans h0.size h, fun hh => by have := hx b hh; omega⟩)
    · simp only [hl, if_false] at hb
      exact h2 j b hj hb
  · simp only [List.length_set] at hj hk
    by_cases hl : j = i
    · subst hl
      simp only [if_true] at hb
      have hm : k ≠ j := fun e => hjk e.symm
      simp only [hm, if_false]
      intro hh
      rcases hS b hb with h | h
      · exact h3 j k b hj hk hjk h hh
      · have := (h1 k hk).low b hh
        omega
    · simp only [hl, if_false] at hb
      by_cases hm : k = i
      · subst hm
        simp only [if_true]
        intro hh
        rcases hS b hh with h | h
        · exact h3 j k b hj hk hjk hb h
        · have := (h1 j hj).low b hb
          omega
      · simp only [hm, if_false]
        exact h3 j k b hj hk hjk hb

section
variable {W w : World} {X : Nat → Prop} {l : List (Nat × Dk)} (h : Dx W X w l) (i : Nat) (hi : i < l.length) (p : Nat) (d : Dk) (he : l[i] = (p, d))
include h he
theorem Dx.dok : d.Ok := by
  obtain ⟨h0, hx, S, h1, h2, h3⟩ := h
  have := (h1 i hi).ok
  rw [he] at this
  exact this
theorem write_dx (r s : Int) (v : Value) (b : List UInt8) (hb : SlB w v b) (hroom : d.Room) : Calls Try.prog 13 #[.pointer (some ⟨p, 0, none⟩), .int .i64 r, .int .i64 s, v] w fun e w' => e = .returned (.int .i64 (d.wrE r s b)) ∧ Dx W X w' (l.set i (p, d.wrD r s b)) ∧ ∀ b, X b → w'.heap[b]? = w.heap[b]? := by
  obtain ⟨h0, hx, S, h1, h2, h3⟩ := h
  have hd := h1 i hi
  rw [he] at hd
  refine (write_any p d r s v b w (S i) hd hb hroom).mono ?_
  rintro e w' ⟨rfl, hd', hB⟩
  exact ⟨rfl, Dx.op i hi h0 hx h1 h2 h3 hd' hB (fun b hb => hb.imp id (fun h => h.1))⟩
theorem barrier_dx (r : Int) : Calls Try.prog 16 #[.pointer (some ⟨p, 0, none⟩), .int .i64 r] w fun e w' => e = .returned (.int .i64 (d.barE r)) ∧ Dx W X w' (l.set i (p, d.barD r)) ∧ ∀ b, X b → w'.heap[b]? = w.heap[b]? := by
  obtain ⟨h0, hx, S, h1, h2, h3⟩ := h
  have hd := h1 i hi
  rw [he] at hd
  refine (barrier_any p d r w (S i) hd).mono ?_
  rintro e w' ⟨rfl, hd', hB⟩
  exact ⟨rfl, Dx.op i hi h0 hx h1 h2 h3 hd' hB (fun b hb => .inl hb)⟩
theorem crash_dx (mask : Nat) (hm : mask < 18446744073709551616) : Calls Try.prog 14 #[.pointer (some ⟨p, 0, none⟩), .int .u64 mask] w fun e w' => e = .returned (.tuple #[]) ∧ Dx W X w' (l.set i (p, d.crash mask)) ∧ ∀ b, X b → w'.heap[b]? = w.heap[b]? := by
  obtain ⟨h0, hx, S, h1, h2, h3⟩ := h
  have hd := h1 i hi
  rw [he] at hd
  refine (crash_any p d mask w (S i) hd hm).mono ?_
  rintro e w' ⟨rfl, hd', hB⟩
  exact ⟨rfl, Dx.op i hi h0 hx h1 h2 h3 hd' hB (fun b hb => .inl hb)⟩
theorem arm_dx (r n : Int) (hn : n ≤ 9223372036854775807) : Calls Try.prog 19 #[.pointer (some ⟨p, 0, none⟩), .int .i64 r, .int .i64 n] w fun e w' => e = .returned (.tuple #[]) ∧ Dx W X w' (l.set i (p, d.arm r n)) ∧ ∀ b, X b → w'.heap[b]? = w.heap[b]? := by
  obtain ⟨h0, hx, S, h1, h2, h3⟩ := h
  have hd := h1 i hi
  rw [he] at hd
  refine (arm_any p d r n w (S i) hd hn).mono ?_
  rintro e w' ⟨rfl, hd', hB⟩
  exact ⟨rfl, Dx.op i hi h0 hx h1 h2 h3 hd' hB (fun b hb => .inl hb)⟩
theorem read_dx (r s : Int) : Calls Try.prog 15 #[.pointer (some ⟨p, 0, none⟩), .int .i64 r, .int .i64 s] w fun e w' => ∃ v', e = .returned (.tuple #[v', .int .i64 (if d.there r s = true then 0 else 1)]) ∧ Own w' w.heap.size 5 v' ((d.readI r s).map B) ∧ Keep w w' := by
  obtain ⟨h0, hx, S, h1, h2, h3⟩ := h
  have hd := h1 i hi
  rw [he] at hd
  exact read_any p d r s w (S i) hd
theorem down_dx (r : Int) : Calls Try.prog 20 #[.pointer (some ⟨p, 0, none⟩), .int .i64 r] w fun e w' => e = .returned (.bool (d.downI r)) ∧ w = w' := by
  obtain ⟨h0, hx, S, h1, h2, h3⟩ := h
  have hd := h1 i hi
  rw [he] at hd
  exact down_any p d r w (S i) hd
theorem waits_dx (r : Int) : Calls Try.prog 17 #[.pointer (some ⟨p, 0, none⟩), .int .i64 r] w fun e w' => e = .returned (.int .i64 (d.waitsI r)) ∧ w = w' := by
  obtain ⟨h0, hx, S, h1, h2, h3⟩ := h
  have hd := h1 i hi
  rw [he] at hd
  exact waits_any p d r w (S i) hd
theorem writes_dx : Calls Try.prog 18 #[.pointer (some ⟨p, 0, none⟩)] w fun e w' => e = .returned (.int .i64 d.writes) ∧ w = w' := by
  obtain ⟨h0, hx, S, h1, h2, h3⟩ := h
  have hd := h1 i hi
  rw [he] at hd
  exact writes_any p d w (S i) hd
end
theorem Keep.cellk {w w' : World} (k : Keep w w') {a : Addr} {v : Value} (h : w.cell? a = some v) : w'.cell? a = some v := (k.cell (World.block_lt_of_cell? w _ h)).trans h
theorem Dx.base {W w : World} {X : Nat → Prop} {l : List (Nat × Dk)} (h : Dx W X w l) : Dx W (fun _ => False) w l := h.less _ fun _ h => h.elim
end Go.Proofs.Ytnbadlhkcpjjmaa
