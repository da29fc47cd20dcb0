/- Several disks in a world, and what is done with them. -/
import Derived.Test.YtnbadlhkcpjjmaaDkE
namespace Go.Proofs.Ytnbadlhkcpjjmaa
open Go Go.RowKit
attribute [local irreducible] Go.wpQuiet

theorem Dsk.low {w : World} {S : Nat → Prop} {p : Nat} {d : Dk} (h : Dsk w S p d) : ∀ b, S b → b < w.heap.size := by
  obtain ⟨gd, gr, vs, h⟩ := h
  exact h.low
theorem Dsk.but {w w' : World} {S T : Nat → Prop} {p : Nat} {d : Dk} (h : Dsk w S p d) (hB : ButS w w' T) (hd : ∀ b, S b → ¬ T b) : Dsk w' S p d := by
  obtain ⟨gd, gr, vs, h⟩ := h
  exact ⟨gd, gr, vs, h.at (fun b hb => hB.block b (h.low b hb) (hd b hb)) hB.size⟩

/-- these disks, apart from one another, all of them newer than W -/
structure Ds (W w : World) (l : List (Nat × Dk)) : Prop where
  k : Keep W w
  s : ∃ S : Nat → Nat → Prop, (∀ i (h : i < l.length), Dsk w (S i) l[i].1 l[i].2) ∧ (∀ i b, S i b → W.heap.size ≤ b) ∧ (∀ i j b, i < l.length → j < l.length → i ≠ j → S i b → ¬ S j b)
theorem Ds.nil {W w : World} (h : Keep W w) : Ds W w [] := ⟨h, fun _ _ => False, fun i h => by simp at h, fun _ _ h => h.elim, fun _ _ _ h => by simp at h⟩
theorem Ds.keep {W w w' : World} {l : List (Nat × Dk)} (h : Ds W w l) (k : Keep w w') : Ds W w' l := by
  obtain ⟨h0, S, h1, h2, h3⟩ := h
  exact ⟨h0.trans' k, S, fun i hi => (h1 i hi).keep k, h2, h3⟩
theorem Ds.new {W w w' : World} {l : List (Nat × Dk)} {p : Nat} {d : Dk} (h : Ds W w l) (hd : Dsk w' (fun b => w.heap.size ≤ b ∧ b < w'.heap.size) p d) (k : Keep w w') : Ds W w' (l ++ [(p, d)]) := by
  obtain ⟨h0, S, h1, h2, h3⟩ := h
  refine ⟨h0.trans' k, fun i => if i < l.length then S i else fun b => w.heap.size ≤ b ∧ b < w'.heap.size, fun i hi => ?_, fun i b hb => ?_, fun i j b hi hj hij hb => ?_⟩
  · by_cases hl : i < l.length
    · simp only [hl, if_true]
      rw [List.getElem_append_left hl]
      exact (h1 i hl).keep k
    · simp only [hl, if_false]
      have he : i = l.length := by simp at hi; omega
      subst he
      rw [List.getElem_append_right (Nat.le_refl _)]
      simpa using hd
  · by_cases hl : i < l.length
    · simp only [hl, if_true] at hb
      exact h2 i b hb
    · simp only [hl, if_false] at hb
      exact Nat.le_trans h0.size hb.1
  · simp only [List.length_append, List.length_singleton] at hi hj
    by_cases hl : i < l.length
    · simp only [hl, if_true] at hb
      by_cases hm : j < l.length
      · simp only [hm, if_true]
        exact h3 i j b hl hm hij hb
      · simp only [hm, if_false]
        intro hh
        have := (h1 i hl).low b hb
        omega
    · simp only [hl, if_false] at hb
      have hm : j < l.length := by omega
      simp only [hm, if_true]
      intro hh
      have := (h1 j hm).low b hh
      omega
theorem Ds.op {W w w' : World} {l : List (Nat × Dk)} {S : Nat → Nat → Prop} {S' : Nat → Prop} {p : Nat} {d : Dk} (i : Nat) (hi : i < l.length) (h0 : Keep W w) (h1 : ∀ i (h : i < l.length), Dsk w (S i) l[i].1 l[i].2) (h2 : ∀ i b, S i b → W.heap.size ≤ b) (h3 : ∀ i j b, i < l.length → j < l.length → i ≠ j → S i b → ¬ S j b)
    (hd : Dsk w' S' p d) (hB : ButS w w' (S i)) (hS : ∀ b, S' b → S i b ∨ w.heap.size ≤ b) : Ds W w' (l.set i (p, d)) := by
  refine ⟨h0.trans (hB.below W.heap.size h0.size (h2 i)), fun j => if j = i then S' else S j, fun j hj => ?_, fun j b hb => ?_, fun j k b hj hk hjk hb => ?_⟩
  · by_cases hl : j = i
    · subst hl
      simp only [if_true, List.getElem_set_self]
      exact hd
    · have hj' : j < l.length := by simpa using hj
      simp only [hl, if_false]
      rw [List.getElem_set_ne (fun e => hl e.symm)]
      exact (h1 j hj').but hB (fun b hb => h3 j i b hj' hi hl hb)
  · by_cases hl : j = i
    · subst hl
      simp only [if_true] at hb
      exact (hS b hb).elim (h2 j b) (fun h => Nat.le_trans h0.size h)
    · simp only [hl, if_false] at hb
      exact h2 j b hb
  · simp only [List.length_set] at hj hk
    by_cases hl : j = i
    · subst hl
      simp only [if_true] at hb
      have hm : k ≠ j := fun e => hjk e.symm
      simp only [hm, if_false]
      intro hh
      rcases hS b hb with h | h
      · exact h3 j k b hj hk hjk h hh
      · have := (h1 k hk).low b hh
        omega
    · simp only [hl, if_false] at hb
      by_cases hm : k = i
      · subst hm
        simp only [if_true]
        intro hh
        rcases hS b hh with h | h
        · exact h3 j k b hj hk hjk hb h
        · have := (h1 j hj).low b hb
          omega
      · simp only [hm, if_false]
        exact h3 j k b hj hk hjk hb

section
variable {W w : World} {l : List (Nat × Dk)} (h : Ds W w l) (i : Nat) (hi : i < l.length) (p : Nat) (d : Dk) (he : l[i] = (p, d))
include h he
theorem Ds.dok : d.Ok := by
  obtain ⟨h0, S, h1, h2, h3⟩ := h
  have := (h1 i hi).ok
  rw [he] at this
  exact this
theorem write_ds (r s : Int) (v : Value) (b : List UInt8) (hb : SlB w v b) (hroom : d.Room) : Calls Try.prog 13 #[.pointer (some ⟨p, 0, none⟩), .int .i64 r, .int .i64 s, v] w fun e w' => e = .returned (.int .i64 (d.wrE r s b)) ∧ Ds W w' (l.set i (p, d.wrD r s b)) := by
  obtain ⟨h0, S, h1, h2, h3⟩ := h
  have hd := h1 i hi
  rw [he] at hd
  refine (write_any p d r s v b w (S i) hd hb hroom).mono ?_
  rintro e w' ⟨rfl, hd', hB⟩
  exact ⟨rfl, Ds.op i hi h0 h1 h2 h3 hd' hB (fun b hb => hb.imp id (fun h => h.1))⟩
theorem barrier_ds (r : Int) : Calls Try.prog 16 #[.pointer (some ⟨p, 0, none⟩), .int .i64 r] w fun e w' => e = .returned (.int .i64 (d.barE r)) ∧ Ds W w' (l.set i (p, d.barD r)) := by
  obtain ⟨h0, S, h1, h2, h3⟩ := h
  have hd := h1 i hi
  rw [he] at hd
  refine (barrier_any p d r w (S i) hd).mono ?_
  rintro e w' ⟨rfl, hd', hB⟩
  exact ⟨rfl, Ds.op i hi h0 h1 h2 h3 hd' hB (fun b hb => .inl hb)⟩
theorem crash_ds (mask : Nat) (hm : mask < 18446744073709551616) : Calls Try.prog 14 #[.pointer (some ⟨p, 0, none⟩), .int .u64 mask] w fun e w' => e = .returned (.tuple #[]) ∧ Ds W w' (l.set i (p, d.crash mask)) := by
  obtain ⟨h0, S, h1, h2, h3⟩ := h
  have hd := h1 i hi
  rw [he] at hd
  refine (crash_any p d mask w (S i) hd hm).mono ?_
  rintro e w' ⟨rfl, hd', hB⟩
  exact ⟨rfl, Ds.op i hi h0 h1 h2 h3 hd' hB (fun b hb => .inl hb)⟩
theorem arm_ds (r n : Int) (hn : n ≤ 9223372036854775807) : Calls Try.prog 19 #[.pointer (some ⟨p, 0, none⟩), .int .i64 r, .int .i64 n] w fun e w' => e = .returned (.tuple #[]) ∧ Ds W w' (l.set i (p, d.arm r n)) := by
  obtain ⟨h0, S, h1, h2, h3⟩ := h
  have hd := h1 i hi
  rw [he] at hd
  refine (arm_any p d r n w (S i) hd hn).mono ?_
  rintro e w' ⟨rfl, hd', hB⟩
  exact ⟨rfl, Ds.op i hi h0 h1 h2 h3 hd' hB (fun b hb => .inl hb)⟩
theorem read_ds (r s : Int) : Calls Try.prog 15 #[.pointer (some ⟨p, 0, none⟩), .int .i64 r, .int .i64 s] w fun e w' => ∃ v', e = .returned (.tuple #[v', .int .i64 (if d.there r s = true then 0 else 1)]) ∧ SlB w' v' (d.readI r s) ∧ Keep w w' ∧ Ds W w' l := by
  have hh := h
  obtain ⟨h0, S, h1, h2, h3⟩ := h
  have hd := h1 i hi
  rw [he] at hd
  refine (read_any p d r s w (S i) hd).mono ?_
  rintro e w' ⟨v', rfl, hO, hk⟩
  exact ⟨v', rfl, hO.sl, hk, hh.keep hk⟩
theorem down_ds (r : Int) : Calls Try.prog 20 #[.pointer (some ⟨p, 0, none⟩), .int .i64 r] w fun e w' => e = .returned (.bool (d.downI r)) ∧ w = w' := by
  obtain ⟨h0, S, h1, h2, h3⟩ := h
  have hd := h1 i hi
  rw [he] at hd
  exact down_any p d r w (S i) hd
theorem waits_ds (r : Int) : Calls Try.prog 17 #[.pointer (some ⟨p, 0, none⟩), .int .i64 r] w fun e w' => e = .returned (.int .i64 (d.waitsI r)) ∧ w = w' := by
  obtain ⟨h0, S, h1, h2, h3⟩ := h
  have hd := h1 i hi
  rw [he] at hd
  exact waits_any p d r w (S i) hd
theorem writes_ds : Calls Try.prog 18 #[.pointer (some ⟨p, 0, none⟩)] w fun e w' => e = .returned (.int .i64 d.writes) ∧ w = w' := by
  obtain ⟨h0, S, h1, h2, h3⟩ := h
  have hd := h1 i hi
  rw [he] at hd
  exact writes_any p d w (S i) hd
end
theorem new_ds {W w : World} {l : List (Nat × Dk)} (h : Ds W w l) (n s : Nat) (hn1 : 1 ≤ n) (hn2 : n ≤ 64) (hs1 : 1 ≤ s) (hs2 : s ≤ 65536) : Calls Try.prog 12 #[.int .i64 n, .int .i64 s] w fun e w' => ∃ p, e = .returned (.pointer (some ⟨p, 0, none⟩)) ∧ Ds W w' (l ++ [(p, newD n s)]) ∧ Keep w w' := by
  refine (new_any n s w hn1 hn2 hs1 hs2).mono ?_
  rintro e w' ⟨p, rfl, hd, hk⟩
  exact ⟨p, rfl, h.new hd hk, hk⟩

/-- bytes into a string, in any world that reads them -/
theorem exec_str {P : Program} {t s e : TypeId} (ht : P.underlying t = some (.slice e)) (he : P.underlying e = some (.int .u8)) (hs : P.underlying s = some .string) {o : Oper} {a : Act} (x : Operand)
    (ho : o.op = .convert t s x) {v : Value} {l : List UInt8} (hx : a.eval x = v) (w : World) (hv : SlB w v l) : (execOp a.eval o).run P w = .ok (.value (strV l)) w := by
  unfold execOp
  simp only [ho, hx, Sem.run_bind, run_toString (P := P) ht he hs hv, Result.andThen_ok, Sem.run_pure]
end Go.Proofs.Ytnbadlhkcpjjmaa
