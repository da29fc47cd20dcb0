/- DiskRuns: plain facts on what each call answers and leaves. -/
import Derived.Test.YtnbadlhkcpjjmaaRunsM
import Derived.Test.YtnbadlhkcpjjmaaDiskCopies
namespace Go.Proofs.Ytnbadlhkcpjjmaa
open Go Go.RowKit
attribute [local irreducible] Go.wpQuiet
theorem MdLike.ok {d : Dk} {m : Md} (h : MdLike d m) : ∀ i (hi : i < m.wait.length), ∀ c ∈ m.wait[i], 0 ≤ c.s ∧ c.s < 8 ∧ c.data.length ≤ 64 := fun i hi => (h.r i (by have := h.l; have := h.wl; omega) hi (by have := h.nl; have := h.wl; omega)).s
theorem MdLike.ok2 {d : Dk} {m : Md} (h : MdLike d m) : ∀ i (hi : i < m.wait.length), ∀ c ∈ m.wait[i], c.data.length ≤ 64 := fun i hi c hc => (h.ok i hi c hc).2.2
theorem wr_bad (d : Dk) (r s : Int) (b : List UInt8) (h : d.there r s = false ∨ 64 < b.length) : d.wrE r s b = 1 ∧ d.wrD r s b = d := ⟨by unfold Dk.wrE; rw [if_pos h], by unfold Dk.wrD; rw [if_pos h]⟩
theorem wr_down (d : Dk) (r s : Int) (b : List UInt8) (h : d.there r s = true) (h64 : ¬ 64 < b.length) (hd : d.down r.toNat = true) : d.wrE r s b = 10 ∧ d.wrD r s b = d := by
  have hn : ¬ (d.there r s = false ∨ 64 < b.length) := fun hh => hh.elim (fun e => by rw [h] at e; cases e) h64
  exact ⟨by unfold Dk.wrE; rw [if_neg hn, if_pos hd], by unfold Dk.wrD; rw [if_neg hn, if_pos hd]⟩
theorem wr_ok (d : Dk) (r s : Int) (b : List UInt8) (h : d.there r s = true) (h64 : ¬ 64 < b.length) (hd : d.down r.toNat = false) : d.wrE r s b = 0 ∧ d.wrD r s b = d.write r.toNat s.toNat b := by
  have hn : ¬ (d.there r s = false ∨ 64 < b.length) := fun hh => hh.elim (fun e => by rw [h] at e; cases e) h64
  have hd' : ¬ d.down r.toNat = true := by rw [hd]; decide
  exact ⟨by unfold Dk.wrE; rw [if_neg hn, if_neg hd'], by unfold Dk.wrD; rw [if_neg hn, if_neg hd']⟩
theorem bar_bad (d : Dk) (r : Int) (h : d.there r 0 = false) : d.barE r = 1 ∧ d.barD r = d := ⟨by unfold Dk.barE; rw [if_pos h], by unfold Dk.barD; rw [if_pos h]⟩
theorem bar_down (d : Dk) (r : Int) (h : d.there r 0 = true) (hd : d.down r.toNat = true) : d.barE r = 10 ∧ d.barD r = d := by
  have hn : ¬ (d.there r 0 = false) := by rw [h]; decide
  exact ⟨by unfold Dk.barE; rw [if_neg hn, if_pos hd], by unfold Dk.barD; rw [if_neg hn, if_pos hd]⟩
theorem bar_ok (d : Dk) (r : Int) (h : d.there r 0 = true) (hd : d.down r.toNat = false) : d.barE r = 0 ∧ d.barD r = d.keep r.toNat 18446744073709551615 := by
  have hn : ¬ (d.there r 0 = false) := by rw [h]; decide
  have hd' : ¬ d.down r.toNat = true := by rw [hd]; decide
  exact ⟨by unfold Dk.barE; rw [if_neg hn, if_neg hd'], by unfold Dk.barD; rw [if_neg hn, if_neg hd']⟩
theorem arm_bad (d : Dk) (r n : Int) (h : d.there r 0 = false) : d.arm r n = d := by unfold Dk.arm; rw [if_neg (by rw [h]; decide)]
theorem arm_writes (d : Dk) (r n : Int) : (d.arm r n).writes = d.writes := by unfold Dk.arm; split <;> rfl
theorem Dk.Small.armS {d : Dk} {n : Nat} (h : d.Small n) (r m : Int) : (d.arm r m).Small n := by
  unfold Dk.arm
  split
  · exact h.set (Nat.le_refl _) _ _ (h.get _)
  · exact h
/-- the first regions up -/
def Md.crashN (m : Md) (mask : Nat) : Nat → Md
  | 0 => m
  | n + 1 => (m.crashN mask n).crashR n mask
def crashND (d : Dk) (mask : Nat) : Nat → Dk
  | 0 => d
  | n + 1 => (crashND d mask n).crashR mask n
theorem MdLike.crashN {d : Dk} {m : Md} (h : MdLike d m) (mask : Nat) : ∀ n, n ≤ 3 → MdLike (crashND d mask n) (m.crashN mask n)
  | 0, _ => h
  | n + 1, hn => (h.crashN mask n (by omega)).crashR n (by omega) mask
theorem MdLike.there0 {d : Dk} {m : Md} (h : MdLike d m) (r : Int) : d.there r 0 = decide (0 ≤ r ∧ r < 3) := by
  rw [Bool.eq_iff_iff, d.there_iff, h.l, h.s, decide_eq_true_iff]
  omega
theorem MdLike.there {d : Dk} {m : Md} (h : MdLike d m) (r s : Int) : d.there r s = decide (0 ≤ r ∧ r < 3 ∧ 0 ≤ s ∧ s < 8) := by
  rw [Bool.eq_iff_iff, d.there_iff, h.l, h.s, decide_eq_true_iff]
  omega
theorem MdAt.at2 {W w w' : World} {S : Nat → Prop} {p : Nat} {m : Md} {vs : List Value} (h : MdAt W w S p m vs) (hb : ∀ b, S b → w'.heap[b]? = w.heap[b]?) (hs : ∀ b, S b → b < w'.heap.size) : MdAt W w' S p m vs :=
  { h with
    head := (hb p h.sp).trans h.head
    waits := fun i hi hi' => (h.waits i hi hi').at fun g e _ => hb g (h.apart i hi g e).1
    low := hs }
/-- the kept blocks change, and there are more of them -/
theorem Dx.touchMore {W w w' : World} {X : Nat → Prop} {l : List (Nat × Dk)} (h : Dx W X w l) (hB : ButS w w' X) (hX : ∀ b, X b → W.heap.size ≤ b) (Y : Nat → Prop) (hY : ∀ b, Y b → X b ∨ (w.heap.size ≤ b ∧ b < w'.heap.size)) : Dx W Y w' l := by
  obtain ⟨h0, hx, S, h1, h2, h3⟩ := h
  refine ⟨h0.trans (hB.below W.heap.size h0.size hX), fun b hb => (hY b hb).elim (fun h => Nat.lt_of_lt_of_le (hx b h) hB.size) (fun h => h.2), S, fun i hi => (h1 i hi).but hB fun b hb => (h2 i b hi hb).2, fun i b hi hb => ⟨(h2 i b hi hb).1, fun hy => ?_⟩, h3⟩
  rcases hY b hy with h | h
  · exact (h2 i b hi hb).2 h
  · have := (h1 i hi).low b hb
    omega
theorem OwnCl.snoc {W y : World} {cs : List Cl} {css : List (List Value)} {v' : Value} {c : Cl} {dv : Value} (hl : css.length = cs.length) (hp : ∀ k (h : k < css.length) (h' : k < cs.length), ∃ dv, css[k] = cs[k].cells dv ∧ SlB W dv cs[k].data)
    (hd : SlB W dv c.data) (hO : OwnK y 0 37 5 v' (css ++ [c.cells dv])) : OwnCl W y v' (cs ++ [c]) := by
  refine ⟨css ++ [c.cells dv], hO, by simp [hl], fun k h h' => ?_⟩
  by_cases hk : k < css.length
  · rw [List.getElem_append_left hk, List.getElem_append_left (by omega)]
    exact hp k hk (by omega)
  · have hk2 : k = css.length := by simp at h; omega
    subst hk2
    rw [List.getElem_append_right (Nat.le_refl _), List.getElem_append_right (by omega)]
    simp only [hl, Nat.sub_self]
    exact ⟨dv, rfl, hd⟩
theorem Md.write_pos (m : Md) (r : Nat) (c : Cl) (ws : List Cl) (ln : Int) (hr : r < m.wait.length) (hw : m.wait[r] = ws) (hn : r < m.left.length) (hl : m.left[r] = ln) (hp : 0 < ln) : m.write r c = { data := m.data, wait := m.wait.set r (ws ++ [c]), left := m.left.set r (ln - 1) } := by
  unfold Md.write
  rw [List.getElem?_eq_getElem hr, List.getElem?_eq_getElem hn, hw, hl]
  simp only [Option.getD_some, if_pos hp]
theorem Md.write_neg (m : Md) (r : Nat) (c : Cl) (ws : List Cl) (ln : Int) (hr : r < m.wait.length) (hw : m.wait[r] = ws) (hn : r < m.left.length) (hl : m.left[r] = ln) (hp : ¬ 0 < ln) : m.write r c = { data := m.data, wait := m.wait.set r (ws ++ [c]), left := m.left } := by
  unfold Md.write
  rw [List.getElem?_eq_getElem hr, List.getElem?_eq_getElem hn, hw, hl]
  simp only [Option.getD_some, if_neg hp]
theorem MdLike.max {d : Dk} {m : Md} (h : MdLike d m) (hd : d.Ok) (r : Nat) (hr : r < m.left.length) : m.left[r] ≤ 9223372036854775807 ∧ -1 ≤ m.left[r] := by
  have hr1 : r < d.regs.length := by have := h.l; have := h.nl; omega
  have hg := h.r r hr1 (by have := h.wl; have := h.nl; omega) hr
  have ho := hd.rg d.regs[r] (List.getElem_mem hr1)
  have h1 := hg.n
  have h2 := hg.z
  have h3 := ho.a
  rw [h1]
  split <;> omega
theorem kind5 (k : Int) : ∃ n : Nat, n < 5 ∧ (wrap64 (k.tmod 5 + 5)).tmod 5 = (n : Int) := by
  have h1 : -5 < k.tmod 5 := by
    have := Int.lt_tmod_of_pos k (show (0 : Int) < 5 by decide)
    omega
  have h2 : k.tmod 5 < 5 := Int.tmod_lt_of_pos k (by decide)
  have e : wrap64 (k.tmod 5 + 5) = k.tmod 5 + 5 := by unfold wrap64; omega
  rw [e]
  refine ⟨((k.tmod 5 + 5).tmod 5).toNat, ?_, ?_⟩
  · have h3 := Int.tmod_nonneg 5 (show 0 ≤ k.tmod 5 + 5 by omega)
    have h4 := Int.tmod_lt_of_pos (k.tmod 5 + 5) (show (0 : Int) < 5 by decide)
    omega
  · have h3 := Int.tmod_nonneg 5 (show 0 ≤ k.tmod 5 + 5 by omega)
    omega
theorem bigC : BigOk Try.prog 37 5 [.int .i64 0, .int .i64 0, .int .i64 0, .slice none 0 0, .int .u64 0] := BigOk.of (.inl ⟨_, Try.underlying37⟩) (by kernel_rfl)
end Go.Proofs.Ytnbadlhkcpjjmaa
