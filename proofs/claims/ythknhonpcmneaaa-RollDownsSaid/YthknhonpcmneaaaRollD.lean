/- What RollDowns asks of disks, plainly. -/
import Derived.Test.YthknhonpcmneaaaRollL
namespace Go.Proofs.Ythknhonpcmneaaa
open Go Go.RowKit

def pl2 : List UInt8 := pad (lineB 2 5)
def pl0 : List UInt8 := pad (lineB 0 5)
/-- a sector 0 is one of the two lines -/
def LineP (t : Nat) (x : List UInt8) : Prop := t = 0 → x = pl2 ∨ x = pl0
/-- a disk that takes writes, not many were -/
structure Up (d : Dk) (K : Nat) : Prop where
  size : d.size = 538
  regs : d.regs.length = 1
  armed : (d.rg 0).armed = false
  small : d.Small K
structure Lin (d : Dk) (K : Nat) : Prop where
  size : d.size = 538
  regs : d.regs.length = 1
  small : d.Small K
  all : d.All LineP 0
theorem Lin.mono {d : Dk} {K K' : Nat} (h : Lin d K) (hK : K ≤ K') : Lin d K' := ⟨h.size, h.regs, h.small.mono hK, h.all⟩
theorem newD_up : Up (newD 1 538) 0 := ⟨rfl, rfl, by rw [newD_rg]; rfl, newD_small 1 538⟩
theorem Up.write {d : Dk} {K : Nat} (h : Up d K) (ok : d.Ok) {s : Nat} (hs : s < 538) (b : List UInt8) (hb : b.length ≤ 64) : Up (d.wrD 0 s b) (K + 1) := by
  have hr : 0 < d.regs.length := by rw [h.regs]; decide
  have e : d.wrD 0 s b = d.write 0 s b := (Dk.wrD_at (r := 0) ok hr (by rw [h.size]; exact hs) hb).trans (by rw [if_neg (by rw [Dk.down_eq, h.armed]; simp)])
  rw [e]
  refine ⟨h.size, (Dk.write_regs _ _ _ _).trans h.regs, ?_, h.small.write 0 s b⟩
  rw [Dk.write_rg d 0 s 0 b hr, if_pos rfl]
  exact h.armed
theorem Up.bar {d : Dk} {K : Nat} (h : Up d K) (ok : d.Ok) : Up (d.barD 0) K := by
  have hr : 0 < d.regs.length := by rw [h.regs]; decide
  have hF := (Mid.start d 0).bar ok hr (Nat.le_refl 0)
  exact ⟨hF.size.trans h.size, hF.regs.trans h.regs, (hF.up h.armed).2, hF.small K h.small⟩
theorem Up.room {d : Dk} {K : Nat} (h : Up d K) (hK : K < 1000000) : d.Room := h.small.room hK
theorem Up.line {d d' : Dk} {K : Nat} {e : Int} (h : Up d K) (hF : Did d d' 0 (lineN 2 5) 1 e) : Lin d' (K + 1) ∧ (d'.rg 0).armed = false := by
  obtain ⟨rfl, ha⟩ := hF.up h.armed
  obtain ⟨hw, hr⟩ := hF.done rfl
  have hs := hF.size.trans h.size
  refine ⟨⟨hs, hF.regs.trans h.regs, hF.small K h.small, fun x hx => (by rw [hw] at hx; cases hx), fun t ht h0 => ?_⟩, ha⟩
  subst h0
  have h1 := hr 0 (by rw [h.size]; decide)
  rw [Dk.read_eq, hw] at h1
  exact .inl h1
theorem Dk.arm_at {d : Dk} (ok : d.Ok) (hr : 0 < d.regs.length) (n : Int) : d.arm 0 n = d.setRg 0 ⟨(d.rg 0).waits, true, max n 0⟩ := by
  unfold Dk.arm
  rw [if_pos (show d.there 0 0 = true from Dk.there_at (r := 0) (s := 0) ok hr ok.s1)]
  rfl
theorem Lin.arm {d : Dk} {K : Nat} (h : Lin d K) (ok : d.Ok) (n : Int) : Lin (d.arm 0 n) K := by
  have hr : 0 < d.regs.length := by rw [h.regs]; decide
  rw [Dk.arm_at ok hr]
  refine ⟨h.size, by simpa [Dk.setRg] using h.regs, h.small.set (Nat.le_refl _) 0 _ (h.small.get 0), fun x hx => ?_, h.all.2⟩
  rw [Dk.rg_set d 0 0 _ hr, if_pos rfl] at hx
  exact h.all.1 x hx
theorem Lin.line {d : Dk} {K : Nat} (h : Lin d K) : lineOf (d.read 0 0) = (2, 5) ∨ lineOf (d.read 0 0) = (0, 5) := by
  rcases h.all.read (t := 0) (by rw [h.size]; decide) rfl with e | e
  · rw [e]; exact .inl (lineOf_pad 2 5 (by decide) (by decide))
  · rw [e]; exact .inr (lineOf_pad 0 5 (by decide) (by decide))
theorem Lin.did {d d' : Dk} {K n : Nat} {e : Int} {new : Nat → Option (List UInt8)} (h : Lin d K) (hF : Did d d' 0 new n e) (hn : ∀ t x, new t = some x → LineP t x) : Lin d' (K + n) :=
  ⟨hF.size.trans h.size, hF.regs.trans h.regs, hF.small K h.small, hF.all _ hn h.all⟩
theorem lineP_wipe : ∀ t x, wipeN 1 538 t = some x → LineP t x := by
  intro t x h h0
  subst h0
  cases h
theorem lineP_line : ∀ t x, lineN 0 5 t = some x → LineP t x := by
  intro t x h h0
  subst h0
  simp [lineN] at h
  exact .inr h.symm
/-- what Settle leaves, whatever the disk bears -/
theorem Lin.settled {d d' : Dk} {K st' : Nat} {e : Int} (h : Lin d K) (hS : Settled d d' 0 st' e) : Lin d' (K + 538) ∧ (e = 10 ∨ (e = 0 ∧ st' = 0)) ∧ (lineOf (d.read 0 0)).2 = 5 ∧
    ((d.rg 0).armed = false → e = 0 ∧ st' = 0 ∧ (d'.rg 0).waits = [] ∧ ∀ t, 1 ≤ t → t < 538 → d'.read 0 t = z64) := by
  have hl := h.line
  have h5 : (lineOf (d.read 0 0)).2 = 5 := by rcases hl with e | e <;> rw [e]
  rcases hS with ⟨h1, -⟩ | ⟨-, d1, e1, hF, hS⟩
  · rcases hl with e | e <;> rw [e] at h1 <;> cases h1
  have hL := h.did hF lineP_wipe
  have hm : Lin d1 (K + 538) := ⟨hL.size, hL.regs, hL.small.mono (by omega), hL.all⟩
  have hz : e1 = 0 → (d1.rg 0).waits = [] ∧ ∀ t, 1 ≤ t → t < 538 → d1.read 0 t = z64 := fun e0 => by
    obtain ⟨hw, hr⟩ := hF.done e0
    refine ⟨hw, fun t h1 h2 => (hr t (by rw [h.size]; exact h2)).trans ?_⟩
    unfold wipeN
    rw [if_pos ⟨h1, h2⟩]
    rfl
  rcases hS with ⟨h1, rfl, rfl, h2⟩ | ⟨h1, h2, rfl, rfl, h3⟩ | ⟨h1, h2, rfl, hF2⟩
  · refine ⟨hm, .inl (hF.err.resolve_left h1), h5, fun ha => absurd (hF.up ha).1 h1⟩
  · have hs0 : st' = 0 := by rw [h3]; rcases hl with e | e <;> rw [e] at h2 ⊢; exact absurd rfl h2
    exact ⟨hm, .inr ⟨rfl, hs0⟩, h5, fun ha => ⟨rfl, hs0, hz h1⟩⟩
  · rw [h5] at hF2
    refine ⟨hL.did hF2 lineP_line, hF2.err.elim (fun h => .inr ⟨h, rfl⟩) .inl, h5, fun ha => ?_⟩
    obtain ⟨e0, -⟩ := hF2.up (hF.up ha).2
    obtain ⟨hw, hr⟩ := hF2.done e0
    refine ⟨e0, rfl, hw, fun t h1' h2' => ?_⟩
    rw [hr t (by rw [hL.size]; exact h2')]
    have hn : lineN 0 5 t = none := by unfold lineN; rw [if_neg (by omega)]
    rw [hn]
    exact (hz h1).2 t h1' h2'
theorem Lin.crash {d : Dk} {K : Nat} (h : Lin d K) (ok : d.Ok) (m : Nat) : Lin (d.crash m) K ∧ ((d.crash m).rg 0).armed = false := by
  have hr : 0 < d.regs.length := by rw [h.regs]; decide
  refine ⟨⟨(crash_size d m).trans h.size, by rw [crash_regs, List.length_map, h.regs], h.small.crash m, fun x hx => ?_, ?_⟩, ?_⟩
  · rw [crash_rg] at hx; cases hx
  · have e : d.crash m = d.crashR m 0 := by unfold Dk.crash; rw [h.regs]; rfl
    have := (h.all.keep ok hr m).2
    rw [e]
    exact this
  · rw [crash_rg]; rfl
end Go.Proofs.Ythknhonpcmneaaa
