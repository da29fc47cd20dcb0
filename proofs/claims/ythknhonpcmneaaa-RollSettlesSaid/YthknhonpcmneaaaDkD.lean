/- The walks of disk.Barrier, Crash. -/
import Derived.Test.YthknhonpcmneaaaDkC
namespace Go.Proofs.Ythknhonpcmneaaa
open Go Go.RowKit
attribute [local irreducible] Go.wpQuiet

/-- what a barrier answers, and leaves -/
def Dk.barE (d : Dk) (r : Int) : Int := if d.there r 0 = false then 1 else if d.down r.toNat = true then 10 else 0
def Dk.barD (d : Dk) (r : Int) : Dk := if d.there r 0 = false then d else if d.down r.toNat = true then d else d.keep r.toNat 18446744073709551615
set_option maxRecDepth 100000 in
set_option maxHeartbeats 4000000 in
theorem barrier_any (p : Nat) (d : Dk) (r : Int) (w : World) (S : Nat → Prop) (h : Dsk w S p d) : Calls Try.prog 12 #[.pointer (some ⟨p, 0, none⟩), .int .i64 r] w fun e w' => e = .returned (.int .i64 (d.barE r)) ∧ Dsk w' S p (d.barD r) ∧ ButS w w' S := by
  obtain ⟨E, hE⟩ : ∃ E, d.barE r = E := ⟨_, rfl⟩
  have HE := Lib.hid hE
  obtain ⟨D, hD⟩ : ∃ D, d.barD r = D := ⟨_, rfl⟩
  have HD := Lib.hid hD
  rw [hE, hD]
  clear hE hD
  go_enter Try.func12, Try.ntmps12
  go_wp2_with fail
  refine (at_any p d r 0 w S h).mono ?_
  rintro e w' ⟨rfl, rfl⟩
  by_cases ht : d.there r 0 = true
  rotate_left
  · have ht' : d.there r 0 = false := by simpa using ht
    rw [d.at_lt r 0 ht']
    have e1 : E = 1 := by rw [← HE.out]; unfold Dk.barE; rw [if_pos ht']
    have e2 : D = d := by rw [← HD.out]; unfold Dk.barD; rw [if_pos ht']
    subst e1
    subst e2
    clear ht ht'
    go_wp2
    go_ret
    exact ⟨rfl, h, ButS.refl _ _⟩
  obtain ⟨h1, h2, -, h3⟩ := (d.there_iff r 0).1 ht
  obtain ⟨q, rfl⟩ := Int.eq_ofNat_of_zero_le h1
  have hq : q < d.regs.length := by omega
  have ea := d.at_pos q 0 hq (by have := h.ok.s1; omega)
  rw [show ((0 : Nat) : Int) = 0 from rfl] at ea
  rw [ea]
  have hge : ¬ (((q * d.size + 0 : Nat) : Int) < 0) := by omega
  have hdn : d.downI (q : Int) = d.down q := by unfold Dk.downI; rw [ht, Bool.true_and]; rfl
  have HDN := Lib.hid hdn
  have HNT := Lib.hid (show ¬ (d.there (q : Int) 0 = false) by rw [ht]; simp)
  clear ht ea h3 h1 hdn
  generalize q * d.size + 0 = Q at *
  go_wp2_with fail
  refine (down_any p d q w S h).mono ?_
  rintro e w' ⟨rfl, rfl⟩
  rw [HDN.out]
  by_cases hd : d.down q = true
  · have e1 : E = 10 := by rw [← HE.out]; unfold Dk.barE; rw [if_neg HNT.out, if_pos (by rw [Int.toNat_natCast]; exact hd)]
    have e2 : D = d := by rw [← HD.out]; unfold Dk.barD; rw [if_neg HNT.out, if_pos (by rw [Int.toNat_natCast]; exact hd)]
    subst e1
    subst e2
    rw [hd]
    clear hd
    go_wp2
    go_ret
    exact ⟨rfl, h, ButS.refl _ _⟩
  have hd' : d.down q = false := by simpa using hd
  have e1 : E = 0 := by rw [← HE.out]; unfold Dk.barE; rw [if_neg HNT.out, if_neg (by rw [Int.toNat_natCast]; exact hd)]
  have e2 : D = d.keep q 18446744073709551615 := by rw [← HD.out]; unfold Dk.barD; rw [if_neg HNT.out, if_neg (by rw [Int.toNat_natCast]; exact hd), Int.toNat_natCast]
  subst e1
  subst e2
  rw [hd']
  clear hd hd'
  go_wp2_with fail
  refine (keep_any p d q 18446744073709551615 w S h hq (by decide)).mono ?_
  rintro e w1 ⟨rfl, hk, hB⟩
  go_wp2
  go_ret
  exact ⟨rfl, hk, hB⟩

/-- the first k regions are through -/
def Dk.crashTo (d : Dk) (mask k : Nat) : Dk := (List.range k).foldl (fun d r => d.crashR mask r) d
theorem Dk.crashTo_succ (d : Dk) (mask k : Nat) : d.crashTo mask (k + 1) = (d.crashTo mask k).crashR mask k := by unfold Dk.crashTo; rw [List.range_succ, List.foldl_append]; rfl
theorem Dk.crashTo_length (d : Dk) (mask k : Nat) : (d.crashTo mask k).regs.length = d.regs.length := by
  induction k with
  | zero => rfl
  | succ k ih => rw [d.crashTo_succ, Dk.crashR_length, ih]
theorem Dk.crash_eq (d : Dk) (mask : Nat) : d.crash mask = d.crashTo mask d.regs.length := rfl
set_option maxRecDepth 100000 in
set_option maxHeartbeats 4000000 in
theorem crash_any (p : Nat) (d : Dk) (mask : Nat) (w : World) (S : Nat → Prop) (h : Dsk w S p d) (hm : mask < 18446744073709551616) : Calls Try.prog 9 #[.pointer (some ⟨p, 0, none⟩), .int .u64 mask] w fun e w' => e = .returned (.tuple #[]) ∧ Dsk w' S p (d.crash mask) ∧ ButS w w' S := by
  obtain ⟨gd0, gr0, vs0, h00⟩ := id h
  obtain ⟨c0, c1, c2, c3⟩ := h00.heads
  have hn2 := h00.ok.r2
  go_enter Try.func9, Try.ntmps9
  go_wp2
  go_loopw [12] (fun i wr => ∃ k : Nat, k ≤ d.regs.length ∧ i = .int .i64 k ∧ Dsk wr S p (d.crashTo mask k) ∧ ButS w wr S) (fun i _ => d.regs.length - (intOf i).toNat)
  case atStart => exact ⟨0, Nat.zero_le _, rfl, h, ButS.refl _ _⟩
  case round =>
    obtain ⟨k, hkn, rfl, hd, hB⟩ := hrel
    by_cases hk : k < d.regs.length
    rotate_left
    · have hjd : ¬ ((k : Int) < (d.regs.length : Int)) := by omega
      have hkk : k = d.regs.length := by omega
      rw [hkk, ← Dk.crash_eq] at hd
      clear hk hkk
      go_wp2
      exact Go.Great.bodyPost_end0 rfl rfl ⟨rfl, hd, hB⟩
    have hjd : (k : Int) < (d.regs.length : Int) := by omega
    have hl := d.crashTo_length mask k
    have hk1 : k < (d.crashTo mask k).regs.length := by omega
    have HS := Lib.hid (d.crashTo_succ mask k)
    go_wp2_with fail
    refine (keep_any p (d.crashTo mask k) k mask wr S hd hk1 hm).mono ?_
    rintro e w1 ⟨rfl, hk2, hB2⟩
    have hB3 := hB.trans hB2
    have HL := Lib.hid hl
    clear hl
    have hcr : (d.crashTo mask k).crashR mask k = ((d.crashTo mask k).keep k mask).setRg k { (((d.crashTo mask k).regs[k]?.getD emptyRg)) with waits := [], armed := false } := rfl
    have HCR := Lib.hid hcr
    have hgw : (((d.crashTo mask k).regs[k]?.getD emptyRg)) = (d.crashTo mask k).regs[k] := by rw [List.getElem?_eq_getElem hk1]; rfl
    have HGW := Lib.hid hgw
    clear hcr hgw hd hB hB2
    obtain ⟨gd, gr, vs, h1⟩ := hk2
    have hlk : ((d.crashTo mask k).keep k mask).regs.length = d.regs.length := by
      have : ((d.crashTo mask k).keep k mask).regs.length = (d.crashTo mask k).regs.length := by simp [Dk.keep]
      rw [this, HL.out]
    have hkk : k < ((d.crashTo mask k).keep k mask).regs.length := by omega
    have hv : k < vs.length := by rw [h1.len]; exact hkk
    have hrk : ((d.crashTo mask k).keep k mask).regs[k] = { (((d.crashTo mask k).regs[k]?.getD emptyRg)) with waits := [] } := by simp [Dk.keep]
    obtain ⟨-, -, e2, -⟩ := h1.heads
    obtain ⟨-, x1, -⟩ := h1.region k hkk hv
    have f1 := free_of h1.regs (k * 3 + 1)
    have hg := h1.ok.rg _ (List.getElem_mem hkk)
    have hs := h1.setFlag k hkk 1 (.bool false) { (((d.crashTo mask k).regs[k]?.getD emptyRg)) with waits := [], armed := false } (by decide) hv (by rw [hrk]; rfl) (by rw [hrk]) ⟨fun y hy => by simp at hy, by simp, by have := hg.a; rw [hrk] at this; exact this⟩
    have hB4 := hB3.set ⟨gr, k * 3 + 1, none⟩ (.bool false) h1.sr
    rw [← HCR.out, ← HS.out] at hs
    rw [hlk] at e2
    go_wp2
    go_roundw
    case rel => exact ⟨k + 1, by omega, by go_num, ⟨gd, gr, vs, hs⟩, hB4⟩
    case measure => simp [intOf]; omega
theorem crash_nil (mask : Nat) (w : World) : Calls Try.prog 9 #[.pointer none, .int .u64 mask] w fun e w' => e = .returned (.tuple #[]) ∧ w = w' := by
  go_enter Try.func9, Try.ntmps9
  go_wp2
  exact bodyPost_ret (v := .tuple #[]) (results_none rfl _ _ _) rfl ⟨rfl, rfl⟩
end Go.Proofs.Ythknhonpcmneaaa
