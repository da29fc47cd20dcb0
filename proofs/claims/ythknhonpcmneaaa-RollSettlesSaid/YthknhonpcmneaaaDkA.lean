/- The small walks of package disk. -/
import Derived.Test.YthknhonpcmneaaaDk
namespace Go.Proofs.Ythknhonpcmneaaa
open Go Go.RowKit
attribute [local irreducible] Go.wpQuiet

def Dk.at (d : Dk) (r s : Int) : Int := if d.there r s = true then r * d.size + s else -1
theorem Dk.at_lt (d : Dk) (r s : Int) (h : d.there r s = false) : d.at r s = -1 := by unfold Dk.at; rw [h]; rfl
theorem Dk.at_pos (d : Dk) (r s : Nat) (h1 : r < d.regs.length) (h2 : s < d.size) : d.at r s = ((r * d.size + s : Nat) : Int) := by
  unfold Dk.at
  rw [(d.there_iff r s).2 ⟨by omega, by omega, by omega, by omega⟩]
  simp

set_option maxHeartbeats 2000000 in
theorem at_any (p : Nat) (d : Dk) (r s : Int) (w : World) (S : Nat → Prop) (h : Dsk w S p d) : Calls Try.prog 21 #[.pointer (some ⟨p, 0, none⟩), .int .i64 r, .int .i64 s] w fun e w' => e = .returned (.int .i64 (d.at r s)) ∧ w = w' := by
  obtain ⟨gd, gr, vs, h⟩ := h
  obtain ⟨c0, c1, c2, c3⟩ := h.heads
  have hs2 := h.ok.s2
  have hr2 := h.ok.r2
  have HT := Lib.hid (d.there_iff r s)
  obtain ⟨T, hT⟩ : ∃ T, d.at r s = T := ⟨_, rfl⟩
  have HA := Lib.hid hT
  rw [hT]
  clear hT
  go_enter Try.func21, Try.ntmps21
  by_cases h1 : r < 0
  · have e : T = -1 := by rw [← HA.out]; exact d.at_lt _ _ (by rw [Bool.eq_false_iff]; intro hh; have := HT.out.1 hh; omega)
    subst e
    go_wp2
    go_ret
    exact ⟨rfl, rfl⟩
  by_cases h2 : (d.regs.length : Int) ≤ r
  · have e : T = -1 := by rw [← HA.out]; exact d.at_lt _ _ (by rw [Bool.eq_false_iff]; intro hh; have := HT.out.1 hh; omega)
    subst e
    go_wp2
    go_ret
    exact ⟨rfl, rfl⟩
  by_cases h3 : s < 0
  · have e : T = -1 := by rw [← HA.out]; exact d.at_lt _ _ (by rw [Bool.eq_false_iff]; intro hh; have := HT.out.1 hh; omega)
    subst e
    go_wp2
    go_ret
    exact ⟨rfl, rfl⟩
  by_cases h4 : (d.size : Int) ≤ s
  · have e : T = -1 := by rw [← HA.out]; exact d.at_lt _ _ (by rw [Bool.eq_false_iff]; intro hh; have := HT.out.1 hh; omega)
    subst e
    go_wp2
    go_ret
    exact ⟨rfl, rfl⟩
  have e : T = r * d.size + s := by
    rw [← HA.out]
    unfold Dk.at
    rw [HT.out.2 (by omega)]
    rfl
  have hb : 0 ≤ r * (d.size : Int) ∧ r * (d.size : Int) ≤ 64 * 65536 := by
    constructor
    · exact Int.mul_nonneg (by omega) (by omega)
    · exact Int.mul_le_mul (by omega) (by omega) (by omega) (by omega)
  subst e
  go_wp2
  go_ret
  refine ⟨ret_int ?_, rfl⟩
  generalize r * (d.size : Int) = M at *
  first | rfl | (unfold wrap64; omega)
set_option maxHeartbeats 2000000 in
theorem at_nil (r s : Int) (w : World) : Calls Try.prog 21 #[.pointer none, .int .i64 r, .int .i64 s] w fun e w' => e = .returned (.int .i64 (-1)) ∧ w = w' := by
  go_enter Try.func21, Try.ntmps21
  go_wp2
  go_ret
  exact ⟨rfl, rfl⟩

theorem Dk.there_nat (d : Dk) (r : Int) (h : Dk.Ok d) : d.there r 0 = (decide (0 ≤ r) && decide (r < d.regs.length)) := by
  have := h.s1
  rw [Bool.eq_iff_iff, d.there_iff]
  simp
  omega
/-- is a region down -/
def Dk.downI (d : Dk) (r : Int) : Bool := d.there r 0 && d.down r.toNat
theorem Dk.down_at (d : Dk) (r : Nat) (h : r < d.regs.length) : d.down r = (d.regs[r].armed && d.regs[r].left == 0) := by
  unfold Dk.down
  rw [List.getElem?_eq_getElem h]
  rfl

set_option maxHeartbeats 2000000 in
theorem down_any (p : Nat) (d : Dk) (r : Int) (w : World) (S : Nat → Prop) (h : Dsk w S p d) : Calls Try.prog 22 #[.pointer (some ⟨p, 0, none⟩), .int .i64 r] w fun e w' => e = .returned (.bool (d.downI r)) ∧ w = w' := by
  have h0 := h
  obtain ⟨gd, gr, vs, h⟩ := h
  obtain ⟨c0, c1, c2, c3⟩ := h.heads
  obtain ⟨T, hT⟩ : ∃ T, d.downI r = T := ⟨_, rfl⟩
  have HT := Lib.hid hT
  rw [hT]
  clear hT
  go_enter Try.func22, Try.ntmps22
  go_wp2_with fail
  refine (at_any p d r 0 w S h0).mono ?_
  rintro e w' ⟨rfl, rfl⟩
  by_cases ht : d.there r 0 = true
  rotate_left
  · have ht' : d.there r 0 = false := by simpa using ht
    rw [d.at_lt r 0 ht']
    have e : d.downI r = false := by unfold Dk.downI; rw [ht']; rfl
    have e2 : T = _ := HT.out.symm.trans e
    subst e2
    clear ht ht' e
    go_wp2
    go_ret
    exact ⟨rfl, rfl⟩
  obtain ⟨h1, h2, -, h3⟩ := (d.there_iff r 0).1 ht
  obtain ⟨q, rfl⟩ := Int.eq_ofNat_of_zero_le h1
  have hq : q < d.regs.length := by omega
  have hv : q < vs.length := by rw [h.len]; exact hq
  obtain ⟨x0, x1, x2⟩ := h.region q hq hv
  have e : d.downI (q : Int) = (d.regs[q].armed && d.regs[q].left == 0) := by
    unfold Dk.downI
    rw [ht, Bool.true_and]
    exact d.down_at q hq
  have ea := d.at_pos q 0 hq (by have := h.ok.s1; omega)
  rw [show ((0 : Nat) : Int) = 0 from rfl] at ea
  have e2 : T = _ := HT.out.symm.trans e
  subst e2
  rw [ea]
  have hge : ¬ (((q * d.size + 0 : Nat) : Int) < 0) := by omega
  clear ht e ea h3 h1
  generalize q * d.size + 0 = Q at *
  cases ha : d.regs[q].armed
  · rw [ha] at x1
    go_wp2
    go_ret
    exact ⟨ret_bool (by rw [ha]; rfl), rfl⟩
  · rw [ha] at x1
    go_wp2
    go_ret
    exact ⟨ret_bool (by rw [ha]; rfl), rfl⟩
set_option maxHeartbeats 2000000 in
theorem down_nil (r : Int) (w : World) : Calls Try.prog 22 #[.pointer none, .int .i64 r] w fun e w' => e = .returned (.bool false) ∧ w = w' := by
  go_enter Try.func22, Try.ntmps22
  go_wp2_with fail
  refine (at_nil r 0 w).mono ?_
  rintro e w' ⟨rfl, rfl⟩
  go_wp2
  go_ret
  exact ⟨rfl, rfl⟩
/-- how many wait -/
def Dk.waitsI (d : Dk) (r : Int) : Nat := if d.there r 0 = true then (d.regs[r.toNat]?.getD emptyRg).waits.length else 0
set_option maxHeartbeats 2000000 in
theorem waits_any (p : Nat) (d : Dk) (r : Int) (w : World) (S : Nat → Prop) (h : Dsk w S p d) : Calls Try.prog 16 #[.pointer (some ⟨p, 0, none⟩), .int .i64 r] w fun e w' => e = .returned (.int .i64 (d.waitsI r)) ∧ w = w' := by
  have h0 := h
  obtain ⟨gd, gr, vs, h⟩ := h
  obtain ⟨c0, c1, c2, c3⟩ := h.heads
  obtain ⟨T, hT⟩ : ∃ T, d.waitsI r = T := ⟨_, rfl⟩
  have HT := Lib.hid hT
  rw [hT]
  clear hT
  go_enter Try.func16, Try.ntmps16
  go_wp2_with fail
  refine (at_any p d r 0 w S h0).mono ?_
  rintro e w' ⟨rfl, rfl⟩
  by_cases ht : d.there r 0 = true
  rotate_left
  · have ht' : d.there r 0 = false := by simpa using ht
    rw [d.at_lt r 0 ht']
    have e : d.waitsI r = 0 := by unfold Dk.waitsI; rw [if_neg ht]
    have e2 : T = _ := HT.out.symm.trans e
    subst e2
    clear ht ht' e
    go_wp2
    go_ret
    exact ⟨rfl, rfl⟩
  obtain ⟨h1, h2, -, h3⟩ := (d.there_iff r 0).1 ht
  obtain ⟨q, rfl⟩ := Int.eq_ofNat_of_zero_le h1
  have hq : q < d.regs.length := by omega
  have hv : q < vs.length := by rw [h.len]; exact hq
  obtain ⟨x0, x1, x2⟩ := h.region q hq hv
  obtain ⟨wa, wc, hwv, hwc⟩ := h.waitsAt q hq hv
  rw [hwv] at x0
  have e : d.waitsI (q : Int) = d.regs[q].waits.length := by
    unfold Dk.waitsI
    rw [if_pos ht, Int.toNat_natCast, List.getElem?_eq_getElem hq]
    rfl
  have ea := d.at_pos q 0 hq (by have := h.ok.s1; omega)
  rw [show ((0 : Nat) : Int) = 0 from rfl] at ea
  have e2 : T = _ := HT.out.symm.trans e
  subst e2
  rw [ea]
  have hge : ¬ (((q * d.size + 0 : Nat) : Int) < 0) := by omega
  clear ht e ea h3 h1 hwv
  generalize q * d.size + 0 = Q at *
  go_wp2
  go_ret
  exact ⟨rfl, rfl⟩
set_option maxHeartbeats 2000000 in
theorem waits_nil (r : Int) (w : World) : Calls Try.prog 16 #[.pointer none, .int .i64 r] w fun e w' => e = .returned (.int .i64 0) ∧ w = w' := by
  go_enter Try.func16, Try.ntmps16
  go_wp2_with fail
  refine (at_nil r 0 w).mono ?_
  rintro e w' ⟨rfl, rfl⟩
  go_wp2
  go_ret
  exact ⟨rfl, rfl⟩
end Go.Proofs.Ythknhonpcmneaaa
