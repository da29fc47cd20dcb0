/- The walk of lane.Wipe. -/
import Derived.Test.YthknhonpcmneaaaLaneZero
namespace Go.Proofs.Ythknhonpcmneaaa
open Go Go.RowKit
attribute [local irreducible] Go.wpQuiet

def wipeN (a b : Nat) : Nat → Option (List UInt8) := fun t => if a ≤ t ∧ t < b then some z64 else none
theorem wipeN_next {a s t : Nat} (h : a ≤ s) : wipeN a (s + 1) t = if t = s then some z64 else wipeN a s t := by
  unfold wipeN
  by_cases e : t = s
  · subst e; rw [if_pos rfl, if_pos ⟨h, by omega⟩]
  · rw [if_neg e]
    by_cases h2 : a ≤ t ∧ t < s
    · rw [if_pos h2, if_pos ⟨h2.1, by omega⟩]
    · rw [if_neg h2, if_neg (by omega)]
theorem wipeN_at {a s : Nat} : wipeN a s s = none := by unfold wipeN; rw [if_neg (by omega)]
theorem wipeN_none (a : Nat) : wipeN a a = fun _ => none := by funext t; unfold wipeN; rw [if_neg (by omega)]
theorem wipeN_sub {a s b t : Nat} (h : s ≤ b) (x : List UInt8) (hx : wipeN a s t = some x) : wipeN a b t = some x := by
  unfold wipeN at *
  split at hx
  · rw [if_pos (by omega)]; exact hx
  · cases hx
set_option maxRecDepth 100000 in
set_option maxHeartbeats 8000000 in
theorem wipe_any (p : Nat) (d : Dk) (r a b K : Nat) (w : World) (S : Nat → Prop) (h : Dsk w S p d) (hr : r < d.regs.length) (hab : a ≤ b) (hb : b ≤ d.size) (hsm : d.Small K) (hK : K + (b - a) < 1000000) :
    Calls Try.prog 25 #[.pointer (some ⟨p, 0, none⟩), .int .i64 r, .int .i64 a, .int .i64 b] w fun e w' => ∃ d' x, e = .returned (.int .i64 x) ∧ Dt w S w' (Fresh S w w') p d' ∧ Did d d' r (wipeN a b) (b - a) x := by
  have hsz := h.ok.s2
  have hD0 := (Dt.start h).lift
  have hM0 := Lib.hid (wipeN_none a ▸ Mid.start d r)
  have HSM := Lib.hid hsm
  have hr64 := h.ok.r2
  clear h hsm
  go_enter Try.func25, Try.ntmps25
  go_wp2
  go_loopw [9] (fun z wr => ∃ (s : Nat) (dk : Dk), a ≤ s ∧ s ≤ b ∧ z = .int .i64 s ∧ Dt w S wr (Fresh S w wr) p dk ∧ Hid (Mid d dk r (wipeN a s) (s - a))) (fun z _ => b - (intOf z).toNat)
  case atStart => exact ⟨a, d, Nat.le_refl _, hab, rfl, hD0, by rw [Nat.sub_self]; exact hM0⟩
  case round =>
    obtain ⟨s, dk, has, hsb, rfl, hD, HM⟩ := hrel
    clear hD0 hM0
    have hrk : r < dk.regs.length := by rw [HM.out.regs]; exact hr
    by_cases hs : s < b
    rotate_left
    · have hsi : ¬ (s : Int) < (b : Int) := by omega
      have es : s = b := by omega
      subst es
      go_wp2_with fail
      refine (barrier_any p dk r wr _ hD.dsk).mono ?_
      rintro e w1 ⟨rfl, h1, k1⟩
      have hF := HM.out.bar hD.ok hr (Nat.le_refl _)
      have hD1 := (hD.step (Dt.old hD.dsk.low h1 k1)).lift
      go_wp2
      go_ret
      exact ⟨_, _, rfl, hD1, hF⟩
    have hsi : (s : Int) < (b : Int) := by omega
    have hsk : s < dk.size := by rw [HM.out.size]; omega
    have hsd : (s : Int) < 65536 := by omega
    go_wp2_with fail
    refine (read_any p dk r s wr _ hD.dsk).mono ?_
    rintro e w1 ⟨v1, rfl, hO, k1⟩
    rw [Dk.there_at hD.ok hrk hsk, if_pos rfl]
    rw [Dk.readI_at hD.ok hrk hsk] at hO
    have hl1 := Dk.read_length dk hD.ok r s hrk hsk
    have hb1 := hO.slB
    have hD1 := hD.keep k1
    have HR := Lib.hid (rfl : dk.read r s = dk.read r s)
    obtain ⟨x, hx⟩ : ∃ x, dk.read r s = x := ⟨_, rfl⟩
    rw [hx] at hb1 hl1
    have HX := Lib.hid hx
    clear hO HR hx hD
    obtain ⟨a1, c1, rfl, -, -, -⟩ := hb1.form
    rw [hl1] at hb1 ⊢
    have HL1 := Lib.hid hl1
    clear hl1
    go_wp2_with fail
    refine (zero_any _ x w1 hb1 HL1.out).mono ?_
    rintro e w2 ⟨rfl, k2⟩
    have hD2 := hD1.keep k2
    clear hD1 k1 k2 hb1
    by_cases hz : x = z64
    · have hzb : (x == z64) = true := by rw [hz]; exact beq_self_eq_true z64
      have HN := Lib.hid (HM.out.same (HX.out.trans hz) wipeN_at (fun t => wipeN_next (t := t) has))
      have hD3 := hD2.lift
      clear hz HX HM
      rw [hzb]
      go_wp2
      go_roundw
      case rel => exact ⟨s + 1, dk, by omega, by omega, by go_num, hD3, by rw [show s + 1 - a = s - a + 1 by omega]; exact HN⟩
      case measure => simp [intOf]; omega
    have hzb : (x == z64) = false := by rw [beq_eq_false_iff_ne]; exact hz
    rw [hzb]
    have hroom : dk.Room := (HM.out.small K HSM.out).room (by omega)
    clear hz HX hzb
    go_wp2_with fail
    refine (write_any p dk r s (.slice none 0 0) [] w2 _ hD2.dsk (SlB.nil w2) hroom).mono ?_
    rintro e w3 ⟨rfl, h3, k3⟩
    rw [Dk.wrE_at hD2.ok hrk hsk (by simp)]
    rw [Dk.wrD_at hD2.ok hrk hsk (by simp)] at h3
    by_cases hdn : dk.down r = true
    · rw [if_pos hdn]
      rw [if_pos hdn] at h3
      have hF := HM.out.fail (n2 := b - a) (new2 := wipeN a b) (by omega) hdn (fun t x hx => wipeN_sub (by omega) x hx)
      have hD3 := (hD2.step (Dt.of hD2.dsk.low h3 k3)).lift
      clear hD2 h3 k3
      go_wp2
      go_ret
      exact ⟨_, _, rfl, hD3, hF⟩
    rw [if_neg hdn]
    rw [if_neg hdn] at h3
    have HN := Lib.hid (HM.out.write (b := []) hr wipeN_at (fun t => wipeN_next (t := t) has))
    have hD3 := (hD2.step (Dt.of hD2.dsk.low h3 k3)).lift
    clear hD2 h3 k3 HM hdn
    go_wp2
    go_roundw
    case rel => exact ⟨s + 1, _, by omega, by omega, by go_num, hD3, by rw [show s + 1 - a = s - a + 1 by omega]; exact HN⟩
    case measure => simp [intOf]; omega
end Go.Proofs.Ythknhonpcmneaaa
