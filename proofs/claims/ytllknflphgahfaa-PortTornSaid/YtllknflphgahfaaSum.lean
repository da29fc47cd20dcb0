/- The walk of sum.Of. -/
import Derived.Test.YtllknflphgahfaaStep
import Derived.Test.YtllknflphgahfaaBase
namespace Go.Proofs.Ytllknflphgahfaa
open Go.RowKit

theorem take_succ_getElem {α : Type} (l : List α) (k : Nat) (h : k < l.length) : l.take (k + 1) = l.take k ++ [l[k]] := by
  rw [List.take_add_one, List.getElem?_eq_getElem h]; rfl

theorem unxor_u32 (d : BitVec 32) : Go.bits .xor .u32 IntKind.u32.max (cn d) = cn (~~~ d) := by
  have h : IntKind.u32.max = cn (BitVec.allOnes 32) := by rfl
  rw [h]
  have h2 := bv_xor (BitVec.allOnes 32) d.toNat d.isLt
  have h3 : (cn d) = (d.toNat : Int) := rfl
  rw [h3, h2]
  congr 1
  rw [show BitVec.ofNat 32 d.toNat = d by simp]
  exact BitVec.allOnes_xor

theorem run_snoc (c : BitVec 32) (l : List UInt8) (k : Nat) (h : k < l.length) : Crc.run c (l.take (k + 1)) = Crc.byte (Crc.run c (l.take k)) l[k] := by
  rw [take_succ_getElem l k h, Crc.run_append]; rfl
theorem run_parts (c : BitVec 32) (ls : List (List UInt8)) (k : Nat) (h : k < ls.length) : Crc.run c (ls.take (k + 1)).flatten = Crc.run (Crc.run c (ls.take k).flatten) ls[k] := by
  rw [take_succ_getElem ls k h, List.flatten_append, Crc.run_append]; simp

set_option maxHeartbeats 1000000 in
theorem of_any (v : Value) (ls : List (List UInt8)) (w : World) (hv : SlBB w v ls) :
    Calls Try.prog 21 #[v] w fun e w' => e = .returned (.int .u32 (cn (Crc.sum ls.flatten))) ∧ w = w' := by
  obtain ⟨vs, ⟨ao, cap, rfl, hm, hcap, hc⟩, hlen, hvs⟩ := hv
  unfold maxLen at hm
  have HL := Lib.hid hlen
  clear hlen
  go_enter Try.func21, Try.ntmps21
  go_wp2
  go_loop [3, 10] (fun x i => ∃ k : Nat, k ≤ vs.length ∧ i = .int .i64 k ∧ x = .int .u32 (cn (Crc.run (Crc.ones) (ls.take k).flatten))) (fun _ i => vs.length - (intOf i).toNat)
  case atStart => exact ⟨0, by omega, rfl, rfl⟩
  case round =>
    obtain ⟨k, hk, rfl, rfl⟩ := hrel
    by_cases hk2 : k < vs.length
    · obtain ⟨b, off, rfl, hcell⟩ := hc k hk2
      obtain ⟨ao2, cap2, hv2, hm2, hcap2, hc2⟩ := (hvs k hk2 (HL.out ▸ hk2)).form
      rw [hv2] at hcell
      have hr := run_parts (Crc.ones) ls k (HL.out ▸ hk2)
      have HR := Lib.hid hr
      clear hv2 hr hc hvs
      generalize ls[k]'(HL.out ▸ hk2) = l at *
      generalize Crc.run (Crc.ones) (List.take k ls).flatten = c at *
      unfold maxLen at hm2
      go_wp2
      go_loop [3, 16] (fun x i => ∃ j : Nat, j ≤ l.length ∧ i = .int .i64 j ∧ x = .int .u32 (cn (Crc.run c (l.take j)))) (fun _ i => l.length - (intOf i).toNat)
      case atStart => exact ⟨0, by omega, rfl, rfl⟩
      case round =>
        obtain ⟨j, hj, rfl, rfl⟩ := hrel
        by_cases hj2 : j < l.length
        · obtain ⟨b2, off2, rfl, hcell2⟩ := hc2 j hj2
          have hr2 := run_snoc c l j hj2
          have HR2 := Lib.hid hr2
          clear hr2 hc2
          generalize l[j] = u at *
          go_wp2_with (go_at_call 30; refine (step_any _ _ _).mono ?_; rintro e w' ⟨rfl, rfl⟩)
          go_round
          case rel => exact ⟨j + 1, by omega, by go_num, by rw [HR2.out]⟩
          case measure => simp [intOf]; omega
        · have hj3 : j = l.length := by omega
          subst hj3
          go_wp2
          go_round
          case rel => exact ⟨k + 1, by omega, by go_num, by rw [HR.out]; simp⟩
          case measure => simp [intOf]; omega
    · have hk3 : k = vs.length := by omega
      subst hk3
      clear hc hvs
      have hx := unxor_u32 (Crc.run (Crc.ones) (ls.take vs.length).flatten)
      have HX := Lib.hid hx
      clear hx
      go_wp2
      go_ret
      exact ⟨ret_int (by rw [HX.out, HL.out]; simp [Crc.sum]), rfl⟩
end Go.Proofs.Ytllknflphgahfaa
