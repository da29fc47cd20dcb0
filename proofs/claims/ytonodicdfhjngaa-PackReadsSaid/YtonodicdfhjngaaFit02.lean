/- The walk of the pack law's example. -/
import Derived.Test.YtonodicdfhjngaaReader
namespace Go.Proofs.Ytonodicdfhjngaa
open Go.RowKit
attribute [local irreducible] Go.wpQuiet

theorem rd_new_num (l : List UInt8) (n : Nat) (h : l.length = n) (hn : 1 ≤ n) (hn8 : n ≤ 8) : Pk.numN ⟨l, false⟩ n = (Pk.num l, ⟨[], false⟩) := by
  have h1 : ¬ ((n : Int) < 1 ∨ 8 < (n : Int)) := by omega
  have h2 : ¬ (false = true ∨ (n : Int) < 0 ∨ (l.length : Int) < n) := by
    intro h3
    rcases h3 with h3 | h3 | h3
    · cases h3
    · omega
    · omega
  unfold Pk.numN Pk.take
  simp only [if_neg h1, if_neg h2]
  simp [← h]

set_option maxHeartbeats 1000000 in
theorem fit_any (w : World) :
    Calls Try.prog 8 #[] w fun e w' => e = .returned (.bool true) ∧ Keep w w' := by
  go_enter Try.func8, Try.ntmps8
  go_wp2_with fail
  refine (put_at _ [] 2 258 _ _ w rfl rfl (SlB.nil w) (by omega) (by omega) (by simp)).mono ?_
  rintro e w1 ⟨v1, rfl, ho1, hk1⟩
  rw [List.nil_append, show Pk.be 258 2 = [1, 2] by decide] at ho1
  obtain ⟨g, c, rfl, -, -⟩ := ho1.head (by simp)
  rw [List.length_map] at ho1 ⊢
  have hc0 : w1.cell? ⟨g, 0, none⟩ = some (.int .u8 1) := ho1.cellOf 0 (by simp)
  have hc1 : w1.cell? ⟨g, 1, none⟩ = some (.int .u8 2) := ho1.cellOf 1 (by simp)
  go_wp2_with fail
  refine (new_any _ [1, 2] w1 ho1.slB).mono ?_
  rintro e w2 ⟨rfl, hr2, hk2, _⟩
  clear ho1
  go_wp2_with fail
  refine (num_any _ _ 2 w2 hr2 (by simp)).mono ?_
  rintro e w3 ⟨rfl, hb3, hr3⟩
  have hv : (Pk.numN ⟨[1, 2], false⟩ 2).1 = 258 := by decide
  rw [hv]
  clear hv hr3 hr2
  have hk3 : Below w.heap.size w w3 := (hk1.trans (hk2.mono hk1.size)).trans (hb3.below hk1.size (Nat.le_trans hk1.size hk2.size))
  go_wp2
  go_ret
  exact ⟨rfl, hk3⟩
end Go.Proofs.Ytonodicdfhjngaa
