/- The walk of the roll law's fit. -/
import Derived.Test.YthknhonpcmneaaaRollL
namespace Go.Proofs.Ythknhonpcmneaaa
open Go Go.RowKit
attribute [local irreducible] Go.wpQuiet

set_option maxRecDepth 100000 in
set_option maxHeartbeats 8000000 in
theorem fit_any (w : World) : Calls Try.prog 6 #[] w fun e w' => e = .returned (.bool true) ∧ Keep w w' := by
  go_enter Try.func6, Try.ntmps6
  go_wp2_with fail
  refine (newDk_any 1 538 w (by decide) (by decide) (by decide) (by decide)).mono ?_
  rintro e w1 ⟨p, rfl, hN, kN⟩
  have hSw : ∀ b, (fun b => w.heap.size ≤ b ∧ b < w1.heap.size) b → w.heap.size ≤ b := fun b h => h.1
  generalize (fun b => w.heap.size ≤ b ∧ b < w1.heap.size) = S at *
  have hD1 := Dt.start hN
  go_wp2_with fail
  refine (rwrite_any p (newD 1 538) 0 1 3 0 w1 S hN (by decide) (by decide) (by decide) (newD_small 1 538) (by decide)).mono ?_
  rintro e w2 ⟨d2, x, rfl, hD2, hF⟩
  obtain ⟨rfl, -⟩ := hF.up (by rw [newD_rg]; rfl)
  have hr := (hF.done rfl).2 0 (by rw [newD_size]; decide)
  have hl : lineOf (d2.read 0 0) = (1, 3) := by rw [hr]; exact lineOf_pad 1 3 (by decide) (by decide)
  have hD := hD1.step hD2
  clear hD1 hD2
  go_wp2_with fail
  refine (rread_any p d2 0 w2 _ hD.dsk (hF.there (by rw [newD_regs]; decide))).mono ?_
  rintro e w3 ⟨rfl, k3⟩
  rw [hl]
  have hK : Keep w w3 := (hD.keeps kN hSw).trans' k3
  clear hD k3 kN hN hF hr hl
  go_wp2
  go_ret
  exact ⟨rfl, hK.trans' (Keep.alloc _ _)⟩
end Go.Proofs.Ythknhonpcmneaaa
