/- Small disks; the walk of the disk law's fit. -/
import Derived.Test.YtnbadlhkcpjjmaaDs
namespace Go.Proofs.Ytnbadlhkcpjjmaa
open Go Go.RowKit
attribute [local irreducible] Go.wpQuiet

/-- no more than n writes -/
structure Dk.Small (d : Dk) (n : Nat) : Prop where
  wr : d.writes ≤ n
  w : ∀ r ∈ d.regs, r.waits.length ≤ n
theorem Dk.Small.room {d : Dk} {n : Nat} (h : d.Small n) (hn : n < 1000000) : d.Room := ⟨by have := h.wr; omega, fun r hr => by have := h.w r hr; omega⟩
theorem Dk.Small.mono {d : Dk} {n m : Nat} (h : d.Small n) (hn : n ≤ m) : d.Small m := ⟨by have := h.wr; omega, fun r hr => by have := h.w r hr; omega⟩
theorem newD_small (n s : Nat) : (newD n s).Small 0 := ⟨Nat.le_refl _, fun r hr => by rw [List.eq_of_mem_replicate hr]; exact Nat.le_refl _⟩
theorem Dk.Small.get {d : Dk} {n : Nat} (h : d.Small n) (r : Nat) : (d.regs[r]?.getD emptyRg).waits.length ≤ n := by
  by_cases hr : r < d.regs.length
  · rw [List.getElem?_eq_getElem hr]
    exact h.w _ (List.getElem_mem hr)
  · rw [List.getElem?_eq_none (by omega)]
    exact Nat.zero_le _
theorem Dk.Small.set {d : Dk} {n m : Nat} (h : d.Small n) (hm : n ≤ m) (r : Nat) (g : Rg) (hg : g.waits.length ≤ m) : (d.setRg r g).Small m := ⟨by have := h.wr; show d.writes ≤ m; omega, fun x hx => (List.mem_or_eq_of_mem_set hx).elim (fun h1 => by have := h.w x h1; omega) (fun h1 => by rw [h1]; exact hg)⟩
theorem Dk.Small.write {d : Dk} {n : Nat} (h : d.Small n) (r s : Nat) (b : List UInt8) : (d.write r s b).Small (n + 1) := by
  have h1 := h.set (Nat.le_succ n) r ⟨(d.regs[r]?.getD emptyRg).waits ++ [(s, pad b)], (d.regs[r]?.getD emptyRg).armed, if (d.regs[r]?.getD emptyRg).armed then (d.regs[r]?.getD emptyRg).left - 1 else (d.regs[r]?.getD emptyRg).left⟩ (by have := h.get r; simp; omega)
  exact ⟨Nat.succ_le_succ h.wr, h1.w⟩
theorem Dk.Small.wrD {d : Dk} {n : Nat} (h : d.Small n) (r s : Int) (b : List UInt8) : (d.wrD r s b).Small (n + 1) := by
  unfold Dk.wrD
  split
  · exact h.mono (Nat.le_succ n)
  · split
    · exact h.mono (Nat.le_succ n)
    · exact h.write _ _ b
theorem Dk.Small.keep {d : Dk} {n : Nat} (h : d.Small n) (r mask : Nat) : (d.keep r mask).Small n := by
  have h1 := h.set (Nat.le_refl n) r { (d.regs[r]?.getD emptyRg) with waits := [] } (Nat.zero_le _)
  exact ⟨h.wr, h1.w⟩
theorem Dk.Small.barD {d : Dk} {n : Nat} (h : d.Small n) (r : Int) : (d.barD r).Small n := by
  unfold Dk.barD
  split
  · exact h
  · split
    · exact h
    · exact h.keep _ _

theorem slB_one (w : World) (b : UInt8) : SlB (w.alloc (.cells #[.int .u8 b.toNat] 5)) (.slice (some ⟨w.heap.size, 0, none⟩) 1 1) [b] := Sl.laid w _ _ _ _ 1 1 rfl rfl (by decide) (Nat.le_refl _)
theorem Own.there {w w' : World} {base : Nat} {e : TypeId} {v : Value} {xs : List Value} (h : Own w base e v xs) (hk : ∀ g, v.ownBlock = some g → g < w.heap.size → w'.heap[g]? = w.heap[g]?) : Own w' base e v xs := by
  refine ⟨h.1, ?_⟩
  rcases h.2 with h | ⟨g, cap, cur, hv, hg, hc, r⟩
  · exact .inl h
  · refine .inr ⟨g, cap, cur, hv, hg, ?_, r⟩
    rw [hk g (by rw [hv]; rfl) (Array.getElem?_eq_some_iff.1 hc).1]
    exact hc
def five : List UInt8 := 5 :: List.replicate 63 0
def noB : List UInt8 := 0 :: List.replicate 63 0
set_option maxRecDepth 100000 in
set_option maxHeartbeats 4000000 in
theorem fit_any (w : World) : Calls Try.prog 11 #[] w fun e w' => e = .returned (.bool true) ∧ Keep w w' := by
  go_enter Try.func11, Try.ntmps11
  go_wp2_with fail
  refine (new_ds (Ds.nil (Keep.refl w)) 1 2 (by decide) (by decide) (by decide) (by decide)).mono ?_
  rintro e w1 ⟨p, rfl, h1, k1⟩
  have h1 : Ds w w1 [(p, newD 1 2)] := h1
  have hsm := newD_small 1 2
  go_wp2_with fail
  have h2 := h1.keep (Keep.alloc w1 (.cells #[.int .u8 5] 5))
  have hb := slB_one w1 5
  refine (write_ds h2 0 Nat.zero_lt_one p _ rfl 0 1 _ [5] hb (hsm.room (by decide))).mono ?_
  rintro e w3 ⟨rfl, h3⟩
  have h3 : Ds w w3 [(p, (newD 1 2).wrD 0 1 [5])] := h3
  have e1 : (newD 1 2).wrE 0 1 [5] = 0 := rfl
  rw [e1]
  clear h1 h2 hb k1 e1
  go_wp2_with fail
  obtain ⟨k3, S, hS1, hS2, hS3⟩ := h3
  have hD3 : Dsk w3 (S 0) p ((newD 1 2).wrD 0 1 [5]) := hS1 0 Nat.zero_lt_one
  have hs1 := hsm.wrD 0 1 [5]
  refine (read_any p _ 0 1 w3 (S 0) hD3).mono ?_
  rintro e w4 ⟨va, rfl, ha, k4⟩
  have e2 : ((newD 1 2).wrD 0 1 [5]).readI 0 1 = five := by decide
  have e3 : ((newD 1 2).wrD 0 1 [5]).there 0 1 = true := by decide
  rw [e2] at ha
  rw [e3]
  have hD4 := hD3.keep k4
  have hlow := hD3.low
  have hkw4 := k3.trans' k4
  clear e2 e3 hD3 hS1 hS3
  obtain ⟨aa, ac, rfl, -, -, -⟩ := ha.slB.form
  go_wp2_with fail
  refine (crash_any p _ 0 w4 (S 0) hD4 (by decide)).mono ?_
  rintro e w5 ⟨rfl, hD5, hB5⟩
  have ha5 : SlB w5 _ five := (ha.there fun g e hg => hB5.block g hg (fun hh => by have := hlow g hh; have := (World.ownsRow.lt ha g e).1; omega)).slB
  have hkw5 : Keep w w5 := hkw4.trans (hB5.below w.heap.size hkw4.size (hS2 0))
  go_wp2_with fail
  refine (read_any p _ 0 1 w5 (S 0) hD5).mono ?_
  rintro e w6 ⟨vb, rfl, hb, k6⟩
  have e2 : (((newD 1 2).wrD 0 1 [5]).crash 0).readI 0 1 = noB := by decide
  have e3 : (((newD 1 2).wrD 0 1 [5]).crash 0).there 0 1 = true := by decide
  rw [e2] at hb
  rw [e3]
  have hb6 := hb.slB
  have ha6 := ha5.keep k6
  have hkw6 := hkw5.trans' k6
  obtain ⟨ba, bc, rfl, -, -, -⟩ := hb6.form
  have l1 : five.length = 64 := rfl
  have l2 : noB.length = 64 := rfl
  rw [l1] at ha6 ⊢
  rw [l2] at hb6 ⊢
  obtain ⟨ga, oa, rfl, ca⟩ := ha6.cells (by decide)
  obtain ⟨gb, ob, rfl, cb⟩ := hb6.cells (by decide)
  have x0 : w6.cell? ⟨ga, oa, none⟩ = some (.int .u8 5) := ca 0 (by decide)
  have y0 : w6.cell? ⟨gb, ob, none⟩ = some (.int .u8 0) := cb 0 (by decide)
  clear ca cb ha6 hb6 ha5 hb k6 hD5 hB5 hkw5 hkw4 hD4 ha k4 hlow hS2 hs1 hsm k3
  go_wp2
  go_ret
  exact ⟨rfl, hkw6⟩
end Go.Proofs.Ytnbadlhkcpjjmaa
