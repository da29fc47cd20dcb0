/- Small disks. -/
import Derived.Test.YthknhonpcmneaaaDkE
namespace Go.Proofs.Ythknhonpcmneaaa
open Go Go.RowKit

/-- no more than n writes -/
structure Dk.Small (d : Dk) (n : Nat) : Prop where
  wr : d.writes ≤ n
  w : ∀ r ∈ d.regs, r.waits.length ≤ n
theorem Dk.Small.room {d : Dk} {n : Nat} (h : d.Small n) (hn : n < 1000000) : d.Room := ⟨by have := h.wr; omega, fun r hr => by have := h.w r hr; omega⟩
theorem Dk.Small.mono {d : Dk} {n m : Nat} (h : d.Small n) (hn : n ≤ m) : d.Small m := ⟨by have := h.wr; omega, fun r hr => by have := h.w r hr; omega⟩
theorem newD_small (n s : Nat) : (newD n s).Small 0 := ⟨Nat.le_refl _, fun r hr => by rw [List.eq_of_mem_replicate hr]; exact Nat.le_refl _⟩
theorem Dk.Small.get {d : Dk} {n : Nat} (h : d.Small n) (r : Nat) : (d.regs[r]?.getD emptyRg).waits.length ≤ n := by
  by_cases hr : r < d.regs.length
  · rw [List.getElem?_eq_getElem hr]
    exact h.w _ (List.getElem_mem hr)
  · rw [List.getElem?_eq_none (by omega)]
    exact Nat.zero_le _
theorem Dk.Small.set {d : Dk} {n m : Nat} (h : d.Small n) (hm : n ≤ m) (r : Nat) (g : Rg) (hg : g.waits.length ≤ m) : (d.setRg r g).Small m := ⟨by have := h.wr; show d.writes ≤ m; omega, fun x hx => (List.mem_or_eq_of_mem_set hx).elim (fun h1 => by have := h.w x h1; omega) (fun h1 => by rw [h1]; exact hg)⟩
theorem Dk.Small.write {d : Dk} {n : Nat} (h : d.Small n) (r s : Nat) (b : List UInt8) : (d.write r s b).Small (n + 1) := by
  have h1 := h.set (Nat.le_succ n) r ⟨(d.regs[r]?.getD emptyRg).waits ++ [(s, pad b)], (d.regs[r]?.getD emptyRg).armed, if (d.regs[r]?.getD emptyRg).armed then (d.regs[r]?.getD emptyRg).left - 1 else (d.regs[r]?.getD emptyRg).left⟩ (by have := h.get r; simp; omega)
  exact ⟨Nat.succ_le_succ h.wr, h1.w⟩
theorem Dk.Small.wrD {d : Dk} {n : Nat} (h : d.Small n) (r s : Int) (b : List UInt8) : (d.wrD r s b).Small (n + 1) := by
  unfold Dk.wrD
  split
  · exact h.mono (Nat.le_succ n)
  · split
    · exact h.mono (Nat.le_succ n)
    · exact h.write _ _ b
theorem Dk.Small.keep {d : Dk} {n : Nat} (h : d.Small n) (r mask : Nat) : (d.keep r mask).Small n := by
  have h1 := h.set (Nat.le_refl n) r { (d.regs[r]?.getD emptyRg) with waits := [] } (Nat.zero_le _)
  exact ⟨h.wr, h1.w⟩
theorem Dk.Small.barD {d : Dk} {n : Nat} (h : d.Small n) (r : Int) : (d.barD r).Small n := by
  unfold Dk.barD
  split
  · exact h
  · split
    · exact h
    · exact h.keep _ _

theorem slB_one (w : World) (b : UInt8) : SlB (w.alloc (.cells #[.int .u8 b.toNat] 5)) (.slice (some ⟨w.heap.size, 0, none⟩) 1 1) [b] := Sl.laid w _ _ _ _ 1 1 rfl rfl (by decide) (Nat.le_refl _)
theorem Own.there {w w' : World} {base : Nat} {e : TypeId} {v : Value} {xs : List Value} (h : Own w base e v xs) (hk : ∀ g, v.ownBlock = some g → g < w.heap.size → w'.heap[g]? = w.heap[g]?) : Own w' base e v xs := by
  refine ⟨h.1, ?_⟩
  rcases h.2 with h | ⟨g, cap, cur, hv, hg, hc, r⟩
  · exact .inl h
  · refine .inr ⟨g, cap, cur, hv, hg, ?_, r⟩
    rw [hk g (by rw [hv]; rfl) (Array.getElem?_eq_some_iff.1 hc).1]
    exact hc
end Go.Proofs.Ythknhonpcmneaaa
