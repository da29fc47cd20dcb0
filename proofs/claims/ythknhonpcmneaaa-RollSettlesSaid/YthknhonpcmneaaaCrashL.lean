/- What crashes leave. -/
import Derived.Test.YthknhonpcmneaaaSmall
namespace Go.Proofs.Ythknhonpcmneaaa
open Go

/-- a region behind a crash -/
def Rg.up (g : Rg) : Rg := { g with waits := [], armed := false }
theorem crashR_get (d : Dk) (m r i : Nat) : (d.crashR m r).regs[i]? = if i = r then (d.regs[i]?).map Rg.up else d.regs[i]? := by
  unfold Dk.crashR Dk.setRg Dk.keep
  simp only [List.set_set]
  by_cases h : i = r
  · subst h
    rw [if_pos rfl]
    by_cases hl : i < d.regs.length
    · rw [List.getElem?_set_self hl, List.getElem?_eq_getElem hl]
      rfl
    · rw [List.getElem?_eq_none (by simp; omega), List.getElem?_eq_none (by omega)]
      rfl
  · rw [if_neg h, List.getElem?_set_ne (fun e => h e.symm)]
theorem crash_fold (m : Nat) (l : List Nat) : ∀ (d : Dk) (i : Nat), (l.foldl (fun d r => d.crashR m r) d).regs[i]? = if i ∈ l then (d.regs[i]?).map Rg.up else d.regs[i]? := by
  induction l with
  | nil => intro d i; simp
  | cons r l ih =>
    intro d i
    rw [List.foldl_cons, ih, crashR_get]
    by_cases h : i = r
    · subst h
      simp only [if_true, List.mem_cons, true_or]
      split
      · cases d.regs[i]? <;> rfl
      · rfl
    · simp [h]
theorem crash_regs (d : Dk) (m : Nat) : (d.crash m).regs = d.regs.map Rg.up := by
  apply List.ext_getElem?
  intro i
  unfold Dk.crash
  rw [crash_fold, List.getElem?_map]
  split
  · rfl
  · rename_i h
    rw [List.mem_range] at h
    rw [List.getElem?_eq_none (by omega)]
    rfl
theorem crash_size (d : Dk) (m : Nat) : (d.crash m).size = d.size := by
  have : ∀ (l : List Nat) (d : Dk), (l.foldl (fun d r => d.crashR m r) d).size = d.size := by
    intro l
    induction l with
    | nil => intro d; rfl
    | cons r l ih => intro d; rw [List.foldl_cons, ih]; rfl
  exact this _ d
theorem crash_writes (d : Dk) (m : Nat) : (d.crash m).writes = d.writes := by
  have : ∀ (l : List Nat) (d : Dk), (l.foldl (fun d r => d.crashR m r) d).writes = d.writes := by
    intro l
    induction l with
    | nil => intro d; rfl
    | cons r l ih => intro d; rw [List.foldl_cons, ih]; rfl
  exact this _ d
theorem crash_none (d : Dk) (m : Nat) (h : ∀ i : Nat, (d.regs[i]?.getD emptyRg).waits = []) : (d.crash m).data = d.data := by
  have : ∀ (l : List Nat) (d : Dk), (∀ i : Nat, (d.regs[i]?.getD emptyRg).waits = []) → (l.foldl (fun d r => d.crashR m r) d).data = d.data := by
    intro l
    induction l with
    | nil => intro d _; rfl
    | cons r l ih =>
      intro d hd
      rw [List.foldl_cons, ih]
      · show keepD m (r * d.size) (d.regs[r]?.getD emptyRg).waits d.data = d.data
        rw [hd r]
        rfl
      · intro i
        rw [crashR_get]
        split
        · have := hd i
          cases d.regs[i]? <;> rfl
        · exact hd i
  exact this _ d h
theorem dk_ext {a b : Dk} (h1 : a.size = b.size) (h2 : a.data = b.data) (h3 : a.regs = b.regs) (h4 : a.writes = b.writes) : a = b := by
  cases a
  cases b
  simp only at h1 h2 h3 h4
  rw [h1, h2, h3, h4]
theorem crash_twice (d : Dk) (m n : Nat) : (d.crash m).crash n = d.crash m := by
  have h1 : ((d.crash m).crash n).regs = (d.crash m).regs := by
    rw [crash_regs, crash_regs, List.map_map]
    rfl
  have h2 : ((d.crash m).crash n).data = (d.crash m).data := crash_none _ _ fun i => by
    rw [crash_regs, List.getElem?_map]
    cases d.regs[i]? <;> rfl
  have h3 := crash_size (d.crash m) n
  have h4 := crash_writes (d.crash m) n
  exact dk_ext h3 h2 h1 h4
theorem Dk.Small.crash {d : Dk} {n : Nat} (h : d.Small n) (m : Nat) : (d.crash m).Small n := ⟨by rw [crash_writes]; exact h.wr, fun r hr => by
  rw [crash_regs] at hr
  obtain ⟨g, _, rfl⟩ := List.mem_map.1 hr
  exact Nat.zero_le _⟩
theorem crash_waits (d : Dk) (m : Nat) (r : Int) : (d.crash m).waitsI r = 0 := by
  unfold Dk.waitsI
  split
  · rw [crash_regs, List.getElem?_map]
    cases d.regs[r.toNat]? <;> rfl
  · rfl
end Go.Proofs.Ythknhonpcmneaaa
