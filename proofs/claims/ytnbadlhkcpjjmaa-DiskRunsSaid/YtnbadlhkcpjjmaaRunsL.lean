/- DiskRuns' model, plainly, and how the disk is as the model. -/
import Derived.Test.YtnbadlhkcpjjmaaDiskAll
namespace Go.Proofs.Ytnbadlhkcpjjmaa
open Go

/-- the model: 24 strings (3 regions of 8), three rows of calls that wait, three counts -/
structure Md where
  data : List (List UInt8)
  wait : List (List Cl)
  left : List Int
def Cl.w (c : Cl) : Nat × List UInt8 := (c.s.toNat, pad c.data)
/-- a region is as the model has it -/
structure RgLike (g : Rg) (ws : List Cl) (n : Int) : Prop where
  w : g.waits = ws.map Cl.w
  s : ∀ c ∈ ws, 0 ≤ c.s ∧ c.s < 8 ∧ c.data.length ≤ 64
  n : n = if g.armed then g.left else -1
  z : 0 ≤ g.left
structure MdLike (d : Dk) (m : Md) : Prop where
  s : d.size = 8
  l : d.regs.length = 3
  dd : d.data = m.data.map pad
  dl : m.data.length = 24
  ds : ∀ x ∈ m.data, x.length ≤ 64
  wl : m.wait.length = 3
  nl : m.left.length = 3
  r : ∀ i (h : i < d.regs.length) (h1 : i < m.wait.length) (h2 : i < m.left.length), RgLike d.regs[i] m.wait[i] m.left[i]
def newM : Md := ⟨List.replicate 24 [], List.replicate 3 [], List.replicate 3 (-1)⟩
theorem like_newM : MdLike (newD 3 8) newM := by
  refine ⟨rfl, rfl, ?_, rfl, fun x hx => ?_, rfl, rfl, fun i h h1 h2 => ?_⟩
  · show List.replicate 24 (List.replicate 64 0) = (List.replicate 24 []).map pad
    rw [List.map_replicate]
    rfl
  · rw [List.eq_of_mem_replicate hx]
    exact Nat.zero_le _
  · have key : RgLike emptyRg [] (-1) := ⟨rfl, fun c hc => by simp at hc, rfl, by decide⟩
    have all : ∀ i (h : i < (List.replicate 3 emptyRg).length) (h1 : i < (List.replicate 3 ([] : List Cl)).length) (h2 : i < (List.replicate 3 (-1 : Int)).length), RgLike (List.replicate 3 emptyRg)[i] (List.replicate 3 ([] : List Cl))[i] (List.replicate 3 (-1 : Int))[i] := by
      intro i h h1 h2
      rw [List.getElem_replicate, List.getElem_replicate, List.getElem_replicate]
      exact key
    exact all i h h1 h2
theorem MdLike.down {d : Dk} {m : Md} (h : MdLike d m) (r : Nat) (hr : r < 3) : d.down r = decide (m.left[r]'(by rw [h.nl]; exact hr) = 0) := by
  have hg := h.r r (by rw [h.l]; exact hr) (by rw [h.wl]; exact hr) (by rw [h.nl]; exact hr)
  have hrd : r < d.regs.length := by rw [h.l]; exact hr
  have hn := hg.n
  rw [d.down_at r hrd, hn, Bool.eq_iff_iff]
  cases d.regs[r].armed <;> simp
theorem MdLike.waits {d : Dk} {m : Md} (h : MdLike d m) (r : Nat) (hr : r < 3) : d.waitsI r = (m.wait[r]'(by rw [h.wl]; exact hr)).length := by
  have hg := h.r r (by rw [h.l]; exact hr) (by rw [h.wl]; exact hr) (by rw [h.nl]; exact hr)
  have ht : d.there (r : Int) 0 = true := (d.there_iff r 0).2 ⟨by omega, by rw [h.l]; omega, by decide, by rw [h.s]; decide⟩
  unfold Dk.waitsI
  rw [if_pos ht]
  simp only [Int.toNat_natCast]
  rw [List.getElem?_eq_getElem (by rw [h.l]; exact hr)]
  simp only [Option.getD_some, hg.w, List.length_map]
def Md.arm (m : Md) (r : Nat) (n : Int) : Md := { m with left := m.left.set r (max n 0) }
theorem MdLike.arm {d : Dk} {m : Md} (h : MdLike d m) (r : Nat) (hr : r < 3) (n : Int) : MdLike (d.arm r n) (m.arm r n) := by
  have hrd : r < d.regs.length := by rw [h.l]; exact hr
  have ht : d.there (r : Int) 0 = true := (d.there_iff r 0).2 ⟨by omega, by rw [h.l]; omega, by decide, by rw [h.s]; decide⟩
  have e : d.arm r n = d.setRg r ⟨d.regs[r].waits, true, max n 0⟩ := by
    unfold Dk.arm
    rw [if_pos ht]
    simp only [Int.toNat_natCast]
    rw [List.getElem?_eq_getElem hrd]
    rfl
  rw [e]
  refine ⟨h.s, by simpa [Dk.setRg] using h.l, h.dd, h.dl, h.ds, h.wl, by simpa [Md.arm] using h.nl, fun i h0 h1 h2 => ?_⟩
  have hi : i < d.regs.length := by simpa [Dk.setRg] using h0
  have hw : i < m.wait.length := h1
  have hn : i < m.left.length := by simpa [Md.arm] using h2
  have hg := h.r i hi hw hn
  by_cases hir : i = r
  · subst hir
    have e1 : (d.setRg i ⟨d.regs[i].waits, true, max n 0⟩).regs[i]'h0 = ⟨d.regs[i].waits, true, max n 0⟩ := List.getElem_set_self _
    have e2 : (m.arm i n).left[i]'h2 = max n 0 := List.getElem_set_self _
    rw [e1, e2]
    exact ⟨hg.w, hg.s, rfl, by simp only; omega⟩
  · have e1 : (d.setRg r ⟨d.regs[r].waits, true, max n 0⟩).regs[i]'h0 = d.regs[i] := List.getElem_set_ne (fun e => hir e.symm) _
    have e2 : (m.arm r n).left[i]'h2 = m.left[i] := List.getElem_set_ne (fun e => hir e.symm) _
    rw [e1, e2]
    exact hg
theorem left_step (A : Bool) (L N : Int) (h : N = if A then L else -1) (z : 0 ≤ L) (hz : N ≠ 0) : (if 0 < N then N - 1 else N) = (if A then (if A then L - 1 else L) else -1) ∧ 0 ≤ (if A then L - 1 else L) := by
  cases A
  · simp at h ⊢
    subst h
    exact ⟨by decide, z⟩
  · simp at h ⊢
    subst h
    refine ⟨?_, by omega⟩
    split <;> omega
/-- the model's write: it waits, and counts -/
def Md.write (m : Md) (r : Nat) (c : Cl) : Md := { m with wait := m.wait.set r ((m.wait[r]?.getD []) ++ [c]), left := if 0 < m.left[r]?.getD 0 then m.left.set r ((m.left[r]?.getD 0) - 1) else m.left }
theorem MdLike.write {d : Dk} {m : Md} (h : MdLike d m) (r : Nat) (hr : r < 3) (c : Cl) (hc : 0 ≤ c.s ∧ c.s < 8 ∧ c.data.length ≤ 64) (hz : m.left[r]'(by rw [h.nl]; exact hr) ≠ 0) : MdLike (d.write r c.s.toNat c.data) (m.write r c) := by
  have hrd : r < d.regs.length := by rw [h.l]; exact hr
  have hrw : r < m.wait.length := by rw [h.wl]; exact hr
  have hrn : r < m.left.length := by rw [h.nl]; exact hr
  have hg := h.r r hrd hrw hrn
  refine ⟨h.s, by simpa [Dk.write, Dk.setRg] using h.l, h.dd, h.dl, h.ds, by simpa [Md.write] using h.wl, ?_, fun i h0 h1 h2 => ?_⟩
  · unfold Md.write
    simp only
    split
    · rw [List.length_set]; exact h.nl
    · exact h.nl
  have hi : i < d.regs.length := by simpa [Dk.write, Dk.setRg] using h0
  have hw : i < m.wait.length := by simpa [Md.write] using h1
  have hn : i < m.left.length := by rw [h.nl]; rw [h.l] at hi; exact hi
  by_cases hir : i = r
  · subst hir
    have e1 : (d.write i c.s.toNat c.data).regs[i]'h0 = ⟨d.regs[i].waits ++ [(c.s.toNat, pad c.data)], d.regs[i].armed, if d.regs[i].armed then d.regs[i].left - 1 else d.regs[i].left⟩ := by
      unfold Dk.write Dk.setRg
      simp only [List.getElem?_eq_getElem hi, Option.getD_some]
      exact List.getElem_set_self _
    have e2 : (m.write i c).wait[i]'h1 = m.wait[i] ++ [c] := by
      unfold Md.write
      simp only [List.getElem?_eq_getElem hw, Option.getD_some]
      exact List.getElem_set_self _
    have e3 : (m.write i c).left[i]'h2 = if 0 < m.left[i] then m.left[i] - 1 else m.left[i] := by
      unfold Md.write
      simp only [List.getElem?_eq_getElem hn, Option.getD_some]
      split
      · exact List.getElem_set_self _
      · rfl
    rw [e1, e2, e3]
    have hl := left_step _ _ _ hg.n hg.z hz
    exact ⟨by rw [List.map_append, hg.w]; rfl, fun x hx => (List.mem_append.1 hx).elim (hg.s x) (fun hx => by rw [List.mem_singleton.1 hx]; exact hc), hl.1, hl.2⟩
  · have e1 : (d.write r c.s.toNat c.data).regs[i]'h0 = d.regs[i] := List.getElem_set_ne (fun e => hir e.symm) _
    have e2 : (m.write r c).wait[i]'h1 = m.wait[i] := List.getElem_set_ne (fun e => hir e.symm) _
    have e3 : (m.write r c).left[i]'h2 = m.left[i] := by
      unfold Md.write
      simp only
      split
      · exact List.getElem_set_ne (fun e => hir e.symm) _
      · rfl
    rw [e1, e2, e3]
    exact h.r i hi hw hn
/-! ### What lasts -/
def mkeepD (mask base : Nat) (ws : List Cl) (n : Nat) (data : List (List UInt8)) : List (List UInt8) := (ws.zipIdx n).foldl (fun data x => if mask.testBit (x.2 % 64) then data.set (base + x.1.s.toNat) x.1.data else data) data
theorem keep_like (mask base : Nat) (ws : List Cl) : ∀ (n : Nat) (data : List (List UInt8)), ((ws.map Cl.w).zipIdx n).foldl (stepD mask base) (data.map pad) = (mkeepD mask base ws n data).map pad := by
  induction ws with
  | nil => intro n data; rfl
  | cons c ws ih =>
    intro n data
    have e : mkeepD mask base (c :: ws) n data = mkeepD mask base ws (n + 1) (if mask.testBit (n % 64) then data.set (base + c.s.toNat) c.data else data) := rfl
    rw [e, ← ih (n + 1), List.map_cons, List.zipIdx_cons, List.foldl_cons]
    congr 1
    unfold stepD Cl.w
    simp only
    split
    · rw [List.map_set]
    · rfl
theorem mkeepD_length (mask base : Nat) (ws : List Cl) : ∀ (n : Nat) (data : List (List UInt8)), (mkeepD mask base ws n data).length = data.length := by
  induction ws with
  | nil => intro n data; rfl
  | cons c ws ih =>
    intro n data
    have e : mkeepD mask base (c :: ws) n data = mkeepD mask base ws (n + 1) (if mask.testBit (n % 64) then data.set (base + c.s.toNat) c.data else data) := rfl
    rw [e, ih]
    split
    · rw [List.length_set]
    · rfl
theorem mkeepD_each (mask base : Nat) (ws : List Cl) (hw : ∀ c ∈ ws, c.data.length ≤ 64) : ∀ (n : Nat) (data : List (List UInt8)), (∀ x ∈ data, x.length ≤ 64) → ∀ x ∈ mkeepD mask base ws n data, x.length ≤ 64 := by
  induction ws with
  | nil => intro n data h; exact h
  | cons c ws ih =>
    intro n data h
    have e : mkeepD mask base (c :: ws) n data = mkeepD mask base ws (n + 1) (if mask.testBit (n % 64) then data.set (base + c.s.toNat) c.data else data) := rfl
    rw [e]
    refine ih (fun c hc => hw c (List.mem_cons_of_mem _ hc)) (n + 1) _ ?_
    split
    · intro x hx
      exact (List.mem_or_eq_of_mem_set hx).elim (h x) (fun e => by rw [e]; exact hw c List.mem_cons_self)
    · exact h
def Md.keep (m : Md) (r mask : Nat) : Md := { m with data := mkeepD mask (r * 8) (m.wait[r]?.getD []) 0 m.data, wait := m.wait.set r [] }
theorem MdLike.keep {d : Dk} {m : Md} (h : MdLike d m) (r : Nat) (hr : r < 3) (mask : Nat) : MdLike (d.keep r mask) (m.keep r mask) := by
  have hrd : r < d.regs.length := by rw [h.l]; exact hr
  have hrw : r < m.wait.length := by rw [h.wl]; exact hr
  have hrn : r < m.left.length := by rw [h.nl]; exact hr
  have hg := h.r r hrd hrw hrn
  have ew : m.wait[r]?.getD [] = m.wait[r] := by rw [List.getElem?_eq_getElem hrw]; rfl
  have eg : d.regs[r]?.getD emptyRg = d.regs[r] := by rw [List.getElem?_eq_getElem hrd]; rfl
  refine ⟨h.s, by simpa [Dk.keep] using h.l, ?_, (mkeepD_length _ _ _ _ _).trans h.dl, ?_, by simpa [Md.keep] using h.wl, h.nl, fun i h0 h1 h2 => ?_⟩
  · show keepD mask (r * d.size) (d.regs[r]?.getD emptyRg).waits d.data = (mkeepD mask (r * 8) (m.wait[r]?.getD []) 0 m.data).map pad
    rw [ew, eg, hg.w, h.dd, h.s]
    exact keep_like mask (r * 8) m.wait[r] 0 m.data
  · refine mkeepD_each mask (r * 8) _ ?_ 0 m.data h.ds
    rw [ew]
    exact fun c hc => (hg.s c hc).2.2
  have hi : i < d.regs.length := by simpa [Dk.keep] using h0
  have hw : i < m.wait.length := by simpa [Md.keep] using h1
  have hn : i < m.left.length := h2
  by_cases hir : i = r
  · subst hir
    have e1 : (d.keep i mask).regs[i]'h0 = { d.regs[i] with waits := [] } := by
      unfold Dk.keep
      simp only [eg]
      exact List.getElem_set_self _
    have e2 : (m.keep i mask).wait[i]'h1 = [] := List.getElem_set_self _
    rw [e1, e2]
    exact ⟨rfl, fun c hc => by simp at hc, hg.n, hg.z⟩
  · have e1 : (d.keep r mask).regs[i]'h0 = d.regs[i] := List.getElem_set_ne (fun e => hir e.symm) _
    have e2 : (m.keep r mask).wait[i]'h1 = m.wait[i] := List.getElem_set_ne (fun e => hir e.symm) _
    rw [e1, e2]
    exact h.r i hi hw hn
/-- a region goes up -/
def Md.crashR (m : Md) (r mask : Nat) : Md := { m.keep r mask with left := m.left.set r (-1) }
theorem MdLike.crashR {d : Dk} {m : Md} (h : MdLike d m) (r : Nat) (hr : r < 3) (mask : Nat) : MdLike (d.crashR mask r) (m.crashR r mask) := by
  have hk := h.keep r hr mask
  have hrd : r < d.regs.length := by rw [h.l]; exact hr
  have hg := h.r r hrd (by rw [h.wl]; exact hr) (by rw [h.nl]; exact hr)
  have eg : d.regs[r]?.getD emptyRg = d.regs[r] := by rw [List.getElem?_eq_getElem hrd]; rfl
  refine ⟨hk.s, by rw [d.crashR_length]; exact h.l, hk.dd, hk.dl, hk.ds, hk.wl, by simpa [Md.crashR] using h.nl, fun i h0 h1 h2 => ?_⟩
  have hi : i < d.regs.length := by rw [d.crashR_length] at h0; exact h0
  have hik : i < (d.keep r mask).regs.length := by simpa [Dk.keep] using hi
  have hw : i < (m.keep r mask).wait.length := h1
  have hn : i < m.left.length := by simpa [Md.crashR] using h2
  by_cases hir : i = r
  · subst hir
    have e1 : (d.crashR mask i).regs[i]'h0 = { d.regs[i] with waits := [], armed := false } := by
      unfold Dk.crashR Dk.setRg
      simp only [eg]
      exact List.getElem_set_self _
    have e2 : (m.crashR i mask).wait[i]'h1 = [] := List.getElem_set_self _
    have e3 : (m.crashR i mask).left[i]'h2 = -1 := List.getElem_set_self _
    rw [e1, e2, e3]
    exact ⟨rfl, fun c hc => by simp at hc, rfl, hg.z⟩
  · have e1 : (d.crashR mask r).regs[i]'h0 = (d.keep r mask).regs[i] := List.getElem_set_ne (fun e => hir e.symm) _
    have e3 : (m.crashR r mask).left[i]'h2 = m.left[i] := List.getElem_set_ne (fun e => hir e.symm) _
    rw [e1, e3]
    exact hk.r i hik hw hn
def Md.crash (m : Md) (mask : Nat) : Md := ((m.crashR 0 mask).crashR 1 mask).crashR 2 mask
theorem MdLike.crash {d : Dk} {m : Md} (h : MdLike d m) (mask : Nat) : MdLike (d.crash mask) (m.crash mask) := by
  have e : d.crash mask = ((d.crashR mask 0).crashR mask 1).crashR mask 2 := by
    unfold Dk.crash
    rw [h.l]
    rfl
  rw [e]
  exact ((h.crashR 0 (by decide) mask).crashR 1 (by decide) mask).crashR 2 (by decide) mask
/-- a sector, as the model reads it -/
def outM (ws : List Cl) (s : Nat) (o : List UInt8) : List UInt8 := ws.foldl (fun o c => if c.s = (s : Int) then c.data else o) o
theorem outM_pad (ws : List Cl) (s : Nat) (hs : ∀ c ∈ ws, 0 ≤ c.s) : ∀ o : List UInt8, lastW (ws.map Cl.w) s (pad o) = pad (outM ws s o) := by
  induction ws with
  | nil => intro o; rfl
  | cons c ws ih =>
    intro o
    have e : outM (c :: ws) s o = outM ws s (if c.s = (s : Int) then c.data else o) := rfl
    rw [e, ← ih (fun c hc => hs c (List.mem_cons_of_mem _ hc))]
    have h0 := hs c List.mem_cons_self
    unfold lastW Cl.w
    rw [List.map_cons, List.foldl_cons]
    congr 1
    simp only
    by_cases hc : c.s = (s : Int)
    · rw [if_pos hc, if_pos (by omega)]
    · rw [if_neg hc, if_neg (by omega)]
theorem MdLike.read {d : Dk} {m : Md} (h : MdLike d m) (r s : Nat) (hr : r < 3) (hs : s < 8) : d.readI r s = pad (outM (m.wait[r]'(by rw [h.wl]; exact hr)) s (m.data[r * 8 + s]'(by rw [h.dl]; omega))) := by
  have hrd : r < d.regs.length := by rw [h.l]; exact hr
  have hg := h.r r hrd (by rw [h.wl]; exact hr) (by rw [h.nl]; exact hr)
  have ht : d.there (r : Int) s = true := (d.there_iff r s).2 ⟨by omega, by rw [h.l]; omega, by omega, by rw [h.s]; omega⟩
  unfold Dk.readI
  rw [if_pos ht]
  unfold Dk.read
  simp only [Int.toNat_natCast]
  rw [List.getElem?_eq_getElem hrd]
  simp only [Option.getD_some, hg.w, h.s, h.dd]
  rw [← outM_pad _ _ (fun c hc => (hg.s c hc).1)]
  congr 1
  rw [List.getD_eq_getElem?_getD, List.getElem?_map, List.getElem?_eq_getElem (by rw [h.dl]; omega)]
  rfl
end Go.Proofs.Ytnbadlhkcpjjmaa
