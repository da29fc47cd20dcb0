/- Words for slices that are read: values of one cell, one behind the other. -/
import Derived.WalkKit
import Derived.KernelRfl
import Derived.Lib.Hide
import Derived.Test.YthknhonpcmneaaaDag
namespace Go.Proofs.Ythknhonpcmneaaa
open Go.RowKit

theorem ret_int {k : IntKind} {a b : Int} (h : a = b) : Ending.returned (.int k a) = .returned (.int k b) := by rw [h]
theorem ret_bool {a b : Bool} (h : a = b) : Ending.returned (.bool a) = .returned (.bool b) := by rw [h]

/-- v is a slice whose elements, of one cell each, are xs. -/
def Sl (w : World) (v : Value) (xs : List Value) : Prop :=
  ∃ ao cap, v = .slice ao xs.length cap ∧ xs.length ≤ maxLen ∧ (xs.length ≤ cap ∧ (ao = none → cap = 0)) ∧ ∀ i (h : i < xs.length), ∃ b off, ao = some ⟨b, off, none⟩ ∧ w.cell? ⟨b, off + i, none⟩ = some xs[i]

/-- a byte as a cell -/
def B (b : UInt8) : Value := .int .u8 (b.toNat : Int)
/-- v is a slice of bytes that reads l -/
def SlB (w : World) (v : Value) (l : List UInt8) : Prop := Sl w v (l.map B)
/-- v is a slice of byte slices that read ls -/
def SlBB (w : World) (v : Value) (ls : List (List UInt8)) : Prop :=
  ∃ vs : List Value, Sl w v vs ∧ vs.length = ls.length ∧ ∀ i (h : i < vs.length) (h' : i < ls.length), SlB w vs[i] ls[i]

/-- all that stood in w stands in w' -/
abbrev Keep (w w' : World) : Prop := Below w.heap.size w w'

theorem Keep.trans' {a b c : World} (h : Keep a b) (k : Keep b c) : Keep a c := h.trans (k.mono h.size)

theorem Sl.keep {w w' : World} (hk : Keep w w') {v : Value} {xs : List Value} (h : Sl w v xs) : Sl w' v xs := by
  obtain ⟨ao, cap, hv, hm, hcap, hc⟩ := h
  refine ⟨ao, cap, hv, hm, hcap, fun i hi => ?_⟩
  obtain ⟨b, off, ha, hcell⟩ := hc i hi
  exact ⟨b, off, ha, (hk.cell (World.block_lt_of_cell? w _ hcell)).trans hcell⟩
theorem SlB.keep {w w' : World} (hk : Keep w w') {v : Value} {l : List UInt8} (h : SlB w v l) : SlB w' v l := Sl.keep hk h

theorem SlB.nil (w : World) : SlB w (.slice none 0 0) [] := ⟨none, 0, rfl, Nat.zero_le _, ⟨Nat.le_refl _, fun _ => rfl⟩, fun i h => absurd h (by simp)⟩

/-- the parts of a reading -/
theorem SlB.form {w : World} {v : Value} {l : List UInt8} (h : SlB w v l) : ∃ ao cap, v = .slice ao l.length cap ∧ l.length ≤ maxLen ∧ l.length ≤ cap ∧
    ∀ i (h : i < l.length), ∃ b off, ao = some ⟨b, off, none⟩ ∧ w.cell? ⟨b, off + i, none⟩ = some (.int .u8 (l[i].toNat : Int)) := by
  obtain ⟨ao, cap, hv, hm, hcap, hc⟩ := h
  simp only [List.length_map] at hv hm hcap hc
  refine ⟨ao, cap, hv, hm, hcap.1, fun i hi => ?_⟩
  obtain ⟨b, off, ha, hcell⟩ := hc i hi
  exact ⟨b, off, ha, by rw [hcell]; simp [B]⟩

/-- a block's first cells -/
theorem Sl.of_block {w : World} {g : Nat} {cur : Array Value} {e : TypeId} {fr : Nat × Nat} (h : w.heap[g]? = some (.cells cur e fr)) (xs : List Value) (n cap : Nat) (hn : n = xs.length)
    (hx : cur.toList.take n = xs) (hm : n ≤ maxLen) (hcap : n ≤ cap) : Sl w (.slice (some ⟨g, 0, none⟩) n cap) xs := by
  subst hn
  refine ⟨_, cap, rfl, hm, ⟨hcap, fun h => by cases h⟩, fun i hi => ⟨g, 0, rfl, ?_⟩⟩
  rw [Nat.zero_add, cell_of_row w g i cur e fr h]
  have h1 : (cur.toList.take xs.length)[i]? = some xs[i] := by rw [hx]; exact List.getElem?_eq_getElem hi
  rw [List.getElem?_take] at h1
  simpa [hi] using h1

/-- a slice that has just been laid -/
theorem Sl.laid (w : World) (cur : Array Value) (e : TypeId) (fr : Nat × Nat) (xs : List Value) (n cap : Nat) (hn : n = xs.length)
    (hx : cur.toList.take n = xs) (hm : n ≤ maxLen) (hcap : n ≤ cap) : Sl (w.alloc (.cells cur e fr)) (.slice (some ⟨w.heap.size, 0, none⟩) n cap) xs :=
  Sl.of_block (heap_alloc_new w _) xs n cap hn hx hm hcap

theorem Keep.alloc (w : World) (o : Obj) : Keep w (w.alloc o) := (Below.refl _ _).alloc (Nat.le_refl _) o
theorem Keep.refl (w : World) : Keep w w := Below.refl _ _

theorem SlBB.keep {w w' : World} (hk : Keep w w') {v : Value} {ls : List (List UInt8)} (h : SlBB w v ls) : SlBB w' v ls := by
  obtain ⟨vs, h1, h2, h3⟩ := h
  exact ⟨vs, h1.keep hk, h2, fun i h h' => (h3 i h h').keep hk⟩

/-- the block just laid, whatever its number is written as -/
theorem heap_new (w : World) (o : Obj) (g : Nat) (hg : g = w.heap.size) : (w.alloc o).heap[g]? = some o := by
  subst hg; exact heap_alloc_new w o

/-- parts laid in one block -/
theorem parts_of {W : World} {g : Nat} {vs : List Value} {ls : List (List UInt8)} (e : TypeId) (h : W.heap[g]? = some (.cells vs.toArray e)) (n : Nat) (hn : n = vs.length) (hl : vs.length = ls.length) (hm : n ≤ 100)
    (hp : ∀ i (h : i < vs.length) (h' : i < ls.length), SlB W vs[i] ls[i]) : SlBB W (.slice (some ⟨g, 0, none⟩) n n) ls :=
  ⟨vs, Sl.of_block h _ n n hn (by simp [hn]) (by unfold maxLen; omega) (Nat.le_refl _), hl, hp⟩
theorem one_part {W : World} {g : Nat} {v : Value} {l : List UInt8} (e : TypeId) (h : W.heap[g]? = some (.cells #[v] e)) (hv : SlB W v l) : SlBB W (.slice (some ⟨g, 0, none⟩) 1 1) [l] :=
  parts_of (vs := [v]) e h 1 rfl rfl (by decide) fun i h1 h2 => by
    have hi : i = 0 := by simp at h1; omega
    subst hi
    exact hv
theorem two_parts {W : World} {g : Nat} {v u : Value} {l k : List UInt8} (e : TypeId) (h : W.heap[g]? = some (.cells #[v, u] e)) (hv : SlB W v l) (hu : SlB W u k) : SlBB W (.slice (some ⟨g, 0, none⟩) 2 2) [l, k] :=
  parts_of (vs := [v, u]) e h 2 rfl rfl (by decide) fun i h1 h2 => by
    match i, h1 with
    | 0, _ => exact hv
    | 1, _ => exact hu
theorem three_parts {W : World} {g : Nat} {v u t : Value} {l k m : List UInt8} (e : TypeId) (h : W.heap[g]? = some (.cells #[v, u, t] e)) (hv : SlB W v l) (hu : SlB W u k) (ht : SlB W t m) : SlBB W (.slice (some ⟨g, 0, none⟩) 3 3) [l, k, m] :=
  parts_of (vs := [v, u, t]) e h 3 rfl rfl (by decide) fun i h1 h2 => by
    match i, h1 with
    | 0, _ => exact hv
    | 1, _ => exact hu
    | 2, _ => exact ht
theorem no_parts (W : World) : SlBB W (.slice none 0 0) [] := ⟨[], ⟨none, 0, rfl, Nat.zero_le _, ⟨Nat.le_refl _, fun _ => rfl⟩, fun i h => absurd h (by simp)⟩, rfl, fun i h => absurd h (by simp)⟩

/-! ### What is told of an operation's value -/
def tV (u : Value) : Tells Keep := ⟨fun v _ => v = u, fun _ _ _ _ h => h⟩
def tB (l : List UInt8) : Tells Keep := ⟨fun v w => SlB w v l, fun _ _ _ hk h => h.keep hk⟩
def tBB (ls : List (List UInt8)) : Tells Keep := ⟨fun v w => SlBB w v ls, fun _ _ _ hk h => h.keep hk⟩

theorem SlB.shape {w : World} {v : Value} {l : List UInt8} (h : SlB w v l) : ∃ a n c, v = .slice a n c := by
  obtain ⟨ao, cap, hv, _⟩ := h
  exact ⟨_, _, _, hv⟩

/-- where its bytes lie, if there are some -/
theorem SlB.cells {w : World} {ao : Option Addr} {n cap : Nat} {l : List UInt8} (h : SlB w (.slice ao n cap) l) (h0 : 0 < l.length) : ∃ b off, ao = some ⟨b, off, none⟩ ∧ ∀ i (h : i < l.length), w.cell? ⟨b, off + i, none⟩ = some (.int .u8 (l[i].toNat : Int)) := by
  obtain ⟨ao', cap', hv, hm, hcap, hc⟩ := h.form
  simp only [Value.slice.injEq] at hv
  obtain ⟨rfl, _, _⟩ := hv
  obtain ⟨b, off, rfl, _⟩ := hc 0 h0
  refine ⟨b, off, rfl, fun i hi => ?_⟩
  obtain ⟨b', off', ha, hcell⟩ := hc i hi
  cases ha
  exact hcell

/-! ### A slice that is cut -/
theorem Sl.cut {w : World} {ao : Option Addr} {n cap : Nat} {xs : List Value} (h : Sl w (.slice ao n cap) xs) (lo hi : Nat) (h1 : lo ≤ hi) (h2 : hi ≤ n) : Sl w (sliced ao lo hi cap 1) ((xs.drop lo).take (hi - lo)) := by
  obtain ⟨ao', cap', hv, hm, hcap, hc⟩ := h
  simp only [Value.slice.injEq] at hv
  obtain ⟨rfl, rfl, rfl⟩ := hv
  have hlen : ((xs.drop lo).take (hi - lo)).length = hi - lo := by simp; omega
  unfold sliced
  refine ⟨_, _, by rw [hlen], by rw [hlen]; omega, ⟨by rw [hlen]; omega, fun h => by
    have := hcap.2
    split at h
    · have := this h; omega
    · have := this (by simpa using h); omega⟩, fun i hi2 => ?_⟩
  rw [hlen] at hi2
  obtain ⟨b, off, rfl, hcell⟩ := hc (lo + i) (by omega)
  refine ⟨b, off + lo, ?_, ?_⟩
  · rw [if_neg (by omega)]
    by_cases h0 : lo = 0
    · subst h0; simp [Addr.add]
    · simp [Addr.add, h0]
  · rw [List.getElem_take, List.getElem_drop, show off + lo + i = off + (lo + i) by omega]
    exact hcell
theorem SlB.cut {w : World} {ao : Option Addr} {n cap : Nat} {l : List UInt8} (h : SlB w (.slice ao n cap) l) (lo hi : Nat) (h1 : lo ≤ hi) (h2 : hi ≤ n) : SlB w (sliced ao lo hi cap 1) ((l.drop lo).take (hi - lo)) := by
  have := Sl.cut h lo hi h1 h2
  unfold SlB
  rw [List.map_take, List.map_drop]
  exact this
theorem SlB.upto {w : World} {ao : Option Addr} {n cap : Nat} {l : List UInt8} (h : SlB w (.slice ao n cap) l) (hi : Nat) (h2 : hi ≤ n) : SlB w (sliced ao 0 hi cap 1) (l.take hi) := by
  have := h.cut 0 hi (Nat.zero_le _) h2
  simpa using this
theorem SlB.from {w : World} {ao : Option Addr} {n cap : Nat} {l : List UInt8} (h : SlB w (.slice ao n cap) l) (lo : Nat) (h2 : lo ≤ n) : SlB w (sliced ao lo n cap 1) (l.drop lo) := by
  have := h.cut lo n h2 (Nat.le_refl _)
  have hl : l.length = n := by
    obtain ⟨ao', cap', hv, _⟩ := h
    simp only [Value.slice.injEq, List.length_map] at hv
    exact hv.2.1.symm
  rwa [List.take_of_length_le (by simp; omega)] at this

/-- What the row's frame tells of a slice of integers that came in (the guide's own shell). -/
def IsRow (k : IntKind) (w : World) (a : Option Addr) (len cap : Nat) (zs : List Int) : Prop :=
  (a = none ∧ len = 0 ∧ cap = 0 ∧ zs = []) ∨
  ∃ x, a = some x ∧ len ≤ cap ∧ cap ≤ maxLen ∧ zs.length = cap ∧ (∀ i, i < zs.length → w.cell? (x.add i) = some (.int k (zs.getD i 0))) ∧ ∀ n ∈ zs, (Lit.int k n).wf = true

theorem IsRow.bytes {w : World} {a : Option Addr} {len cap : Nat} {zs : List Int} (h : IsRow .u8 w a len cap zs) : ∃ l : List UInt8, SlB w (.slice a len cap) l ∧ l.length = len := by
  rcases h with ⟨rfl, rfl, rfl, rfl⟩ | ⟨x, rfl, hl, hm, hz, hc, hwf⟩
  · exact ⟨[], SlB.nil w, rfl⟩
  · have hlen : ((zs.take len).map fun z => UInt8.ofNat z.toNat).length = len := by simp; omega
    refine ⟨(zs.take len).map fun z => UInt8.ofNat z.toNat, ?_, hlen⟩
    refine ⟨some x, cap, by simp; omega, by simp; omega, ⟨by simp; omega, fun h => by cases h⟩, fun i hi => ?_⟩
    have hi2 : i < len := by simp at hi; omega
    have hcell := hc i (by omega)
    have hspot : x.spot = none := by
      cases hs : x.spot with
      | none => rfl
      | some s =>
        exfalso
        have h0 := hc 0 (by omega)
        rw [show x.add 0 = x from rfl] at h0
        unfold World.cell? at h0
        split at h0
        · rw [hs] at h0; simp at h0
        · cases h0
    refine ⟨x.block, x.off, by cases x; simp_all, ?_⟩
    have hx : x.add i = ⟨x.block, x.off + i, none⟩ := by
      unfold Addr.add
      split
      · rename_i h0; subst h0; cases x; simp_all
      · rfl
    rw [hx] at hcell
    rw [hcell]
    have hw := hwf (zs.getD i 0) (by rw [List.getD_eq_getElem?_getD, List.getElem?_eq_getElem (by omega)]; exact List.getElem_mem _)
    simp only [Lit.wf, IntKind.min, IntKind.max, IntKind.signed, IntKind.bits] at hw
    have hb : 0 ≤ zs.getD i 0 ∧ zs.getD i 0 ≤ 255 := by simpa using hw
    simp only [List.getElem_map, List.getElem_take]
    have he : zs.getD i 0 = zs[i]'(by omega) := by rw [List.getD_eq_getElem?_getD, List.getElem?_eq_getElem (by omega)]; rfl
    rw [he] at hb ⊢
    generalize zs[i]'(by omega) = z at hb
    have h8 : (UInt8.ofNat z.toNat).toNat = z.toNat := by
      rw [UInt8.toNat_ofNat']
      exact Nat.mod_eq_of_lt (by omega)
    show some (Value.int .u8 z) = some (Value.int .u8 ((UInt8.ofNat z.toNat).toNat : Int))
    rw [h8, Int.toNat_of_nonneg hb.1]

end Go.Proofs.Ythknhonpcmneaaa
