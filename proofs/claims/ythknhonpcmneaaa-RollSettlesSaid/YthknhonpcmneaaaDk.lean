/- A disk in memory. -/
import Derived.Test.YthknhonpcmneaaaDkL
import Derived.Test.YthknhonpcmneaaaBig
import Derived.Test.YthknhonpcmneaaaZeros
import Derived.Test.YthknhonpcmneaaaAhead
import Derived.Test.YthknhonpcmneaaaCellOf
namespace Go.Proofs.Ythknhonpcmneaaa
open Go Go.RowKit

def wrC (x : Nat × List UInt8) : List Value := .int .i64 x.1 :: x.2.map B
def rgC (v : Value) (r : Rg) : List Value := [v, .bool r.armed, .int .i64 r.left]
theorem wrC_length (x : Nat × List UInt8) (h : x.2.length = 64) : (wrC x).length = 65 := by simp [wrC, h]

theorem flatten_set {k : Nat} : ∀ (css : List (List Value)) (r j : Nat) (x : Value), (∀ c ∈ css, c.length = k) → (hr : r < css.length) → j < k → css.flatten.set (r * k + j) x = (css.set r (css[r].set j x)).flatten
  | [], r, _, _, _, hr, _ => absurd hr (by simp)
  | c :: css, 0, j, x, h, _, hj => by
    have hc := h c List.mem_cons_self
    simp only [List.flatten_cons, Nat.zero_mul, Nat.zero_add, List.set_cons_zero, List.getElem_cons_zero]
    rw [List.set_append_left _ _ (by omega)]
  | c :: css, r + 1, j, x, h, hr, hj => by
    have hc := h c List.mem_cons_self
    have ih := flatten_set css r j x (fun d hd => h d (List.mem_cons_of_mem _ hd)) (by simpa using hr) hj
    simp only [List.flatten_cons, List.set_cons_succ, List.getElem_cons_succ]
    rw [List.set_append_right _ _ (by rw [hc, Nat.add_mul]; omega), hc]
    have e : (r + 1) * k + j - k = r * k + j := by rw [Nat.add_mul]; omega
    rw [e, ih]
theorem zip_length {vs : List Value} {rs : List Rg} (h : vs.length = rs.length) : (List.zipWith rgC vs rs).length = rs.length := by simp [h]
theorem zip_each (vs : List Value) (rs : List Rg) : ∀ c ∈ List.zipWith rgC vs rs, c.length = 3 := by
  intro c hc
  obtain ⟨i, hi, rfl⟩ := List.mem_iff_getElem.1 hc
  rw [List.getElem_zipWith]
  rfl
theorem zip_set (vs : List Value) (rs : List Rg) (h : vs.length = rs.length) (r : Nat) (v : Value) (g : Rg) : (List.zipWith rgC vs rs).set r (rgC v g) = List.zipWith rgC (vs.set r v) (rs.set r g) := by
  apply List.ext_getElem
  · simp
  · intro i h1 h2
    simp only [List.getElem_set, List.getElem_zipWith]
    split <;> simp_all

/-- a disk at p: its blocks gd (sectors), gr (regions), and what waits (vs); all of them in S -/
structure DkAt (w : World) (S : Nat → Prop) (p : Nat) (d : Dk) (gd gr : Nat) (vs : List Value) : Prop where
  ok : d.Ok
  head : w.heap[p]? = some (.cells #[.int .i64 d.size, .slice (some ⟨gd, 0, none⟩) d.data.length d.data.length, .slice (some ⟨gr, 0, none⟩) d.regs.length d.regs.length, .int .i64 d.writes] 52)
  data : w.heap[gd]? = some (.cells (d.data.flatten.map B).toArray 64)
  regs : w.heap[gr]? = some (.cells ((List.zipWith rgC vs d.regs).flatten).toArray 57)
  len : vs.length = d.regs.length
  sp : S p
  sd : S gd
  sr : S gr
  npd : p ≠ gd
  npr : p ≠ gr
  ndr : gd ≠ gr
  waits : ∀ i (h : i < vs.length) (h' : i < d.regs.length), OwnK w 0 66 65 vs[i] (d.regs[i].waits.map wrC)
  apart : ∀ i (h : i < vs.length) b, vs[i].ownBlock = some b → S b ∧ b ≠ p ∧ b ≠ gd ∧ b ≠ gr ∧ ∀ j (h : j < vs.length), j ≠ i → vs[j].ownBlock ≠ some b
  low : ∀ b, S b → b < w.heap.size
def Dsk (w : World) (S : Nat → Prop) (p : Nat) (d : Dk) : Prop := ∃ gd gr vs, DkAt w S p d gd gr vs

theorem DkAt.at {w w' : World} {S : Nat → Prop} {p : Nat} {d : Dk} {gd gr : Nat} {vs : List Value} (h : DkAt w S p d gd gr vs) (hb : ∀ b, S b → w'.heap[b]? = w.heap[b]?) (hs : w.heap.size ≤ w'.heap.size) : DkAt w' S p d gd gr vs :=
  { h with
    head := (hb p h.sp).trans h.head
    data := (hb gd h.sd).trans h.data
    regs := (hb gr h.sr).trans h.regs
    waits := fun i hi hi' => (h.waits i hi hi').at fun g e _ => hb g (h.apart i hi g e).1
    low := fun b hb' => Nat.lt_of_lt_of_le (h.low b hb') hs }
theorem DkAt.weak {w : World} {S T : Nat → Prop} {p : Nat} {d : Dk} {gd gr : Nat} {vs : List Value} (h : DkAt w S p d gd gr vs) (hST : ∀ b, S b → T b) (hT : ∀ b, T b → b < w.heap.size) : DkAt w T p d gd gr vs :=
  { h with
    sp := hST _ h.sp
    sd := hST _ h.sd
    sr := hST _ h.sr
    apart := fun i hi b e => ⟨hST _ (h.apart i hi b e).1, (h.apart i hi b e).2⟩
    low := hT }
theorem DkAt.keep {w w' : World} {S : Nat → Prop} {p : Nat} {d : Dk} {gd gr : Nat} {vs : List Value} (h : DkAt w S p d gd gr vs) (hk : Keep w w') : DkAt w' S p d gd gr vs :=
  h.at (fun b hb => hk.block b (h.low b hb)) hk.size
theorem Dsk.keep {w w' : World} {S : Nat → Prop} {p : Nat} {d : Dk} (h : Dsk w S p d) (hk : Keep w w') : Dsk w' S p d := by
  obtain ⟨gd, gr, vs, h⟩ := h
  exact ⟨gd, gr, vs, h.keep hk⟩

theorem DkAt.heads {w : World} {S : Nat → Prop} {p : Nat} {d : Dk} {gd gr : Nat} {vs : List Value} (h : DkAt w S p d gd gr vs) :
    w.cell? ⟨p, 0, none⟩ = some (.int .i64 d.size) ∧ w.cell? ⟨p, 1, none⟩ = some (.slice (some ⟨gd, 0, none⟩) d.data.length d.data.length) ∧ w.cell? ⟨p, 2, none⟩ = some (.slice (some ⟨gr, 0, none⟩) d.regs.length d.regs.length) ∧ w.cell? ⟨p, 3, none⟩ = some (.int .i64 d.writes) := by
  refine ⟨?_, ?_, ?_, ?_⟩ <;> (unfold World.cell?; simp [h.head])
theorem DkAt.region {w : World} {S : Nat → Prop} {p : Nat} {d : Dk} {gd gr : Nat} {vs : List Value} (h : DkAt w S p d gd gr vs) (r : Nat) (hr : r < d.regs.length) (hv : r < vs.length) :
    w.cell? ⟨gr, r * 3, none⟩ = some vs[r] ∧ w.cell? ⟨gr, r * 3 + 1, none⟩ = some (.bool d.regs[r].armed) ∧ w.cell? ⟨gr, r * 3 + 2, none⟩ = some (.int .i64 d.regs[r].left) := by
  have hl := zip_length h.len
  have e : ∀ j v, (rgC vs[r] d.regs[r])[j]? = some v → w.cell? ⟨gr, r * 3 + j, none⟩ = some v := fun j v hj =>
    cell_of h.regs _ _ (flatten_at (zip_each _ _) r j (by omega) v (by rw [List.getElem_zipWith]; exact hj))
  exact ⟨e 0 _ rfl, e 1 _ rfl, e 2 _ rfl⟩
theorem data_flat {ds : List (List UInt8)} (h : ∀ x ∈ ds, x.length = 64) (i j : Nat) (hi : i < ds.length) (u : UInt8) (hu : ds[i][j]? = some u) : (ds.flatten.map B)[i * 64 + j]? = some (B u) := by
  rw [List.map_flatten]
  refine flatten_at (k := 64) (css := ds.map (List.map B)) (fun c hc => ?_) i j (by simpa using hi) (B u) ?_
  · obtain ⟨x, hx, rfl⟩ := List.mem_map.1 hc
    rw [List.length_map]
    exact h x hx
  · rw [List.getElem_map, List.getElem?_map, hu]
    rfl
/-- a sector as a slice -/
theorem DkAt.sector {w : World} {S : Nat → Prop} {p : Nat} {d : Dk} {gd gr : Nat} {vs : List Value} (h : DkAt w S p d gd gr vs) (i : Nat) (hi : i < d.data.length) : SlB w (.slice (some ⟨gd, i * 64, none⟩) 64 64) d.data[i] := by
  have hl := h.ok.each d.data[i] (List.getElem_mem hi)
  refine ⟨some ⟨gd, i * 64, none⟩, 64, by rw [List.length_map, hl], by rw [List.length_map, hl]; decide, ⟨by rw [List.length_map, hl]; exact Nat.le_refl _, fun h => by cases h⟩, fun j hj => ⟨gd, i * 64, rfl, ?_⟩⟩
  rw [List.length_map] at hj
  refine cell_of h.data _ _ ?_
  rw [List.getElem_map]
  exact data_flat h.ok.each i j hi _ (List.getElem?_eq_getElem hj)
/-- one that waits: its sector, its bytes -/
theorem DkAt.wait {w : World} {S : Nat → Prop} {p : Nat} {d : Dk} {gd gr : Nat} {vs : List Value} (h : DkAt w S p d gd gr vs) (r : Nat) (hr : r < d.regs.length) (hv : r < vs.length) (k : Nat) (hk : k < d.regs[r].waits.length) :
    ∃ g n cap, vs[r] = .slice (some ⟨g, 0, none⟩) n cap ∧ n = d.regs[r].waits.length ∧ (∀ j v, (wrC d.regs[r].waits[k])[j]? = some v → w.cell? ⟨g, k * 65 + j, none⟩ = some v) ∧ w.cell? ⟨g, k * 65, none⟩ = some (.int .i64 d.regs[r].waits[k].1) ∧ SlB w (.slice (some ⟨g, k * 65 + 1, none⟩) 64 64) d.regs[r].waits[k].2 := by
  have hw := h.waits r hv hr
  have hx := (h.ok.rg d.regs[r] (List.getElem_mem hr)).w d.regs[r].waits[k] (List.getElem_mem hk)
  rcases hw.1.2 with ⟨_, h0⟩ | ⟨g, cap, cur, e, _, _⟩
  · rw [List.length_map] at h0; omega
  · have hs := hw.slc (by decide)
    obtain ⟨ao, c, hv2, _, _, hc⟩ := hs
    rw [List.length_map] at e hv2
    rw [e] at hv2
    simp only [Value.slice.injEq] at hv2
    obtain ⟨b, off, ha, hcell⟩ := hc k (by rw [List.length_map]; exact hk)
    rw [← hv2.1] at ha
    simp only [Option.some.injEq, Addr.mk.injEq, and_true] at ha
    obtain ⟨rfl, rfl⟩ := ha
    have hcell' : ∀ j v, (wrC d.regs[r].waits[k])[j]? = some v → w.cell? ⟨g, k * 65 + j, none⟩ = some v := fun j v hj => by
      have := hcell j v (by rw [List.getElem_map]; exact hj)
      rwa [Nat.zero_add] at this
    refine ⟨g, _, cap, e, rfl, hcell', hcell' 0 _ rfl, some ⟨g, k * 65 + 1, none⟩, 64, by rw [List.length_map, hx.2], by rw [List.length_map, hx.2]; decide, ⟨by rw [List.length_map, hx.2]; exact Nat.le_refl _, fun h => by cases h⟩, fun j hj => ⟨g, k * 65 + 1, rfl, ?_⟩⟩
    rw [show k * 65 + 1 + j = k * 65 + (j + 1) by omega]
    refine hcell' (j + 1) _ ?_
    unfold wrC
    rw [List.getElem?_cons_succ, List.getElem?_eq_getElem hj]
/-- what waits, as a slice -/
theorem DkAt.waitsAt {w : World} {S : Nat → Prop} {p : Nat} {d : Dk} {gd gr : Nat} {vs : List Value} (h : DkAt w S p d gd gr vs) (r : Nat) (hr : r < d.regs.length) (hv : r < vs.length) : ∃ a c, vs[r] = .slice a d.regs[r].waits.length c ∧ d.regs[r].waits.length ≤ c := by
  obtain ⟨a, c, e, _, hc, _⟩ := (h.waits r hv hr).slc (by decide)
  rw [List.length_map] at e hc
  exact ⟨a, c, e, hc.1⟩

/-! ### Changes -/
/-- a cell of a region that is no slice -/
theorem DkAt.setFlag {w : World} {S : Nat → Prop} {p : Nat} {d : Dk} {gd gr : Nat} {vs : List Value} (h : DkAt w S p d gd gr vs) (r : Nat) (hr : r < d.regs.length) (j : Nat) (v : Value) (g : Rg) (hj : j < 3) (hv : r < vs.length) (he : (rgC vs[r] d.regs[r]).set j v = rgC vs[r] g) (hw : g.waits = d.regs[r].waits) (hg : g.Ok d.size) :
    DkAt (w.setCell ⟨gr, r * 3 + j, none⟩ v) S p (d.setRg r g) gd gr vs := by
  have hot : ∀ b, b ≠ gr → (w.setCell ⟨gr, r * 3 + j, none⟩ v).heap[b]? = w.heap[b]? := fun b hb => Below.heap_setCell w _ v b hb
  refine { h with ok := h.ok.setRg r g hg, head := ?_, data := (hot gd h.ndr).trans h.data, regs := ?_, len := by simpa [Dk.setRg] using h.len, waits := fun i hi hi' => ?_, low := fun b hb => by simpa [World.setCell] using h.low b hb }
  · rw [hot p h.npr, h.head]
    simp [Dk.setRg]
  · rw [heap_set_same h.regs, flatten_set _ r j v (zip_each _ _) (by rw [zip_length h.len]; exact hr) hj, List.getElem_zipWith, he, zip_set _ _ h.len]
    congr 3
    have : vs.set r vs[r] = vs := List.set_getElem_self _
    rw [this]
    rfl
  · have h0 : i < d.regs.length := by simpa [Dk.setRg] using hi'
    have e : ((d.setRg r g).regs[i]).waits = d.regs[i].waits := by
      simp only [Dk.setRg, List.getElem_set]
      split
      · rename_i e; subst e; exact hw
      · rfl
    rw [e]
    exact (h.waits i hi h0).at fun b e _ => hot b (h.apart i hi b e).2.2.2.1
/-- what waits in a region is another slice, already there -/
theorem DkAt.setWaits {w : World} {S : Nat → Prop} {p : Nat} {d : Dk} {gd gr : Nat} {vs : List Value} (h : DkAt w S p d gd gr vs) (r : Nat) (hr : r < d.regs.length) (hv : r < vs.length) (v : Value) (l : List (Nat × List UInt8)) (hg : (Rg.mk l d.regs[r].armed d.regs[r].left).Ok d.size)
    (hO : OwnK w 0 66 65 v (l.map wrC)) (hb : ∀ b, v.ownBlock = some b → S b ∧ b ≠ p ∧ b ≠ gd ∧ b ≠ gr ∧ ∀ j (h : j < vs.length), j ≠ r → vs[j].ownBlock ≠ some b) :
    DkAt (w.setCell ⟨gr, r * 3, none⟩ v) S p (d.setRg r ⟨l, d.regs[r].armed, d.regs[r].left⟩) gd gr (vs.set r v) := by
  have hot : ∀ b, b ≠ gr → (w.setCell ⟨gr, r * 3, none⟩ v).heap[b]? = w.heap[b]? := fun b hb => Below.heap_setCell w _ v b hb
  refine { h with ok := h.ok.setRg r _ hg, head := ?_, data := (hot gd h.ndr).trans h.data, regs := ?_, len := by simpa [Dk.setRg] using h.len, waits := fun i hi hi' => ?_, apart := fun i hi b e => ?_, low := fun b hb => by simpa [World.setCell] using h.low b hb }
  · rw [hot p h.npr, h.head]
    simp [Dk.setRg]
  · have e3 := flatten_set (List.zipWith rgC vs d.regs) r 0 v (zip_each _ _) (by rw [zip_length h.len]; exact hr) (by decide)
    rw [Nat.add_zero] at e3
    rw [heap_set_same h.regs, e3, List.getElem_zipWith]
    have : (rgC vs[r] d.regs[r]).set 0 v = rgC v ⟨l, d.regs[r].armed, d.regs[r].left⟩ := rfl
    rw [this, zip_set _ _ h.len]
    rfl
  · have h0 : i < d.regs.length := by simpa [Dk.setRg] using hi'
    have h1 : i < vs.length := by simpa using hi
    by_cases hir : i = r
    · subst hir
      have e1 : (vs.set i v)[i]'hi = v := List.getElem_set_self _
      have e2 : ((d.setRg i ⟨l, d.regs[i].armed, d.regs[i].left⟩).regs[i]'hi').waits = l := by simp [Dk.setRg]
      rw [e1, e2]
      exact hO.at fun b e _ => hot b (hb b e).2.2.2.1
    · have e1 : (vs.set r v)[i]'hi = vs[i] := List.getElem_set_ne (fun e => hir e.symm) _
      have e2 : ((d.setRg r ⟨l, d.regs[r].armed, d.regs[r].left⟩).regs[i]'hi') = d.regs[i] := List.getElem_set_ne (fun e => hir e.symm) _
      rw [e1, e2]
      exact (h.waits i h1 h0).at fun b e _ => hot b (h.apart i h1 b e).2.2.2.1
  · have h1 : i < vs.length := by simpa using hi
    by_cases hir : i = r
    · subst hir
      have e1 : (vs.set i v)[i]'hi = v := List.getElem_set_self _
      rw [e1] at e
      obtain ⟨a1, a2, a3, a4, a5⟩ := hb b e
      refine ⟨a1, a2, a3, a4, fun j hj hne => ?_⟩
      rw [List.getElem_set_ne (fun e => hne e.symm)]
      exact a5 j (by simpa using hj) hne
    · have e1 : (vs.set r v)[i]'hi = vs[i] := List.getElem_set_ne (fun e => hir e.symm) _
      rw [e1] at e
      obtain ⟨a1, a2, a3, a4, a5⟩ := h.apart i h1 b e
      refine ⟨a1, a2, a3, a4, fun j hj hne => ?_⟩
      by_cases hjr : j = r
      · subst hjr
        rw [List.getElem_set_self]
        intro ev
        exact (hb b ev).2.2.2.2 i h1 hir e
      · rw [List.getElem_set_ne (fun e => hjr e.symm)]
        exact a5 j (by simpa using hj) hne
/-- how many were written -/
theorem DkAt.setWrites {w : World} {S : Nat → Prop} {p : Nat} {d : Dk} {gd gr : Nat} {vs : List Value} (h : DkAt w S p d gd gr vs) (n : Nat) (hn : n ≤ 1000000000) : DkAt (w.setCell ⟨p, 3, none⟩ (.int .i64 n)) S p { d with writes := n } gd gr vs := by
  have hot : ∀ b, b ≠ p → (w.setCell ⟨p, 3, none⟩ (.int .i64 n)).heap[b]? = w.heap[b]? := fun b hb => Below.heap_setCell w _ _ b hb
  refine { h with ok := { h.ok with wr := hn }, head := ?_, data := (hot gd (fun e => h.npd e.symm)).trans h.data, regs := (hot gr (fun e => h.npr e.symm)).trans h.regs, waits := fun i hi hi' => (h.waits i hi hi').at fun b e _ => hot b (h.apart i hi b e).2.1, low := fun b hb => by simpa [World.setCell] using h.low b hb }
  rw [heap_setCell_same w p 3 _ _ _ h.head]
  rfl
/-- a sector -/
theorem DkAt.setData {w : World} {S : Nat → Prop} {p : Nat} {d : Dk} {gd gr : Nat} {vs : List Value} (h : DkAt w S p d gd gr vs) (i : Nat) (hi : i < d.data.length) (x : List UInt8) (hx : x.length = 64) :
    DkAt (w.setRow gd ((d.data.flatten.map B).take (i * 64) ++ x.map B ++ (d.data.flatten.map B).drop (i * 64 + 64)).toArray) S p { d with data := d.data.set i x } gd gr vs := by
  have hot : ∀ b, b ≠ gd → (w.setRow gd ((d.data.flatten.map B).take (i * 64) ++ x.map B ++ (d.data.flatten.map B).drop (i * 64 + 64)).toArray).heap[b]? = w.heap[b]? := fun b hb => setRow_other w gd b _ (fun e => hb (by first | exact e | exact e.symm))
  have hlen : (d.data.set i x).length = d.data.length := List.length_set
  refine { h with ok := { h.ok with len := by rw [hlen]; exact h.ok.len, each := fun y hy => ?_ }, head := ?_, data := ?_, regs := (hot gr (fun e => h.ndr e.symm)).trans h.regs, waits := fun j hj hj' => (h.waits j hj hj').at fun b e _ => hot b (h.apart j hj b e).2.2.1, low := fun b hb => by simpa [World.setRow] using h.low b hb }
  · rcases List.mem_or_eq_of_mem_set hy with h1 | h1
    · exact h.ok.each y h1
    · rw [h1]; exact hx
  · rw [hot p h.npd, h.head, hlen]
  · rw [setRow_heap w gd _ _ _ _ h.data]
    congr 3
    have e1 : d.data.set i x = d.data.take i ++ x :: d.data.drop (i + 1) := List.set_eq_take_append_cons_drop.trans (by rw [if_pos hi])
    have fl : ∀ (l : List (List UInt8)), (∀ y ∈ l, y.length = 64) → l.flatten.length = 64 * l.length := by
      intro l hl
      induction l with
      | nil => rfl
      | cons y l ih => rw [List.flatten_cons, List.length_append, hl y List.mem_cons_self, ih (fun z hz => hl z (List.mem_cons_of_mem _ hz)), List.length_cons]; omega
    have t1 : (d.data.take i).flatten.length = i * 64 := by
      rw [fl _ (fun y hy => h.ok.each y (List.mem_of_mem_take hy)), List.length_take]; omega
    have t2 : (d.data.take (i + 1)).flatten.length = i * 64 + 64 := by
      rw [fl _ (fun y hy => h.ok.each y (List.mem_of_mem_take hy)), List.length_take]; omega
    have s1 : d.data.flatten = (d.data.take i).flatten ++ (d.data.drop i).flatten := by rw [← List.flatten_append, List.take_append_drop]
    have s2 : d.data.flatten = (d.data.take (i + 1)).flatten ++ (d.data.drop (i + 1)).flatten := by rw [← List.flatten_append, List.take_append_drop]
    have u1 : d.data.flatten.take (i * 64) = (d.data.take i).flatten := by rw [s1]; exact List.take_left' t1
    have u2 : d.data.flatten.drop (i * 64 + 64) = (d.data.drop (i + 1)).flatten := by rw [s2]; exact List.drop_left' t2
    rw [e1, ← List.map_take, ← List.map_drop, u1, u2]
    simp
end Go.Proofs.Ythknhonpcmneaaa
