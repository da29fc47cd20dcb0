/- The walk of disk.Write. -/
import Derived.Test.YthknhonpcmneaaaDkD
namespace Go.Proofs.Ythknhonpcmneaaa
open Go Go.RowKit
attribute [local irreducible] Go.wpQuiet

/-- what a write answers, and leaves -/
def Dk.wrE (d : Dk) (r s : Int) (b : List UInt8) : Int := if d.there r s = false ∨ 64 < b.length then 1 else if d.down r.toNat = true then 10 else 0
def Dk.wrD (d : Dk) (r s : Int) (b : List UInt8) : Dk := if d.there r s = false ∨ 64 < b.length then d else if d.down r.toNat = true then d else d.write r.toNat s.toNat b
/-- what was there and what is new -/
def Fresh (S : Nat → Prop) (w w' : World) : Nat → Prop := fun b => S b ∨ (w.heap.size ≤ b ∧ b < w'.heap.size)
/-- not so much that a count or a slice would not bear one more -/
structure Dk.Room (d : Dk) : Prop where
  wr : d.writes < 1000000000
  w : ∀ r ∈ d.regs, r.waits.length < 1000000
theorem elemW : ElemK Try.prog 55 66 (.agg (.int .i64 0 :: (zB 64).map B).toArray) 65 72 := ElemK.of Try.underlying55 (by kernel_rfl) (by simp [Value.cells, zB]) (by decide)
theorem pad_splice (b : List UInt8) (h : b.length ≤ 64) (s : Int) : ((Value.int .i64 s :: (zB 64).map B).take 1 ++ (b.map B).take 64 ++ (Value.int .i64 s :: (zB 64).map B).drop (1 + ((b.map B).take 64).length)) = .int .i64 s :: (pad b).map B := by
  have e : (b.map B).take 64 = b.map B := List.take_of_length_le (by rw [List.length_map]; exact h)
  rw [e, List.length_map, Nat.add_comm 1, List.drop_succ_cons]
  unfold pad zB
  rw [List.map_append, ← List.map_drop, List.drop_replicate]
  rfl
/-- what waits in a region is another slice, what it was made of may have changed -/
theorem DkAt.setWaits2 {w y : World} {S T : Nat → Prop} {p : Nat} {d : Dk} {gd gr : Nat} {vs : List Value} (h : DkAt w S p d gd gr vs) (r : Nat) (hr : r < d.regs.length) (hv : r < vs.length) (v : Value) (l : List (Nat × List UInt8)) (hg : (Rg.mk l d.regs[r].armed d.regs[r].left).Ok d.size)
    (hy : ∀ b, S b → vs[r].ownBlock ≠ some b → y.heap[b]? = w.heap[b]?) (hST : ∀ b, S b → T b) (hT : ∀ b, T b → b < y.heap.size)
    (hO : OwnK y 0 66 65 v (l.map wrC)) (hb : ∀ b, v.ownBlock = some b → T b ∧ b ≠ p ∧ b ≠ gd ∧ b ≠ gr ∧ ∀ j (h : j < vs.length), j ≠ r → vs[j].ownBlock ≠ some b) :
    DkAt (y.setCell ⟨gr, r * 3, none⟩ v) T p (d.setRg r ⟨l, d.regs[r].armed, d.regs[r].left⟩) gd gr (vs.set r v) := by
  have hot : ∀ b, S b → b ≠ gr → vs[r].ownBlock ≠ some b → (y.setCell ⟨gr, r * 3, none⟩ v).heap[b]? = w.heap[b]? := fun b hS hb hne => (Below.heap_setCell y _ v b hb).trans (hy b hS hne)
  have hnp : vs[r].ownBlock ≠ some p := fun e => (h.apart r hv p e).2.1 rfl
  have hnd : vs[r].ownBlock ≠ some gd := fun e => (h.apart r hv gd e).2.2.1 rfl
  have hnr : vs[r].ownBlock ≠ some gr := fun e => (h.apart r hv gr e).2.2.2.1 rfl
  refine { h with ok := h.ok.setRg r _ hg, head := ?_, data := (hot gd h.sd h.ndr hnd).trans h.data, regs := ?_, len := by simpa [Dk.setRg] using h.len, sp := hST _ h.sp, sd := hST _ h.sd, sr := hST _ h.sr, waits := fun i hi hi' => ?_, apart := fun i hi b e => ?_, low := fun b hb => by simpa [World.setCell] using hT b hb }
  · rw [hot p h.sp h.npr hnp, h.head]
    simp [Dk.setRg]
  · have e3 := flatten_set (List.zipWith rgC vs d.regs) r 0 v (zip_each _ _) (by rw [zip_length h.len]; exact hr) (by decide)
    rw [Nat.add_zero] at e3
    rw [heap_set_same ((hy gr h.sr hnr).trans h.regs), e3, List.getElem_zipWith]
    have : (rgC vs[r] d.regs[r]).set 0 v = rgC v ⟨l, d.regs[r].armed, d.regs[r].left⟩ := rfl
    rw [this, zip_set _ _ h.len]
    rfl
  · have h0 : i < d.regs.length := by simpa [Dk.setRg] using hi'
    have h1 : i < vs.length := by simpa using hi
    by_cases hir : i = r
    · subst hir
      have e1 : (vs.set i v)[i]'hi = v := List.getElem_set_self _
      have e2 : ((d.setRg i ⟨l, d.regs[i].armed, d.regs[i].left⟩).regs[i]'hi').waits = l := by simp [Dk.setRg]
      rw [e1, e2]
      exact hO.at fun b e _ => Below.heap_setCell y _ v b (hb b e).2.2.2.1
    · have e1 : (vs.set r v)[i]'hi = vs[i] := List.getElem_set_ne (fun e => hir e.symm) _
      have e2 : ((d.setRg r ⟨l, d.regs[r].armed, d.regs[r].left⟩).regs[i]'hi') = d.regs[i] := List.getElem_set_ne (fun e => hir e.symm) _
      rw [e1, e2]
      exact (h.waits i h1 h0).at fun b e _ => hot b (h.apart i h1 b e).1 (h.apart i h1 b e).2.2.2.1 ((h.apart i h1 b e).2.2.2.2 r hv (fun e => hir e.symm))
  · have h1 : i < vs.length := by simpa using hi
    by_cases hir : i = r
    · subst hir
      have e1 : (vs.set i v)[i]'hi = v := List.getElem_set_self _
      rw [e1] at e
      obtain ⟨a1, a2, a3, a4, a5⟩ := hb b e
      refine ⟨a1, a2, a3, a4, fun j hj hne => ?_⟩
      rw [List.getElem_set_ne (fun e => hne e.symm)]
      exact a5 j (by simpa using hj) hne
    · have e1 : (vs.set r v)[i]'hi = vs[i] := List.getElem_set_ne (fun e => hir e.symm) _
      rw [e1] at e
      obtain ⟨a1, a2, a3, a4, a5⟩ := h.apart i h1 b e
      refine ⟨hST _ a1, a2, a3, a4, fun j hj hne => ?_⟩
      by_cases hjr : j = r
      · subst hjr
        rw [List.getElem_set_self]
        intro ev
        exact (hb b ev).2.2.2.2 i h1 hir e
      · rw [List.getElem_set_ne (fun e => hjr e.symm)]
        exact a5 j (by simpa using hj) hne
theorem run_buildW (t : Int) (w : World) : (Instr.build 66 #[(0, .int .i64 t)]).run Try.prog w = .ok (.agg (.int .i64 t :: (zB 64).map B).toArray) w := run_build w _ _ _ (by kernel_rfl)

theorem SlB.old {w w' : World} {v : Value} {l : List UInt8} (h : SlB w v l) (hk : ∀ b, b < w.heap.size → w'.heap[b]? = w.heap[b]?) : SlB w' v l := by
  obtain ⟨ao, cap, hv, hm, hcap, hc⟩ := h
  refine ⟨ao, cap, hv, hm, hcap, fun i hi => ?_⟩
  obtain ⟨b, off, ha, hcell⟩ := hc i hi
  exact ⟨b, off, ha, (World.cell?_of_block (hk b (World.block_lt_of_cell? w _ hcell))).trans hcell⟩

set_option maxRecDepth 100000 in
set_option maxHeartbeats 8000000 in
theorem write_any (p : Nat) (d : Dk) (r s : Int) (v : Value) (b : List UInt8) (w : World) (S : Nat → Prop) (h : Dsk w S p d) (hb : SlB w v b) (hroom : d.Room) : Calls Try.prog 11 #[.pointer (some ⟨p, 0, none⟩), .int .i64 r, .int .i64 s, v] w fun e w' => e = .returned (.int .i64 (d.wrE r s b)) ∧ Dsk w' (Fresh S w w') p (d.wrD r s b) ∧ ButS w w' S := by
  obtain ⟨ba, bc, rfl, -, -, -⟩ := hb.form
  have hself : Dsk w (Fresh S w w) p d := by
    obtain ⟨gd, gr, vs, h⟩ := h
    exact ⟨gd, gr, vs, h.weak (fun x hx => .inl hx) (fun x hx => hx.elim (h.low x) (fun hh => hh.2))⟩
  obtain ⟨E, hE⟩ : ∃ E, d.wrE r s b = E := ⟨_, rfl⟩
  have HE := Lib.hid hE
  obtain ⟨D, hD⟩ : ∃ D, d.wrD r s b = D := ⟨_, rfl⟩
  have HD := Lib.hid hD
  rw [hE, hD]
  clear hE hD
  go_enter Try.func11, Try.ntmps11
  go_wp2_with fail
  refine (at_any p d r s w S h).mono ?_
  rintro e w' ⟨rfl, rfl⟩
  by_cases ht : d.there r s = true
  rotate_left
  · have ht' : d.there r s = false := by simpa using ht
    rw [d.at_lt r s ht']
    have e1 : E = 1 := by rw [← HE.out]; unfold Dk.wrE; rw [if_pos (.inl ht')]
    have e2 : D = d := by rw [← HD.out]; unfold Dk.wrD; rw [if_pos (.inl ht')]
    subst e1
    subst e2
    clear ht ht'
    go_wp2
    go_ret
    exact ⟨rfl, hself, ButS.refl _ _⟩
  obtain ⟨h1, h2, h3, h4⟩ := (d.there_iff r s).1 ht
  obtain ⟨q, rfl⟩ := Int.eq_ofNat_of_zero_le h1
  obtain ⟨t, rfl⟩ := Int.eq_ofNat_of_zero_le h3
  have hq : q < d.regs.length := by omega
  have hs : t < d.size := by omega
  have ea := d.at_pos q t hq hs
  rw [ea]
  have hge : ¬ (((q * d.size + t : Nat) : Int) < 0) := by omega
  have HT := Lib.hid ht
  have HT0 := Lib.hid (show d.there (q : Int) 0 = true from (d.there_iff q 0).2 ⟨by omega, by omega, by omega, by have := h.ok.s1; omega⟩)
  clear ht ea h3 h1
  generalize q * d.size + t = Q at *
  by_cases h64 : 64 < b.length
  · have e1 : E = 1 := by rw [← HE.out]; unfold Dk.wrE; rw [if_pos (.inr h64)]
    have e2 : D = d := by rw [← HD.out]; unfold Dk.wrD; rw [if_pos (.inr h64)]
    have t64 : (64 : Int) < (b.length : Int) := by omega
    subst e1
    subst e2
    clear h64
    go_wp2
    go_ret
    exact ⟨rfl, hself, ButS.refl _ _⟩
  have t64 : ¬ ((64 : Int) < (b.length : Int)) := by omega
  have HN := Lib.hid (show ¬ (d.there (q : Int) (t : Int) = false ∨ 64 < b.length) from fun hh => hh.elim (fun e => by rw [HT.out] at e; cases e) h64)
  go_wp2_with fail
  refine (down_any p d q w S h).mono ?_
  rintro e w' ⟨rfl, rfl⟩
  have hdn : d.downI (q : Int) = d.down q := by unfold Dk.downI; rw [HT0.out, Bool.true_and]; rfl
  rw [hdn]
  clear hdn
  by_cases hd : d.down q = true
  · have e1 : E = 10 := by rw [← HE.out]; unfold Dk.wrE; rw [if_neg HN.out, if_pos (by rw [Int.toNat_natCast]; exact hd)]
    have e2 : D = d := by rw [← HD.out]; unfold Dk.wrD; rw [if_neg HN.out, if_pos (by rw [Int.toNat_natCast]; exact hd)]
    subst e1
    subst e2
    rw [hd]
    clear hd
    go_wp2
    go_ret
    exact ⟨rfl, hself, ButS.refl _ _⟩
  have hd' : d.down q = false := by simpa using hd
  have e1 : E = 0 := by rw [← HE.out]; unfold Dk.wrE; rw [if_neg HN.out, if_neg (by rw [Int.toNat_natCast]; exact hd)]
  have e2 : D = d.write q t b := by rw [← HD.out]; unfold Dk.wrD; rw [if_neg HN.out, if_neg (by rw [Int.toNat_natCast]; exact hd), Int.toNat_natCast, Int.toNat_natCast]
  subst e1
  subst e2
  rw [hd']
  have HDD := Lib.hid hd'
  clear hd hd' hself
  obtain ⟨gd, gr, vs, h⟩ := h
  obtain ⟨c0, c1, c2, c3⟩ := h.heads
  have hv : q < vs.length := by rw [h.len]; exact hq
  obtain ⟨x0, x1, x2⟩ := h.region q hq hv
  have hg := h.ok.rg d.regs[q] (List.getElem_mem hq)
  have hrw := hroom.w d.regs[q] (List.getElem_mem hq)
  have hwr := hroom.wr
  have hwl : d.regs[q].waits.length < 1000000 := hrw
  cases ha : d.regs[q].armed
  · rw [ha] at x1
    go_upto_region 8 with (fail)
    have hd1 := h
    have hb1 := hb
    have hfin : ({ d.setRg q ⟨d.regs[q].waits ++ [(t, pad b)], d.regs[q].armed, d.regs[q].left⟩ with writes := d.writes + 1 } : Dk) = d.write q t b := by
      unfold Dk.write
      rw [List.getElem?_eq_getElem hq]
      simp only [Option.getD_some, ha]
      rfl
    have HFIN := Lib.hid hfin
    have hq1 := hq
    have hw1 : (d.regs[q]'hq1).waits.length < 1000000 := hrw
    have hg1 : (Rg.mk (d.regs[q].waits ++ [(t, pad b)]) d.regs[q].armed d.regs[q].left).Ok d.size := ⟨fun x hx => (List.mem_append.1 hx).elim (fun hh => hg.w x hh) (fun hh => by rw [List.mem_singleton.1 hh]; exact ⟨hs, pad_length b (by omega)⟩), by simp; omega, hg.a⟩
    clear hfin x0 x1 x2 c0 c1 c2 c3
    obtain ⟨wx, hwx⟩ : ∃ wx, wx = w := ⟨_, rfl⟩
    have hwr1 : d.writes < 1000000000 := hwr
    rw [← hwx] at hd1 hb1 ⊢
    have hB1 : ButS w wx S := by rw [hwx]; exact ButS.refl _ _
    have hws : w.heap.size ≤ wx.heap.size := hB1.size
    clear hwx
    refine wp_region_seq ?_
    refine seqW_pure rfl ?_
    go_big_quiet_step (fail)
    refine seqW_on ?_
    refine seqW_gives (by kernel_rfl) ?_
    refine Gives.value (v := .agg (.int .i64 (t : Int) :: (zB 64).map B).toArray) (w' := wx) (by simp only [execOp, List.map_toArray, List.map_cons, List.map_nil]; rw [Sem.run_bind]; exact congrArg (fun r => Result.andThen r fun x w => (Sem.run Try.prog (pure (Next.value x)) w)) (run_buildW (t : Int) _)) ?_
    simp only [Act.put, List.setIfInBounds_toArray, List.set_cons_zero, List.set_cons_succ]
    refine seqW_gives (by kernel_rfl) ?_
    refine Gives.allocBig bigW rfl ?_
    have hX1 := heap_alloc_new wx (.cells (Value.int .i64 0 :: (zB 64).map B).toArray 66)
    have hkA := Keep.alloc wx (.cells (Value.int .i64 0 :: (zB 64).map B).toArray 66)
    have hd2 := hd1.keep hkA
    have hB2 := hB1.keep hkA
    have hb2 := hb1.keep hkA
    have hgx : ∀ b, S b → b ≠ wx.heap.size := fun b hb e => Nat.lt_irrefl _ (e ▸ hd1.low b hb)
    have hgn : wx.heap.size < (wx.alloc (.cells (Value.int .i64 0 :: (zB 64).map B).toArray 66)).heap.size := by simp
    have hbx : ∀ (cs : Array Value), SlB ((wx.alloc (.cells (Value.int .i64 0 :: (zB 64).map B).toArray 66)).setRow wx.heap.size cs) (.slice ba b.length bc) b := fun cs => hb1.old fun b' hb' => (setRow_other _ _ b' _ (by omega)).trans (hkA.block b' hb')
    have hO1 := hd1.waits q hv hq1
    clear hB1 hb1 hb2 hkA hd1
    generalize wx.alloc (.cells (Value.int .i64 0 :: (zB 64).map B).toArray 66) = y1 at *
    generalize hgxe : wx.heap.size = gx at hX1 hgx hgn hbx ⊢
    have hws2 : w.heap.size ≤ gx := by rw [← hgxe]; exact hws
    clear hgxe
    simp only [Act.put, List.setIfInBounds_toArray, List.set_cons_zero, List.set_cons_succ]
    refine seqW_gives (by kernel_rfl) ?_
    refine Gives.storeBig bigW _ _ rfl (g := gx) (off := 0) rfl (.int .i64 (t : Int) :: (zB 64).map B) rfl hX1 (by first | rfl | (simp [zB])) (by rw [List.size_toArray, zW_length]; exact Nat.le_refl _) (by intro v hv; rcases List.mem_cons.1 hv with rfl | hv; exact rfl; exact B_oneCell _ v hv) ?_
    have hrow : ((Value.int .i64 0 :: (zB 64).map B).toArray.toList.take 0 ++ (Value.int .i64 (t : Int) :: (zB 64).map B) ++ (Value.int .i64 0 :: (zB 64).map B).toArray.toList.drop (0 + 65)).toArray = (Value.int .i64 (t : Int) :: (zB 64).map B).toArray := by
      have e : (Value.int .i64 0 :: (zB 64).map B).toArray.toList.drop (0 + 65) = [] := List.drop_eq_nil_of_le (by show (Value.int .i64 0 :: (zB 64).map B).length ≤ _; rw [zW_length]; decide)
      rw [e, List.take_zero, List.nil_append, List.append_nil]
    rw [hrow]
    have hX2 := setRow_heap y1 gx _ (Value.int .i64 (t : Int) :: (zB 64).map B).toArray _ _ hX1
    have hd3 := hd2.at (w' := y1.setRow gx (Value.int .i64 (t : Int) :: (zB 64).map B).toArray) (fun b hb => setRow_other y1 gx b _ (fun e => hgx b hb (by first | exact e | exact e.symm))) (Nat.le_of_eq (row_size _ _ _).symm)
    have hB3 := hB2.grown (row_but y1 gx (Value.int .i64 (t : Int) :: (zB 64).map B).toArray) (fun k e hk => by cases e; omega)
    have hb3 := hbx (Value.int .i64 (t : Int) :: (zB 64).map B).toArray
    have hn3 : gx < (y1.setRow gx (Value.int .i64 (t : Int) :: (zB 64).map B).toArray).heap.size := by rw [row_size]; exact hgn
    clear hrow hX1 hd2 hB2 hgn hbx
    generalize y1.setRow gx (Value.int .i64 (t : Int) :: (zB 64).map B).toArray = y2 at *
    simp only [Act.put, List.setIfInBounds_toArray, List.set_cons_zero, List.set_cons_succ]
    refine seqW_done ?_
    go_upto_region 9 with (fail)
    refine wp_region_seq ?_
    refine seqW_pure rfl ?_
    go_big_quiet_step (fail)
    refine seqW_on ?_
    refine seqW_pure rfl ?_
    go_big_quiet_step (fail)
    refine seqW_on ?_
    refine seqW_pure rfl ?_
    go_big_quiet_step (fail)
    refine seqW_on ?_
    refine seqW_gives (by kernel_rfl) ?_
    refine Gives.copyRow elemB _ _ rfl (g := gx) (off := 1) (dLen := 64) (dCap := 64) (by first | rfl | go_simp) rfl hb3 (B_oneCell _) hX2 (by show 1 + 64 ≤ (Value.int .i64 (t : Int) :: (zB 64).map B).length; simp [zB]) ?_
    have hrow : ((Value.int .i64 (t : Int) :: (zB 64).map B).toArray.toList.take 1 ++ (b.map B).take 64 ++ (Value.int .i64 (t : Int) :: (zB 64).map B).toArray.toList.drop (1 + ((b.map B).take 64).length)).toArray = (wrC (t, pad b)).toArray := congrArg List.toArray (pad_splice b (by omega) t)
    rw [hrow]
    have hX3 := setRow_heap y2 gx _ (wrC (t, pad b)).toArray _ _ hX2
    have hd4 := hd3.at (w' := y2.setRow gx (wrC (t, pad b)).toArray) (fun b hb => setRow_other y2 gx b _ (fun e => hgx b hb (by first | exact e | exact e.symm))) (Nat.le_of_eq (row_size _ _ _).symm)
    have hB4 := hB3.grown (row_but y2 gx (wrC (t, pad b)).toArray) (fun k e hk => by cases e; omega)
    have hn4 : gx < (y2.setRow gx (wrC (t, pad b)).toArray).heap.size := by rw [row_size]; exact hn3
    clear hrow hX2 hd3 hB3 hb3 hn3
    generalize y2.setRow gx (wrC (t, pad b)).toArray = y3 at *
    simp only [Act.put, List.setIfInBounds_toArray, List.set_cons_zero, List.set_cons_succ]
    refine seqW_done ?_
    obtain ⟨wa, wc, hwv, hwc⟩ := hd4.waitsAt q hq1 hv
    obtain ⟨x0, -, -⟩ := hd4.region q hq1 hv
    have hOw := hd4.waits q hv hq1
    have hap := hd4.apart q hv
    rw [hwv] at x0 hOw hap
    have hwl : (wrC (t, pad b)).length = 65 := wrC_length _ (pad_length b (by omega))
    go_upto_region 10 with (fail)
    refine wp_region_ch 10 [none, none, none, none, none, none, some none, some none, none, none, none] (fun w' => w'.cell? ⟨gr, q * 3, none⟩ = some (.slice wa (d.regs[q]'hq1).waits.length wc) ∧ w'.heap[gx]? = some (.cells (wrC (t, pad b)).toArray 66)) (by kernel_rfl) (by kernel_rfl) (by kernel_rfl) (by kernel_rfl) (⟨x0, hX3⟩) ?_
    refine chT_pure rfl ?_
    go_big_quiet_step (fail)
    refine chT_on ?_
    refine chT_pure rfl ?_
    go_big_quiet_step (fail)
    refine chT_on ?_
    refine chT_same (v := .pointer (some ⟨gr, q * 3, none⟩)) (by kernel_rfl) (fun w2 hC => by
      go_simp) ?_
    simp only [Act.put, List.setIfInBounds_toArray, List.set_cons_zero, List.set_cons_succ]
    refine chT_pure rfl ?_
    go_big_quiet_step (fail)
    refine chT_on ?_
    refine chT_same (v := .slice wa (d.regs[q]'hq1).waits.length wc) (by kernel_rfl) (fun w2 hC => by
      have zz := hC.1
      go_simp) ?_
    simp only [Act.put, List.setIfInBounds_toArray, List.set_cons_zero, List.set_cons_succ]
    refine chT_same (v := .agg (wrC (t, pad b)).toArray) (by kernel_rfl) (fun w2 hC => ?_) ?_
    · exact exec_loadBig bigW _ rfl rfl w2 _ hwl (fun j v hj => cell_of hC.2 _ v (by rw [Nat.zero_add]; exact hj))
    simp only [Act.put, List.setIfInBounds_toArray, List.set_cons_zero, List.set_cons_succ]
    have hd4 := hd4.drew
    have hB4 := hB4.drew
    have hX3 : y3.drew.heap[gx]? = _ := hX3
    have x0 : y3.drew.cell? ⟨gr, q * 3, none⟩ = _ := x0
    have hOw := hOw.at (w' := y3.drew) fun _ _ _ => rfl
    have hn4 : gx < y3.drew.heap.size := hn4
    generalize y3.drew = y4 at *
    refine chT_gives (by kernel_rfl) ?_
    refine Gives.buildSliceBig bigW Try.underlying55 _ rfl (wrC (t, pad b)) rfl hwl (by simp [zB]) (by decide) (by decide) ?_
    have hkB := Keep.alloc y4 (.cells (wrC (t, pad b)).toArray 66)
    have hsB := SlC.laid (w := y4) 66 (0, 0) 65 (wrC (t, pad b)) hwl
    have hd5 := hd4.keep hkB
    have hB5 := hB4.keep hkB
    have hO5 := hOw.keep hkB
    have hX5 := (hkB.block gx hn4).trans hX3
    have hn5 := Nat.le_trans hn4 hkB.size
    have hx5 := (hkB.cell (Array.getElem?_eq_some_iff.1 hd4.regs).1).trans x0
    refine ⟨⟨hx5, hX5⟩, ?_⟩
    clear hkB hd4 hB4 hOw
    generalize y4.alloc (.cells (wrC (t, pad b)).toArray 66) = y5 at *
    generalize y4.heap.size = gy at *
    simp only [Act.put, List.setIfInBounds_toArray, List.set_cons_zero, List.set_cons_succ]
    refine chT_gives (by kernel_rfl) ?_
    refine Gives.appendKW elemW _ _ rfl rfl rfl hO5 hsB (by intro y hy; rw [List.mem_singleton.1 hy]; exact hwl) (by intro y hy c hc; rw [List.mem_singleton.1 hy] at hc; exact wrC_one _ c hc) (by unfold maxLen; simp only [List.length_map, List.length_cons, List.length_nil]; omega) (by simp only [List.length_map, List.length_cons, List.length_nil]; omega) (Nat.zero_le _) fun v6 y6 hO6 hg6 hw6 => ?_
    have hown : ∀ k, (Value.slice wa (d.regs[q]'hq1).waits.length wc).ownBlock = some k → k ≠ gx ∧ k ≠ gr ∧ S k := fun k e => ⟨hgx k (hap k e).1, (hap k e).2.2.2.1, (hap k e).1⟩
    have hX6 : y6.heap[gx]? = _ := (hg6.block gx hn5 (fun e => (hown gx e.symm).1 rfl)).trans hX5
    have hgr6 := hg6.block gr (Array.getElem?_eq_some_iff.1 hd5.regs).1 (fun e => (hown gr e.symm).2.1 rfl)
    have hB6 := hB5.grown hg6 (fun k e _ => (hown k e).2.2)
    refine ⟨⟨(World.cell?_of_block hgr6).trans hx5, hX6⟩, ?_⟩
    have hx6 : y6.cell? ⟨gr, q * 3, none⟩ = _ := (World.cell?_of_block hgr6).trans hx5
    have f6 := free_of (hgr6.trans hd5.regs) (q * 3)
    have hd7 := hd5.setWaits2 (T := fun b => S b ∨ (w.heap.size ≤ b ∧ b < y6.heap.size)) (y := y6) q hq1 hv v6 (d.regs[q].waits ++ [(t, pad b)]) hg1
      (fun b hS hne => hg6.block b (hd5.low b hS) (fun e => hne (by rw [hwv]; exact e.symm)))
      (fun b hh => .inl hh) (fun b hh => hh.elim (fun h1 => Nat.lt_of_lt_of_le (hd5.low b h1) hg6.size) (fun h1 => h1.2))
      (by rw [List.map_append]; exact hO6)
      (fun b e => (hw6 b e).elim (fun e1 => ⟨.inl (hap b e1).1, (hap b e1).2.1, (hap b e1).2.2.1, (hap b e1).2.2.2.1, (hap b e1).2.2.2.2⟩)
        (fun h1 => ⟨.inr ⟨Nat.le_trans hB5.size h1, (hO6.lt b e).2⟩, fun ee => by have := hd5.low _ hd5.sp; omega, fun ee => by have := hd5.low _ hd5.sd; omega, fun ee => by have := hd5.low _ hd5.sr; omega, fun jj hj hne e2 => by have := hd5.low b (hd5.apart jj hj b e2).1; omega⟩))
    have hB7 := hB6.set ⟨gr, q * 3, none⟩ v6 hd5.sr
    have hlo6 : ∀ b, S b → b < y6.heap.size := fun b hh => Nat.lt_of_lt_of_le (hd5.low b hh) hg6.size
    obtain ⟨a6, c6, hv6, -, -⟩ := (hO6.slc (by decide)).form
    subst hv6
    have hs7 : y6.heap.size ≤ (y6.setCell ⟨gr, q * 3, none⟩ (.slice a6 ((d.regs[q]'hq1).waits.map wrC ++ [wrC (t, pad b)]).length c6)).heap.size := by simp [World.setCell]
    generalize ((d.regs[q]'hq1).waits.map wrC ++ [wrC (t, pad b)]).length = n6 at *
    clear hO6 hw6 hg6 hgr6 hd5 hB5 hO5 hX5 hx5 hB6 hown hsB hX6
    simp only [Act.put, List.setIfInBounds_toArray, List.set_cons_zero, List.set_cons_succ]
    refine chT_same (v := .pointer (some ⟨gr, q * 3, none⟩)) (by kernel_rfl) (fun w2 hC => by
      go_simp) ?_
    simp only [Act.put, List.setIfInBounds_toArray, List.set_cons_zero, List.set_cons_succ]
    refine chT_pure rfl ?_
    go_big_quiet_step (fail)
    refine chT_on ?_
    refine chT_done ?_
    refine seqW_gives (by kernel_rfl) ?_
    refine Gives.skip (w' := y6.setCell ⟨gr, q * 3, none⟩ (.slice a6 n6 c6)) (by go_simp) ?_
    obtain ⟨-, -, -, e30⟩ := hd7.heads
    have e3 : (y6.setCell ⟨gr, q * 3, none⟩ (.slice a6 n6 c6)).cell? ⟨p, 3, none⟩ = some (.int .i64 (d.writes : Int)) := e30
    clear e30
    have f7 := free_of hd7.head 3
    have hd8 := hd7.setWrites (d.writes + 1) (by omega)
    have hB8 := hB7.set ⟨p, 3, none⟩ (.int .i64 ((d.writes + 1 : Nat) : Int)) hd4.sp
    have ec : ((d.writes + 1 : Nat) : Int) = (d.writes : Int) + 1 := rfl
    rw [ec] at hd8 hB8
    clear hx6 f6 hd7 hB7 ec
    generalize y6.setCell ⟨gr, q * 3, none⟩ (.slice a6 n6 c6) = y7 at *
    simp only [Act.put, List.setIfInBounds_toArray, List.set_cons_zero, List.set_cons_succ]
    refine seqW_done ?_
    have hs8 : y7.heap.size ≤ (y7.setCell ⟨p, 3, none⟩ (.int .i64 ((d.writes : Int) + 1))).heap.size := by simp [World.setCell]
    rw [HFIN.out] at hd8
    go_wp2
    go_ret
    exact ⟨rfl, ⟨gd, gr, _, hd8.weak (fun b hh => hh.imp id (fun h1 => ⟨h1.1, Nat.lt_of_lt_of_le h1.2 (Nat.le_trans hs7 hs8)⟩)) (fun b hh => hh.elim (fun h1 => Nat.lt_of_lt_of_le (hlo6 b h1) (Nat.le_trans hs7 hs8)) (fun h1 => h1.2))⟩, hB8⟩
  · rw [ha] at x1
    have hl1 : d.regs[q].left ≠ 0 := fun e => by
      have := HDD.out
      rw [d.down_at q hq, ha, e] at this
      cases this
    have hl2 := hg.a
    have f2 := free_of h.regs (q * 3 + 2)
    go_upto_region 8 with (fail)
    have hd1 := h.setFlag q hq 2 (.int .i64 (d.regs[q].left - 1)) ⟨d.regs[q].waits, d.regs[q].armed, d.regs[q].left - 1⟩ (by decide) hv rfl rfl ⟨hg.w, hg.n, by simp only; omega, by simp only; omega⟩
    have hB1 := (ButS.refl w S).set ⟨gr, q * 3 + 2, none⟩ (.int .i64 (d.regs[q].left - 1)) h.sr
    have hb1 := hb.setCell x2 (fun _ e => by cases e) (.int .i64 (d.regs[q].left - 1))
    have hq1 : q < (d.setRg q ⟨d.regs[q].waits, d.regs[q].armed, d.regs[q].left - 1⟩).regs.length := by simpa [Dk.setRg] using hq
    have hr1 : (d.setRg q ⟨d.regs[q].waits, d.regs[q].armed, d.regs[q].left - 1⟩).regs[q]'hq1 = ⟨d.regs[q].waits, d.regs[q].armed, d.regs[q].left - 1⟩ := by simp [Dk.setRg]
    have hw1 : ((d.setRg q ⟨d.regs[q].waits, d.regs[q].armed, d.regs[q].left - 1⟩).regs[q]'hq1).waits.length < 1000000 := by rw [hr1]; exact hrw
    have hwr1 : (d.setRg q ⟨d.regs[q].waits, d.regs[q].armed, d.regs[q].left - 1⟩).writes < 1000000000 := by simpa [Dk.setRg] using hwr
    have hg1 : (Rg.mk (((d.setRg q ⟨d.regs[q].waits, d.regs[q].armed, d.regs[q].left - 1⟩).regs[q]'hq1).waits ++ [(t, pad b)]) ((d.setRg q ⟨d.regs[q].waits, d.regs[q].armed, d.regs[q].left - 1⟩).regs[q]'hq1).armed ((d.setRg q ⟨d.regs[q].waits, d.regs[q].armed, d.regs[q].left - 1⟩).regs[q]'hq1).left).Ok (d.setRg q ⟨d.regs[q].waits, d.regs[q].armed, d.regs[q].left - 1⟩).size := by
      rw [hr1]
      exact ⟨fun x hx => (List.mem_append.1 hx).elim (fun hh => hg.w x hh) (fun hh => by rw [List.mem_singleton.1 hh]; exact ⟨hs, pad_length b (by omega)⟩), by simp; omega, by simp only; omega, by simp only; omega⟩
    have hfin : ({ (d.setRg q ⟨d.regs[q].waits, d.regs[q].armed, d.regs[q].left - 1⟩).setRg q ⟨((d.setRg q ⟨d.regs[q].waits, d.regs[q].armed, d.regs[q].left - 1⟩).regs[q]'hq1).waits ++ [(t, pad b)], ((d.setRg q ⟨d.regs[q].waits, d.regs[q].armed, d.regs[q].left - 1⟩).regs[q]'hq1).armed, ((d.setRg q ⟨d.regs[q].waits, d.regs[q].armed, d.regs[q].left - 1⟩).regs[q]'hq1).left⟩ with writes := (d.setRg q ⟨d.regs[q].waits, d.regs[q].armed, d.regs[q].left - 1⟩).writes + 1 } : Dk) = d.write q t b := by
      rw [hr1]
      unfold Dk.write
      rw [List.getElem?_eq_getElem hq]
      simp [ha, Dk.setRg]
    have HFIN := Lib.hid hfin
    have hws : w.heap.size ≤ (w.setCell ⟨gr, q * 3 + 2, none⟩ (.int .i64 (d.regs[q].left - 1))).heap.size := hB1.size
    clear hfin x0 x1 x2 c0 c1 c2 c3 f2 hr1 hg hl1 hl2
    generalize w.setCell ⟨gr, q * 3 + 2, none⟩ (.int .i64 (d.regs[q].left - 1)) = wx at *
    generalize hD : d.setRg q ⟨d.regs[q].waits, d.regs[q].armed, d.regs[q].left - 1⟩ = D at *
    have hHD := Lib.hid hD
    clear hD
    refine wp_region_seq ?_
    refine seqW_pure rfl ?_
    go_big_quiet_step (fail)
    refine seqW_on ?_
    refine seqW_gives (by kernel_rfl) ?_
    refine Gives.value (v := .agg (.int .i64 (t : Int) :: (zB 64).map B).toArray) (w' := wx) (by simp only [execOp, List.map_toArray, List.map_cons, List.map_nil]; rw [Sem.run_bind]; exact congrArg (fun r => Result.andThen r fun x w => (Sem.run Try.prog (pure (Next.value x)) w)) (run_buildW (t : Int) _)) ?_
    simp only [Act.put, List.setIfInBounds_toArray, List.set_cons_zero, List.set_cons_succ]
    refine seqW_gives (by kernel_rfl) ?_
    refine Gives.allocBig bigW rfl ?_
    have hX1 := heap_alloc_new wx (.cells (Value.int .i64 0 :: (zB 64).map B).toArray 66)
    have hkA := Keep.alloc wx (.cells (Value.int .i64 0 :: (zB 64).map B).toArray 66)
    have hd2 := hd1.keep hkA
    have hB2 := hB1.keep hkA
    have hb2 := hb1.keep hkA
    have hgx : ∀ b, S b → b ≠ wx.heap.size := fun b hb e => Nat.lt_irrefl _ (e ▸ hd1.low b hb)
    have hgn : wx.heap.size < (wx.alloc (.cells (Value.int .i64 0 :: (zB 64).map B).toArray 66)).heap.size := by simp
    have hbx : ∀ (cs : Array Value), SlB ((wx.alloc (.cells (Value.int .i64 0 :: (zB 64).map B).toArray 66)).setRow wx.heap.size cs) (.slice ba b.length bc) b := fun cs => hb1.old fun b' hb' => (setRow_other _ _ b' _ (by omega)).trans (hkA.block b' hb')
    have hO1 := hd1.waits q hv hq1
    clear hB1 hb1 hb2 hkA hd1
    generalize wx.alloc (.cells (Value.int .i64 0 :: (zB 64).map B).toArray 66) = y1 at *
    generalize hgxe : wx.heap.size = gx at hX1 hgx hgn hbx ⊢
    have hws2 : w.heap.size ≤ gx := by rw [← hgxe]; exact hws
    clear hgxe
    simp only [Act.put, List.setIfInBounds_toArray, List.set_cons_zero, List.set_cons_succ]
    refine seqW_gives (by kernel_rfl) ?_
    refine Gives.storeBig bigW _ _ rfl (g := gx) (off := 0) rfl (.int .i64 (t : Int) :: (zB 64).map B) rfl hX1 (by first | rfl | (simp [zB])) (by rw [List.size_toArray, zW_length]; exact Nat.le_refl _) (by intro v hv; rcases List.mem_cons.1 hv with rfl | hv; exact rfl; exact B_oneCell _ v hv) ?_
    have hrow : ((Value.int .i64 0 :: (zB 64).map B).toArray.toList.take 0 ++ (Value.int .i64 (t : Int) :: (zB 64).map B) ++ (Value.int .i64 0 :: (zB 64).map B).toArray.toList.drop (0 + 65)).toArray = (Value.int .i64 (t : Int) :: (zB 64).map B).toArray := by
      have e : (Value.int .i64 0 :: (zB 64).map B).toArray.toList.drop (0 + 65) = [] := List.drop_eq_nil_of_le (by show (Value.int .i64 0 :: (zB 64).map B).length ≤ _; rw [zW_length]; decide)
      rw [e, List.take_zero, List.nil_append, List.append_nil]
    rw [hrow]
    have hX2 := setRow_heap y1 gx _ (Value.int .i64 (t : Int) :: (zB 64).map B).toArray _ _ hX1
    have hd3 := hd2.at (w' := y1.setRow gx (Value.int .i64 (t : Int) :: (zB 64).map B).toArray) (fun b hb => setRow_other y1 gx b _ (fun e => hgx b hb (by first | exact e | exact e.symm))) (Nat.le_of_eq (row_size _ _ _).symm)
    have hB3 := hB2.grown (row_but y1 gx (Value.int .i64 (t : Int) :: (zB 64).map B).toArray) (fun k e hk => by cases e; omega)
    have hb3 := hbx (Value.int .i64 (t : Int) :: (zB 64).map B).toArray
    have hn3 : gx < (y1.setRow gx (Value.int .i64 (t : Int) :: (zB 64).map B).toArray).heap.size := by rw [row_size]; exact hgn
    clear hrow hX1 hd2 hB2 hgn hbx
    generalize y1.setRow gx (Value.int .i64 (t : Int) :: (zB 64).map B).toArray = y2 at *
    simp only [Act.put, List.setIfInBounds_toArray, List.set_cons_zero, List.set_cons_succ]
    refine seqW_done ?_
    go_upto_region 9 with (fail)
    refine wp_region_seq ?_
    refine seqW_pure rfl ?_
    go_big_quiet_step (fail)
    refine seqW_on ?_
    refine seqW_pure rfl ?_
    go_big_quiet_step (fail)
    refine seqW_on ?_
    refine seqW_pure rfl ?_
    go_big_quiet_step (fail)
    refine seqW_on ?_
    refine seqW_gives (by kernel_rfl) ?_
    refine Gives.copyRow elemB _ _ rfl (g := gx) (off := 1) (dLen := 64) (dCap := 64) (by first | rfl | go_simp) rfl hb3 (B_oneCell _) hX2 (by show 1 + 64 ≤ (Value.int .i64 (t : Int) :: (zB 64).map B).length; simp [zB]) ?_
    have hrow : ((Value.int .i64 (t : Int) :: (zB 64).map B).toArray.toList.take 1 ++ (b.map B).take 64 ++ (Value.int .i64 (t : Int) :: (zB 64).map B).toArray.toList.drop (1 + ((b.map B).take 64).length)).toArray = (wrC (t, pad b)).toArray := congrArg List.toArray (pad_splice b (by omega) t)
    rw [hrow]
    have hX3 := setRow_heap y2 gx _ (wrC (t, pad b)).toArray _ _ hX2
    have hd4 := hd3.at (w' := y2.setRow gx (wrC (t, pad b)).toArray) (fun b hb => setRow_other y2 gx b _ (fun e => hgx b hb (by first | exact e | exact e.symm))) (Nat.le_of_eq (row_size _ _ _).symm)
    have hB4 := hB3.grown (row_but y2 gx (wrC (t, pad b)).toArray) (fun k e hk => by cases e; omega)
    have hn4 : gx < (y2.setRow gx (wrC (t, pad b)).toArray).heap.size := by rw [row_size]; exact hn3
    clear hrow hX2 hd3 hB3 hb3 hn3
    generalize y2.setRow gx (wrC (t, pad b)).toArray = y3 at *
    simp only [Act.put, List.setIfInBounds_toArray, List.set_cons_zero, List.set_cons_succ]
    refine seqW_done ?_
    obtain ⟨wa, wc, hwv, hwc⟩ := hd4.waitsAt q hq1 hv
    obtain ⟨x0, -, -⟩ := hd4.region q hq1 hv
    have hOw := hd4.waits q hv hq1
    have hap := hd4.apart q hv
    rw [hwv] at x0 hOw hap
    have hwl : (wrC (t, pad b)).length = 65 := wrC_length _ (pad_length b (by omega))
    go_upto_region 10 with (fail)
    refine wp_region_ch 10 [none, none, none, none, none, none, some none, some none, none, none, none] (fun w' => w'.cell? ⟨gr, q * 3, none⟩ = some (.slice wa (D.regs[q]'hq1).waits.length wc) ∧ w'.heap[gx]? = some (.cells (wrC (t, pad b)).toArray 66)) (by kernel_rfl) (by kernel_rfl) (by kernel_rfl) (by kernel_rfl) (⟨x0, hX3⟩) ?_
    refine chT_pure rfl ?_
    go_big_quiet_step (fail)
    refine chT_on ?_
    refine chT_pure rfl ?_
    go_big_quiet_step (fail)
    refine chT_on ?_
    refine chT_same (v := .pointer (some ⟨gr, q * 3, none⟩)) (by kernel_rfl) (fun w2 hC => by
      go_simp) ?_
    simp only [Act.put, List.setIfInBounds_toArray, List.set_cons_zero, List.set_cons_succ]
    refine chT_pure rfl ?_
    go_big_quiet_step (fail)
    refine chT_on ?_
    refine chT_same (v := .slice wa (D.regs[q]'hq1).waits.length wc) (by kernel_rfl) (fun w2 hC => by
      have zz := hC.1
      go_simp) ?_
    simp only [Act.put, List.setIfInBounds_toArray, List.set_cons_zero, List.set_cons_succ]
    refine chT_same (v := .agg (wrC (t, pad b)).toArray) (by kernel_rfl) (fun w2 hC => ?_) ?_
    · exact exec_loadBig bigW _ rfl rfl w2 _ hwl (fun j v hj => cell_of hC.2 _ v (by rw [Nat.zero_add]; exact hj))
    simp only [Act.put, List.setIfInBounds_toArray, List.set_cons_zero, List.set_cons_succ]
    have hd4 := hd4.drew
    have hB4 := hB4.drew
    have hX3 : y3.drew.heap[gx]? = _ := hX3
    have x0 : y3.drew.cell? ⟨gr, q * 3, none⟩ = _ := x0
    have hOw := hOw.at (w' := y3.drew) fun _ _ _ => rfl
    have hn4 : gx < y3.drew.heap.size := hn4
    generalize y3.drew = y4 at *
    refine chT_gives (by kernel_rfl) ?_
    refine Gives.buildSliceBig bigW Try.underlying55 _ rfl (wrC (t, pad b)) rfl hwl (by simp [zB]) (by decide) (by decide) ?_
    have hkB := Keep.alloc y4 (.cells (wrC (t, pad b)).toArray 66)
    have hsB := SlC.laid (w := y4) 66 (0, 0) 65 (wrC (t, pad b)) hwl
    have hd5 := hd4.keep hkB
    have hB5 := hB4.keep hkB
    have hO5 := hOw.keep hkB
    have hX5 := (hkB.block gx hn4).trans hX3
    have hn5 := Nat.le_trans hn4 hkB.size
    have hx5 := (hkB.cell (Array.getElem?_eq_some_iff.1 hd4.regs).1).trans x0
    refine ⟨⟨hx5, hX5⟩, ?_⟩
    clear hkB hd4 hB4 hOw
    generalize y4.alloc (.cells (wrC (t, pad b)).toArray 66) = y5 at *
    generalize y4.heap.size = gy at *
    simp only [Act.put, List.setIfInBounds_toArray, List.set_cons_zero, List.set_cons_succ]
    refine chT_gives (by kernel_rfl) ?_
    refine Gives.appendKW elemW _ _ rfl rfl rfl hO5 hsB (by intro y hy; rw [List.mem_singleton.1 hy]; exact hwl) (by intro y hy c hc; rw [List.mem_singleton.1 hy] at hc; exact wrC_one _ c hc) (by unfold maxLen; simp only [List.length_map, List.length_cons, List.length_nil]; omega) (by simp only [List.length_map, List.length_cons, List.length_nil]; omega) (Nat.zero_le _) fun v6 y6 hO6 hg6 hw6 => ?_
    have hown : ∀ k, (Value.slice wa (D.regs[q]'hq1).waits.length wc).ownBlock = some k → k ≠ gx ∧ k ≠ gr ∧ S k := fun k e => ⟨hgx k (hap k e).1, (hap k e).2.2.2.1, (hap k e).1⟩
    have hX6 : y6.heap[gx]? = _ := (hg6.block gx hn5 (fun e => (hown gx e.symm).1 rfl)).trans hX5
    have hgr6 := hg6.block gr (Array.getElem?_eq_some_iff.1 hd5.regs).1 (fun e => (hown gr e.symm).2.1 rfl)
    have hB6 := hB5.grown hg6 (fun k e _ => (hown k e).2.2)
    refine ⟨⟨(World.cell?_of_block hgr6).trans hx5, hX6⟩, ?_⟩
    have hx6 : y6.cell? ⟨gr, q * 3, none⟩ = _ := (World.cell?_of_block hgr6).trans hx5
    have f6 := free_of (hgr6.trans hd5.regs) (q * 3)
    have hd7 := hd5.setWaits2 (T := fun b => S b ∨ (w.heap.size ≤ b ∧ b < y6.heap.size)) (y := y6) q hq1 hv v6 (D.regs[q].waits ++ [(t, pad b)]) hg1
      (fun b hS hne => hg6.block b (hd5.low b hS) (fun e => hne (by rw [hwv]; exact e.symm)))
      (fun b hh => .inl hh) (fun b hh => hh.elim (fun h1 => Nat.lt_of_lt_of_le (hd5.low b h1) hg6.size) (fun h1 => h1.2))
      (by rw [List.map_append]; exact hO6)
      (fun b e => (hw6 b e).elim (fun e1 => ⟨.inl (hap b e1).1, (hap b e1).2.1, (hap b e1).2.2.1, (hap b e1).2.2.2.1, (hap b e1).2.2.2.2⟩)
        (fun h1 => ⟨.inr ⟨Nat.le_trans hB5.size h1, (hO6.lt b e).2⟩, fun ee => by have := hd5.low _ hd5.sp; omega, fun ee => by have := hd5.low _ hd5.sd; omega, fun ee => by have := hd5.low _ hd5.sr; omega, fun jj hj hne e2 => by have := hd5.low b (hd5.apart jj hj b e2).1; omega⟩))
    have hB7 := hB6.set ⟨gr, q * 3, none⟩ v6 hd5.sr
    have hlo6 : ∀ b, S b → b < y6.heap.size := fun b hh => Nat.lt_of_lt_of_le (hd5.low b hh) hg6.size
    obtain ⟨a6, c6, hv6, -, -⟩ := (hO6.slc (by decide)).form
    subst hv6
    have hs7 : y6.heap.size ≤ (y6.setCell ⟨gr, q * 3, none⟩ (.slice a6 ((D.regs[q]'hq1).waits.map wrC ++ [wrC (t, pad b)]).length c6)).heap.size := by simp [World.setCell]
    generalize ((D.regs[q]'hq1).waits.map wrC ++ [wrC (t, pad b)]).length = n6 at *
    clear hO6 hw6 hg6 hgr6 hd5 hB5 hO5 hX5 hx5 hB6 hown hsB hX6
    simp only [Act.put, List.setIfInBounds_toArray, List.set_cons_zero, List.set_cons_succ]
    refine chT_same (v := .pointer (some ⟨gr, q * 3, none⟩)) (by kernel_rfl) (fun w2 hC => by
      go_simp) ?_
    simp only [Act.put, List.setIfInBounds_toArray, List.set_cons_zero, List.set_cons_succ]
    refine chT_pure rfl ?_
    go_big_quiet_step (fail)
    refine chT_on ?_
    refine chT_done ?_
    refine seqW_gives (by kernel_rfl) ?_
    refine Gives.skip (w' := y6.setCell ⟨gr, q * 3, none⟩ (.slice a6 n6 c6)) (by go_simp) ?_
    obtain ⟨-, -, -, e30⟩ := hd7.heads
    have e3 : (y6.setCell ⟨gr, q * 3, none⟩ (.slice a6 n6 c6)).cell? ⟨p, 3, none⟩ = some (.int .i64 (D.writes : Int)) := e30
    clear e30
    have f7 := free_of hd7.head 3
    have hd8 := hd7.setWrites (D.writes + 1) (by omega)
    have hB8 := hB7.set ⟨p, 3, none⟩ (.int .i64 ((D.writes + 1 : Nat) : Int)) hd4.sp
    have ec : ((D.writes + 1 : Nat) : Int) = (D.writes : Int) + 1 := rfl
    rw [ec] at hd8 hB8
    clear hx6 f6 hd7 hB7 ec
    generalize y6.setCell ⟨gr, q * 3, none⟩ (.slice a6 n6 c6) = y7 at *
    simp only [Act.put, List.setIfInBounds_toArray, List.set_cons_zero, List.set_cons_succ]
    refine seqW_done ?_
    have hs8 : y7.heap.size ≤ (y7.setCell ⟨p, 3, none⟩ (.int .i64 ((D.writes : Int) + 1))).heap.size := by simp [World.setCell]
    rw [HFIN.out] at hd8
    go_wp2
    go_ret
    exact ⟨rfl, ⟨gd, gr, _, hd8.weak (fun b hh => hh.imp id (fun h1 => ⟨h1.1, Nat.lt_of_lt_of_le h1.2 (Nat.le_trans hs7 hs8)⟩)) (fun b hh => hh.elim (fun h1 => Nat.lt_of_lt_of_le (hlo6 b h1) (Nat.le_trans hs7 hs8)) (fun h1 => h1.2))⟩, hB8⟩
end Go.Proofs.Ythknhonpcmneaaa
