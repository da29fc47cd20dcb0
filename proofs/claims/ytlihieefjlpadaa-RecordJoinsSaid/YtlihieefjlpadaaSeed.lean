/- Records of seeds: plain, and the walks of the law's own cell and Record. -/
import Derived.Test.YtlihieefjlpadaaMade
namespace Go.Proofs.Ytlihieefjlpadaa
open Go Go.RowKit
attribute [local irreducible] Go.wpQuiet

structure Sd where
  k : Int
  t : Int
  p : Int
  s : Int
  b : UInt8
  a : UInt8
  i : UInt8
  d : List Nat
def cellL (n : UInt8) : List UInt8 := if n = 0 then [] else ((zB 40).set 0 1).set 7 n
def imgL (n : UInt8) : List UInt8 := if n = 0 then [] else ((zB 256).set 3 n).set 200 n
def Sd.kind (s : Sd) : Int := s.k.tmod 7 % 7 + 1
def Sd.dirty (s : Sd) : List Nat := if s.kind = 7 ∧ s.d ≠ [] then s.d.take 6 ++ List.replicate (6 - s.d.length) 0 else []
def Sd.rc (s : Sd) : Rc := ⟨s.kind, Go.bits .and .i64 s.t 255, s.p.tmod 6 % 6, s.s.tmod 5 % 5, cellL s.b, cellL s.a, imgL s.i, s.dirty⟩

theorem tmod_lt (k : Int) (m : Int) (hm : 0 < m) : -m < k.tmod m ∧ k.tmod m < m := by
  rcases Int.le_total 0 k with h | h
  · rw [Int.tmod_eq_emod_of_nonneg h]
    have := Int.emod_nonneg k (show m ≠ 0 by omega)
    have := Int.emod_lt_of_pos k hm
    omega
  · have e : k.tmod m = -((-k).tmod m) := by rw [Int.neg_tmod]; omega
    rw [e, Int.tmod_eq_emod_of_nonneg (by omega)]
    have := Int.emod_nonneg (-k) (show m ≠ 0 by omega)
    have := Int.emod_lt_of_pos (-k) hm
    omega
theorem tmod_tmod (k m : Int) (hm : 0 < m) : 0 ≤ (k.tmod m + m).tmod m ∧ (k.tmod m + m).tmod m < m := by
  have h := tmod_lt k m hm
  rw [Int.tmod_eq_emod_of_nonneg (by omega)]
  exact ⟨Int.emod_nonneg _ (by omega), Int.emod_lt_of_pos _ hm⟩
theorem cellL_length (n : UInt8) : (cellL n).length = 0 ∨ (cellL n).length = 40 := by
  unfold cellL
  split
  · exact .inl rfl
  · exact .inr (by rw [List.length_set, List.length_set, zB_length])
theorem imgL_length (n : UInt8) : (imgL n).length = 0 ∨ (imgL n).length = 256 := by
  unfold imgL
  split
  · exact .inl rfl
  · exact .inr (by rw [List.length_set, List.length_set, zB_length])
theorem and255 (x : Int) : 0 ≤ Go.bits .and .i64 x 255 ∧ Go.bits .and .i64 x 255 ≤ 255 := by
  have h : (BitVec.ofInt 64 x &&& 255#64).toNat ≤ 255 := by
    rw [BitVec.toNat_and]
    exact Nat.and_le_right
  have e : Go.bits .and .i64 x 255 = ((BitVec.ofInt 64 x &&& 255#64).toNat : Int) := by
    show IntKind.i64.wrap (((BitVec.ofInt 64 x &&& BitVec.ofInt 64 255).toNat : Nat) : Int) = _
    rw [show (BitVec.ofInt 64 255 : BitVec 64) = 255#64 from rfl, IntKind.wrap_i64]
    omega
  omega
theorem Sd.right (s : Sd) : s.rc.right = true := by
  rw [Rc.right_iff]
  have h7 : 0 ≤ s.k.tmod 7 % 7 ∧ s.k.tmod 7 % 7 < 7 := by omega
  have h6 : 0 ≤ s.p.tmod 6 % 6 ∧ s.p.tmod 6 % 6 < 6 := by omega
  have h5 : 0 ≤ s.s.tmod 5 % 5 ∧ s.s.tmod 5 % 5 < 5 := by omega
  have ht := and255 s.t
  refine ⟨⟨by show 1 ≤ s.kind; unfold Sd.kind; omega, by show s.kind ≤ 7; unfold Sd.kind; omega⟩, ht, h6, h5, cellL_length _, cellL_length _, imgL_length _, ?_⟩
  show s.dirty.length = 0 ∨ s.kind = 7 ∧ s.dirty.length = 6
  unfold Sd.dirty
  split
  · rename_i h
    refine .inr ⟨h.1, ?_⟩
    rw [List.length_append, List.length_take, List.length_replicate]
    omega
  · exact .inl rfl
theorem Sd.dx (s : Sd) (h : ∀ x ∈ s.d, x < 256 ^ 8) : ∀ x ∈ s.rc.dirty, x < 256 ^ 8 := by
  intro x hx
  have hx : x ∈ s.dirty := hx
  unfold Sd.dirty at hx
  split at hx
  · rcases List.mem_append.1 hx with h1 | h1
    · exact h x (List.mem_of_mem_take h1)
    · rw [List.eq_of_mem_replicate h1]; decide
  · cases hx

set_option maxRecDepth 100000 in
set_option maxHeartbeats 4000000 in
theorem cell_law_any (n : UInt8) (w : World) : Calls Try.prog 24 #[.int .u8 (n.toNat : Int)] w fun e w' => e = .returned (strV (cellL n)) ∧ Keep w w' := by
  by_cases h0 : n = 0
  · subst h0
    rw [show cellL 0 = [] from rfl]
    unfold strV
    go_enter Try.func24, Try.ntmps24
    go_wp2
    go_ret
    exact ⟨rfl, Keep.refl _⟩
  · have hz : cellL n = ((zB 40).set 0 1).set 7 n := by unfold cellL; rw [if_neg h0]
    rw [hz]
    have t1 : ((n.toNat : Int) == 0) = false := by
      rw [beq_eq_false_iff_ne]
      intro e
      exact h0 (UInt8.toNat_inj.1 (by simpa using e))
    clear hz
    have hmk : (Instr.makeSlice 29 (.int .i64 40) (.int .i64 40)).run Try.prog w = .ok (.slice (some ⟨w.heap.size, 0, none⟩) 40 40) (w.alloc (.cells ((zB 40).map B).toArray 5)) := run_makeB (P := Try.prog) elemB w 40 (by omega)
    -- the bytes
    have hS : SlB (w.alloc (.cells ((((zB 40).map B).set 0 (.int .u8 1)).set 7 (.int .u8 (n.toNat : Int))).toArray 5)) (.slice (some ⟨w.heap.size, 0, none⟩) 40 40) (((zB 40).set 0 1).set 7 n) := by
      unfold SlB
      rw [List.map_set, List.map_set]
      exact Sl.laid w _ _ _ _ 40 40 (by simp [zB]) (by rw [List.take_of_length_le (by simp [zB])]; rfl) (by decide) (Nat.le_refl _)
    have hst := run_toString (P := Try.prog) Try.underlying29 Try.underlying5 Try.underlying9 hS
    unfold strV at *
    clear hS
    go_enter Try.func24, Try.ntmps24
    go_wp2
    go_ret
    exact ⟨rfl, Keep.alloc _ _⟩

theorem moved_but {n c : Nat} {w w' : World} {own : Nat → Nat} {g : Nat} (hb : w.grownBy w' (some g)) (hn : n ≤ g) (hc : c.testBit (own g) = true) : Moved n c w own w' :=
  ⟨hb.size, fun b hb2 hor => hb.block b hb2 fun e => by
    simp only [Option.some.injEq] at e
    subst e
    rcases hor with h | h
    · omega
    · rw [hc] at h; cases h⟩
theorem in_none {S : Nat → Prop} {n c : Nat} : In S (.slice none n c) := fun _ _ _ e => by simp at e
theorem in_made {S : Nat → Prop} {g n c : Nat} (h : S g) : In S (.slice (some ⟨g, 0, none⟩) n c) := fun a n' c' e => by
  simp only [Value.slice.injEq, Option.some.injEq] at e
  rw [← e.1]
  exact h
/-- a new block -/
def tAt (n : Nat) (o : Obj) : Tells Keep := ⟨fun v w => ∃ g, v = .pointer (some ⟨g, 0, none⟩) ∧ n ≤ g ∧ w.heap[g]? = some o, fun v w w' hk ⟨g, h1, h2, h3⟩ => ⟨g, h1, h2, (hk.block g (Array.getElem?_eq_some_iff.1 h3).1).trans h3⟩⟩

set_option maxRecDepth 100000 in
set_option maxHeartbeats 8000000 in
theorem seed_at (s : Sd) (dv : Value) (w : World) (hd : SlU w dv s.d) : Calls Try.prog 15 #[.agg #[.int .i64 s.k, .int .i64 s.t, .int .i64 s.p, .int .i64 s.s, .int .u8 (s.b.toNat : Int), .int .u8 (s.a.toNat : Int), .int .u8 (s.i.toNat : Int), dv]] w fun e w' => ∃ dw, e = .returned (s.rc.val dw) ∧ (In (fun b => w.heap.size ≤ b) dw ∧ SlU w' dw s.rc.dirty) ∧ Keep w w' := by
  have hdd := hd
  obtain ⟨da, dc, rfl, hm, hc, -⟩ := hd.form
  obtain ⟨k, t, p, sl, b, a, im, d⟩ := s
  simp only at *
  have h7 := tmod_lt k 7 (by omega)
  have h6 := tmod_lt p 6 (by omega)
  have h5 := tmod_lt sl 5 (by omega)
  have hrc : Hid ((Sd.mk k t p sl b a im d).rc = ⟨k.tmod 7 % 7 + 1, Go.bits .and .i64 t 255, p.tmod 6 % 6, sl.tmod 5 % 5, cellL b, cellL a, imgL im, (Sd.mk k t p sl b a im d).dirty⟩) := rfl
  have hdy : Hid ((Sd.mk k t p sl b a im d).dirty = if k.tmod 7 % 7 + 1 = 7 ∧ d ≠ [] then d.take 6 ++ List.replicate (6 - d.length) 0 else []) := rfl
  generalize Sd.mk k t p sl b a im d = SD at *
  have hkb : 0 ≤ k.tmod 7 % 7 ∧ k.tmod 7 % 7 < 7 := by omega
  have hkt := tmod_tmod k 7 (by omega)
  have w7 : wrap64 (k.tmod 7 + 7) = k.tmod 7 + 7 := by unfold wrap64; omega
  have w8 : wrap64 ((k.tmod 7 + 7).tmod 7 + 1) = (k.tmod 7 + 7).tmod 7 + 1 := by unfold wrap64; omega
  have w6 : wrap64 (p.tmod 6 + 6) = p.tmod 6 + 6 := by unfold wrap64; omega
  have w5 : wrap64 (sl.tmod 5 + 5) = sl.tmod 5 + 5 := by unfold wrap64; omega
  have cB := Lib.hid (cell_law_any b)
  have cA := Lib.hid (cell_law_any a)
  unfold strV at cA cB
  go_enter Try.func15, Try.ntmps15
  go_upto_region 1 with (fail)
  have hx0 := heap_alloc_new w (.cells #[.int .i64 k, .int .i64 t, .int .i64 p, .int .i64 sl, .int .u8 (b.toNat : Int), .int .u8 (a.toNat : Int), .int .u8 (im.toNat : Int), .slice da d.length dc] 28)
  have hk0 := Keep.alloc w (.cells #[.int .i64 k, .int .i64 t, .int .i64 p, .int .i64 sl, .int .u8 (b.toNat : Int), .int .u8 (a.toNat : Int), .int .u8 (im.toNat : Int), .slice da d.length dc] 28)
  have hsz : (w.alloc (.cells #[.int .i64 k, .int .i64 t, .int .i64 p, .int .i64 sl, .int .u8 (b.toNat : Int), .int .u8 (a.toNat : Int), .int .u8 (im.toNat : Int), .slice da d.length dc] 28)).heap.size = w.heap.size + 1 := by simp
  generalize w.alloc (.cells #[.int .i64 k, .int .i64 t, .int .i64 p, .int .i64 sl, .int .u8 (b.toNat : Int), .int .u8 (a.toNat : Int), .int .u8 (im.toNat : Int), .slice da d.length dc] 28) = w9 at *
  have hz0 := heap_alloc_new w9 (.cells #[.int .i64 0, .int .i64 0, .int .i64 0, .int .i64 0, .string ⟨[].toArray⟩, .string ⟨[].toArray⟩, .string ⟨[].toArray⟩, .slice none 0 0] 24)
  have hk9 := Keep.alloc w9 (.cells #[.int .i64 0, .int .i64 0, .int .i64 0, .int .i64 0, .string ⟨[].toArray⟩, .string ⟨[].toArray⟩, .string ⟨[].toArray⟩, .slice none 0 0] 24)
  rw [hsz] at hz0
  have hx1 := (hk9.block _ (Array.getElem?_eq_some_iff.1 hx0).1).trans hx0
  have hkw := hk0.trans' hk9
  clear hsz hx0
  generalize w9.alloc (.cells #[.int .i64 0, .int .i64 0, .int .i64 0, .int .i64 0, .string ⟨[].toArray⟩, .string ⟨[].toArray⟩, .string ⟨[].toArray⟩, .slice none 0 0] 24) = w0 at *
  have hzl := (Array.getElem?_eq_some_iff.1 hz0).1
  refine wp_region_dag_tail (C := fun w' => Keep w0 w') (R := Keep) 27 [none, some (tV (.int .i64 k)), none, none, none, none, none, some (tV (.int .i64 t)), none, none, some (tV (.int .i64 p)), none, none, none, none, some (tV (.int .i64 sl)), none, none, none, none, some (tV (.int .u8 (b.toNat : Int))), some (tV (.string ⟨(cellL b).toArray⟩)), none, some (tV (.int .u8 (a.toNat : Int))), some (tV (.string ⟨(cellL a).toArray⟩)), none, some (tAt w0.heap.size (.cells #[.int .i64 0, .int .i64 0, .int .i64 0, .int .i64 0, .string ⟨[].toArray⟩, .string ⟨[].toArray⟩, .string ⟨[].toArray⟩, .slice none 0 0] 24))]
    (by kernel_rfl) (by kernel_rfl) (by kernel_rfl) (Keep.refl w0).drew ?_
  refine dagT_pure rfl ?_
  go_big_quiet_step (fail)
  refine dagT_on ?_
  refine dagT_told (by kernel_rfl) ?_ ?_
  · intro w2 hC hF
    obtain ⟨x0, x1, x2, x3, x4, x5, x6, x7⟩ := cells8 ((hC.block _ (Array.getElem?_eq_some_iff.1 hx1).1).trans hx1)
    exact Gives.value (v := .int .i64 k) (w' := w2) (by go_simp) ⟨hC, Keep.refl _, rfl⟩
  intro v2 w2 hC hF hv2
  clear hC hF
  obtain rfl := hv2
  simp only [Act.put, List.setIfInBounds_toArray, List.set_cons_zero, List.set_cons_succ]
  refine dagT_pure rfl ?_
  go_big_quiet_step (fail)
  refine dagT_on ?_
  refine dagT_pure rfl ?_
  go_big_quiet_step (fail)
  refine dagT_on ?_
  refine dagT_pure rfl ?_
  go_big_quiet_step (fail)
  refine dagT_on ?_
  refine dagT_pure rfl ?_
  go_big_quiet_step (fail)
  refine dagT_on ?_
  refine dagT_pure rfl ?_
  go_big_quiet_step (fail)
  refine dagT_on ?_
  refine dagT_told (by kernel_rfl) ?_ ?_
  · intro w2 hC hF
    obtain ⟨x0, x1, x2, x3, x4, x5, x6, x7⟩ := cells8 ((hC.block _ (Array.getElem?_eq_some_iff.1 hx1).1).trans hx1)
    exact Gives.value (v := .int .i64 t) (w' := w2) (by go_simp) ⟨hC, Keep.refl _, rfl⟩
  intro v2 w2 hC hF hv2
  clear hC hF
  obtain rfl := hv2
  simp only [Act.put, List.setIfInBounds_toArray, List.set_cons_zero, List.set_cons_succ]
  refine dagT_pure rfl ?_
  go_big_quiet_step (fail)
  refine dagT_on ?_
  refine dagT_pure rfl ?_
  go_big_quiet_step (fail)
  refine dagT_on ?_
  refine dagT_told (by kernel_rfl) ?_ ?_
  · intro w2 hC hF
    obtain ⟨x0, x1, x2, x3, x4, x5, x6, x7⟩ := cells8 ((hC.block _ (Array.getElem?_eq_some_iff.1 hx1).1).trans hx1)
    exact Gives.value (v := .int .i64 p) (w' := w2) (by go_simp) ⟨hC, Keep.refl _, rfl⟩
  intro v2 w2 hC hF hv2
  clear hC hF
  obtain rfl := hv2
  simp only [Act.put, List.setIfInBounds_toArray, List.set_cons_zero, List.set_cons_succ]
  refine dagT_pure rfl ?_
  go_big_quiet_step (fail)
  refine dagT_on ?_
  refine dagT_pure rfl ?_
  go_big_quiet_step (fail)
  refine dagT_on ?_
  refine dagT_pure rfl ?_
  go_big_quiet_step (fail)
  refine dagT_on ?_
  refine dagT_pure rfl ?_
  go_big_quiet_step (fail)
  refine dagT_on ?_
  refine dagT_told (by kernel_rfl) ?_ ?_
  · intro w2 hC hF
    obtain ⟨x0, x1, x2, x3, x4, x5, x6, x7⟩ := cells8 ((hC.block _ (Array.getElem?_eq_some_iff.1 hx1).1).trans hx1)
    exact Gives.value (v := .int .i64 sl) (w' := w2) (by go_simp) ⟨hC, Keep.refl _, rfl⟩
  intro v2 w2 hC hF hv2
  clear hC hF
  obtain rfl := hv2
  simp only [Act.put, List.setIfInBounds_toArray, List.set_cons_zero, List.set_cons_succ]
  refine dagT_pure rfl ?_
  go_big_quiet_step (fail)
  refine dagT_on ?_
  refine dagT_pure rfl ?_
  go_big_quiet_step (fail)
  refine dagT_on ?_
  refine dagT_pure rfl ?_
  go_big_quiet_step (fail)
  refine dagT_on ?_
  refine dagT_pure rfl ?_
  go_big_quiet_step (fail)
  refine dagT_on ?_
  refine dagT_told (by kernel_rfl) ?_ ?_
  · intro w2 hC hF
    obtain ⟨x0, x1, x2, x3, x4, x5, x6, x7⟩ := cells8 ((hC.block _ (Array.getElem?_eq_some_iff.1 hx1).1).trans hx1)
    exact Gives.value (v := .int .u8 (b.toNat : Int)) (w' := w2) (by go_simp) ⟨hC, Keep.refl _, rfl⟩
  intro v2 w2 hC hF hv2
  clear hC hF
  obtain rfl := hv2
  simp only [Act.put, List.setIfInBounds_toArray, List.set_cons_zero, List.set_cons_succ]
  refine dagT_told (by kernel_rfl) ?_ ?_
  · intro w2 hC hF
    refine Gives.call (by go_simp) (cB.out w2) ?_
    rintro e w' ⟨rfl, hk⟩
    exact ⟨_, rfl, hC.trans' hk, hk, rfl⟩
  intro v2 w2 hC hF hv2
  clear hC hF
  obtain rfl := hv2
  simp only [Act.put, List.setIfInBounds_toArray, List.set_cons_zero, List.set_cons_succ]
  refine dagT_pure rfl ?_
  go_big_quiet_step (fail)
  refine dagT_on ?_
  refine dagT_told (by kernel_rfl) ?_ ?_
  · intro w2 hC hF
    obtain ⟨x0, x1, x2, x3, x4, x5, x6, x7⟩ := cells8 ((hC.block _ (Array.getElem?_eq_some_iff.1 hx1).1).trans hx1)
    exact Gives.value (v := .int .u8 (a.toNat : Int)) (w' := w2) (by go_simp) ⟨hC, Keep.refl _, rfl⟩
  intro v2 w2 hC hF hv2
  clear hC hF
  obtain rfl := hv2
  simp only [Act.put, List.setIfInBounds_toArray, List.set_cons_zero, List.set_cons_succ]
  refine dagT_told (by kernel_rfl) ?_ ?_
  · intro w2 hC hF
    refine Gives.call (by go_simp) (cA.out w2) ?_
    rintro e w' ⟨rfl, hk⟩
    exact ⟨_, rfl, hC.trans' hk, hk, rfl⟩
  intro v2 w2 hC hF hv2
  clear hC hF
  obtain rfl := hv2
  simp only [Act.put, List.setIfInBounds_toArray, List.set_cons_zero, List.set_cons_succ]
  refine dagT_pure rfl ?_
  go_big_quiet_step (fail)
  refine dagT_on ?_
  refine dagT_told (by kernel_rfl) ?_ ?_
  · intro w2 hC hF
    exact Gives.value (v := .pointer (some ⟨w2.heap.size, 0, none⟩)) (w' := w2.alloc (.cells #[.int .i64 0, .int .i64 0, .int .i64 0, .int .i64 0, .string ⟨[].toArray⟩, .string ⟨[].toArray⟩, .string ⟨[].toArray⟩, .slice none 0 0] 24)) (by go_simp) ⟨hC.trans' (Keep.alloc _ _), Keep.alloc _ _, _, rfl, hC.size, heap_alloc_new _ _⟩
  intro v2 w2 hC hF hv2
  clear hC hF
  obtain ⟨g, rfl, -, -⟩ := hv2
  simp only [Act.put, List.setIfInBounds_toArray, List.set_cons_zero, List.set_cons_succ]
  refine dagT_done fun w1 hC hF => ?_
  obtain ⟨g', hg', hng, hg8⟩ := (hF 26).1 rfl
  simp only [Value.pointer.injEq, Option.some.injEq, Addr.mk.injEq, and_true] at hg'
  subst hg'
  clear hF
  obtain ⟨n0, n1, n2, n3, n4, n5, n6, n7⟩ := cells8 hg8
  obtain ⟨z0, z1, z2, z3, z4, z5, z6, z7⟩ := free8 hg8
  refine seqW_gives (by kernel_rfl) ?_
  refine Gives.skip (w' := laidOver w1 g (.int .i64 (k.tmod 7 % 7 + 1)) (.int .i64 (Go.bits .and .i64 t 255)) (.int .i64 (p.tmod 6 % 6)) (.int .i64 (sl.tmod 5 % 5)) (.string ⟨(cellL b).toArray⟩) (.string ⟨(cellL a).toArray⟩) (.string ⟨[].toArray⟩) (.slice none 0 0)) (by unfold laidOver; go_simp) ?_
  simp only [Act.put, List.setIfInBounds_toArray, List.set_cons_zero, List.set_cons_succ]
  refine seqW_done ?_
  have hbl := laidOver_but w1 g (.int .i64 (k.tmod 7 % 7 + 1)) (.int .i64 (Go.bits .and .i64 t 255)) (.int .i64 (p.tmod 6 % 6)) (.int .i64 (sl.tmod 5 % 5)) (.string ⟨(cellL b).toArray⟩) (.string ⟨(cellL a).toArray⟩) (.string ⟨[].toArray⟩) (.slice none 0 0)
  have hA2 : RcAt (laidOver w1 g (.int .i64 (k.tmod 7 % 7 + 1)) (.int .i64 (Go.bits .and .i64 t 255)) (.int .i64 (p.tmod 6 % 6)) (.int .i64 (sl.tmod 5 % 5)) (.string ⟨(cellL b).toArray⟩) (.string ⟨(cellL a).toArray⟩) (.string ⟨[].toArray⟩) (.slice none 0 0)) g ⟨k.tmod 7 % 7 + 1, Go.bits .and .i64 t 255, p.tmod 6 % 6, sl.tmod 5 % 5, cellL b, cellL a, [], []⟩ (.slice none 0 0) := laidOver_at hg8 _ _ _ _ _ _ _ _
  have hk2 : Keep w0 (laidOver w1 g (.int .i64 (k.tmod 7 % 7 + 1)) (.int .i64 (Go.bits .and .i64 t 255)) (.int .i64 (p.tmod 6 % 6)) (.int .i64 (sl.tmod 5 % 5)) (.string ⟨(cellL b).toArray⟩) (.string ⟨(cellL a).toArray⟩) (.string ⟨[].toArray⟩) (.slice none 0 0)) := hC.grown hbl hC.size (fun k hk => by cases hk; exact hng)
  clear n0 n1 n2 n3 n4 n5 n6 n7 z0 z1 z2 z3 z4 z5 z6 z7 hg8 hbl hC w5 w6 w7 w8 cA cB
  generalize laidOver w1 g (.int .i64 (k.tmod 7 % 7 + 1)) (.int .i64 (Go.bits .and .i64 t 255)) (.int .i64 (p.tmod 6 % 6)) (.int .i64 (sl.tmod 5 % 5)) (.string ⟨(cellL b).toArray⟩) (.string ⟨(cellL a).toArray⟩) (.string ⟨[].toArray⟩) (.slice none 0 0) = w2 at *
  have hx2 := (hk2.block _ (Array.getElem?_eq_some_iff.1 hx1).1).trans hx1
  have hz2 := (hk2.block _ hzl).trans hz0
  have hkw2 := hkw.trans' hk2
  have hd2 := hdd.keep hkw2
  have hg2 : g < w2.heap.size := (Array.getElem?_eq_some_iff.1 hA2).1
  have hgx : w.heap.size + 1 < g := Nat.lt_of_lt_of_le hzl hng
  clear hx1 hz0 hk2 hd hkw
  generalize k.tmod 7 % 7 + 1 = kk at *
  generalize Go.bits .and .i64 t 255 = tt at *
  generalize p.tmod 6 % 6 = pp at *
  generalize sl.tmod 5 % 5 = ss at *
  generalize cellL b = cb at *
  generalize cellL a = ca at *
  obtain ⟨x0, x1, x2, x3, x4, x5, x6, x7⟩ := cells8 hx2
  clear h5 h6 h7 hkb hkt
  by_cases him : im = 0
  · have himg : Hid (imgL im = []) := by show _ = _; rw [him]; rfl
    have t0 : decide (0 < (im.toNat : Int)) = false := by rw [him]; rfl
    obtain ⟨c0, c1, c2, c3, c4, c5, c6, c7⟩ := hA2.cells
    simp only at c0 c1 c2 c3 c4 c5 c6 c7
    by_cases hk7 : kk = 7
    · have t1 : (kk == 7) = true := by rw [beq_iff_eq]; exact hk7
      replace hk7 : Hid (kk = 7) := Lib.hid hk7
      by_cases hd0 : 0 < d.length
      · have t2 : decide (0 < (d.length : Int)) = true := decide_eq_true (by omega)
        have hdir : Hid (SD.rc.dirty = d.take 6 ++ List.replicate (6 - d.length) 0) := by
          show _ = _
          have hk7 := hk7.out
          rw [hrc.out, hdy.out, if_pos ⟨hk7, List.ne_nil_of_length_pos hd0⟩]
        obtain ⟨u3, u5, hmk, hA3, hA4, hf4, hcp, hA5, hf5, hk5, hsl⟩ := made_dirty hkw2 (by omega) hA2 hdd hd0
        have f7 := hA3.free 7
        obtain ⟨d0, d1, d2, d3, d4, d5, d6, d7⟩ := hA3.cells
        obtain ⟨e0, e1, e2, e3, e4, e5, e6, e7⟩ := hA4.cells
        obtain ⟨a0, a1, a2, a3, a4, a5, a6, a7⟩ := hA5.cells
        obtain ⟨y0, y1, y2, y3, y4, y5, y6, y7⟩ := cells8 (hf4 _ _ (by omega) hx2)
        have hz5 := hf5 _ _ (by omega) hz2
        simp only at a0 a1 a2 a3 a4 a5 a6 a7 d0 d1 d2 d3 d4 d5 d6 d7 e0 e1 e2 e3 e4 e5 e6 e7
        clear hA3 hA4 hf4 hA5 hf5 hA2 hx2 hz2 hdd
        obtain ⟨n0, n1, n2, n3, n4, n5, n6, n7⟩ := cells8 hz5
        obtain ⟨z0, z1, z2, z3, z4, z5, z6, z7⟩ := free8 hz5
        obtain ⟨m0, m1, m2, m3, m4, m5, m6, m7⟩ := cells8 (laidOver_at hz5 (.int .i64 kk) (.int .i64 tt) (.int .i64 pp) (.int .i64 ss) (.string ⟨cb.toArray⟩) (.string ⟨ca.toArray⟩) (.string ⟨([]).toArray⟩) (.slice (some ⟨w2.heap.size, 0, none⟩) 6 6))
        have hbut := laidOver_but u5 (w.heap.size + 1) (.int .i64 kk) (.int .i64 tt) (.int .i64 pp) (.int .i64 ss) (.string ⟨cb.toArray⟩) (.string ⟨ca.toArray⟩) (.string ⟨([]).toArray⟩) (.slice (some ⟨w2.heap.size, 0, none⟩) 6 6)
        unfold laidOver at m0 m1 m2 m3 m4 m5 m6 m7 hbut
        go_wp2
        refine bodyPost_ret (v := .agg #[.int .i64 kk, .int .i64 tt, .int .i64 pp, .int .i64 ss, .string ⟨cb.toArray⟩, .string ⟨ca.toArray⟩, .string ⟨([]).toArray⟩, .slice (some ⟨w2.heap.size, 0, none⟩) 6 6]) ?_ ?_ ?_
        · simp [results, Try.results15, go_sem, m0, m1, m2, m3, m4, m5, m6, m7]
        · rfl
        · refine ⟨.slice (some ⟨w2.heap.size, 0, none⟩) 6 6, ?_, ?_, hk5.trans (hbut.below (by omega) hk5.size)⟩
          · rw [hrc.out, himg.out]; rfl
          · refine ⟨?_, ?_⟩
            · exact in_made (by have := hkw2.size; first | omega | (have := hkw6.size; omega))
            · rw [hdir.out]; exact hsl.butNe hbut (by omega)
      · have t2 : decide (0 < (d.length : Int)) = false := decide_eq_false (by omega)
        have hdir : Hid (SD.dirty = []) := by
          show _ = _
          have hk7 := hk7.out
          rw [hdy.out, if_neg (by rintro ⟨h1, h2⟩; have := List.length_pos_iff.2 h2; omega)]
        have hrd : SD.rc.dirty = [] := by rw [hrc.out]; exact hdir.out
        have HRD := Lib.hid hrd
        clear hrd
        obtain ⟨n0, n1, n2, n3, n4, n5, n6, n7⟩ := cells8 hz2
        obtain ⟨z0, z1, z2, z3, z4, z5, z6, z7⟩ := free8 hz2
        obtain ⟨m0, m1, m2, m3, m4, m5, m6, m7⟩ := cells8 (laidOver_at hz2 (.int .i64 kk) (.int .i64 tt) (.int .i64 pp) (.int .i64 ss) (.string ⟨cb.toArray⟩) (.string ⟨ca.toArray⟩) (.string ⟨([]).toArray⟩) (.slice none 0 0))
        have hbut := laidOver_but w2 (w.heap.size + 1) (.int .i64 kk) (.int .i64 tt) (.int .i64 pp) (.int .i64 ss) (.string ⟨cb.toArray⟩) (.string ⟨ca.toArray⟩) (.string ⟨([]).toArray⟩) (.slice none 0 0)
        unfold laidOver at m0 m1 m2 m3 m4 m5 m6 m7 hbut
        go_wp2
        refine bodyPost_ret (v := .agg #[.int .i64 kk, .int .i64 tt, .int .i64 pp, .int .i64 ss, .string ⟨cb.toArray⟩, .string ⟨ca.toArray⟩, .string ⟨([]).toArray⟩, .slice none 0 0]) ?_ ?_ ?_
        · simp [results, Try.results15, go_sem, m0, m1, m2, m3, m4, m5, m6, m7]
        · rfl
        · refine ⟨.slice none 0 0, ?_, ?_, hkw2.trans (hbut.below (by omega) hkw2.size)⟩
          · rw [hrc.out, himg.out]; rfl
          · refine ⟨?_, ?_⟩
            · exact in_none
            · rw [HRD.out]; exact (show SlU _ (.slice none 0 0) [] from (Own.nil _ 0 46).sl)
    · have t1 : (kk == 7) = false := by rw [beq_eq_false_iff_ne]; exact hk7
      replace hk7 : Hid (¬ kk = 7) := Lib.hid hk7
      have hdir : Hid (SD.dirty = []) := by
        show _ = _
        have hk7 := hk7.out
        rw [hdy.out, if_neg (by rintro ⟨h1, h2⟩; have := List.length_pos_iff.2 h2; omega)]
      have hrd : SD.rc.dirty = [] := by rw [hrc.out]; exact hdir.out
      have HRD := Lib.hid hrd
      clear hrd
      obtain ⟨n0, n1, n2, n3, n4, n5, n6, n7⟩ := cells8 hz2
      obtain ⟨z0, z1, z2, z3, z4, z5, z6, z7⟩ := free8 hz2
      obtain ⟨m0, m1, m2, m3, m4, m5, m6, m7⟩ := cells8 (laidOver_at hz2 (.int .i64 kk) (.int .i64 tt) (.int .i64 pp) (.int .i64 ss) (.string ⟨cb.toArray⟩) (.string ⟨ca.toArray⟩) (.string ⟨([]).toArray⟩) (.slice none 0 0))
      have hbut := laidOver_but w2 (w.heap.size + 1) (.int .i64 kk) (.int .i64 tt) (.int .i64 pp) (.int .i64 ss) (.string ⟨cb.toArray⟩) (.string ⟨ca.toArray⟩) (.string ⟨([]).toArray⟩) (.slice none 0 0)
      unfold laidOver at m0 m1 m2 m3 m4 m5 m6 m7 hbut
      go_wp2
      refine bodyPost_ret (v := .agg #[.int .i64 kk, .int .i64 tt, .int .i64 pp, .int .i64 ss, .string ⟨cb.toArray⟩, .string ⟨ca.toArray⟩, .string ⟨([]).toArray⟩, .slice none 0 0]) ?_ ?_ ?_
      · simp [results, Try.results15, go_sem, m0, m1, m2, m3, m4, m5, m6, m7]
      · rfl
      · refine ⟨.slice none 0 0, ?_, ?_, hkw2.trans (hbut.below (by omega) hkw2.size)⟩
        · rw [hrc.out, himg.out]; rfl
        · refine ⟨?_, ?_⟩
          · exact in_none
          · rw [HRD.out]; exact (show SlU _ (.slice none 0 0) [] from (Own.nil _ 0 46).sl)
  · have himg : Hid (imgL im = ((zB 256).set 3 im).set 200 im) := by
      show _ = _
      unfold imgL
      rw [if_neg him]
    have t0 : decide (0 < (im.toNat : Int)) = true := decide_eq_true (by
      have : im.toNat ≠ 0 := fun e => him (UInt8.toNat_inj.1 e)
      omega)
    clear him
    have hmk : (Instr.makeSlice 29 (.int .i64 256) (.int .i64 256)).run Try.prog w2 = .ok (.slice (some ⟨w2.heap.size, 0, none⟩) 256 256) (w2.alloc (.cells ((zB 256).map B).toArray 5)) := run_makeB (P := Try.prog) elemB w2 256 (by omega)
    generalize hix : (im.toNat : Int) = ix at *
    go_upto_region 4 with (fail)
    have h40 : Own (w2.alloc (.cells ((zB 256).map B).toArray 5)) w2.heap.size 5 (.slice (some ⟨w2.heap.size, 0, none⟩) 256 256) ((zB 256).map B) := Own.made w2 _ _ 256 (Nat.le_refl _) (by omega)
    have hk34 := Keep.alloc w2 (.cells ((zB 256).map B).toArray 5)
    generalize w2.alloc (.cells ((zB 256).map B).toArray 5) = w4 at *
    clear hmk t0 x0 x1 x2 x3 x4 x5 x7
    have lx6 := World.block_lt_of_cell? w2 _ x6
    refine wp_region_ordI [none, none, none, some (oV (.int .u8 ix)), none, some (oV (.int .u8 ix)), none, some (oHas (.slice (some ⟨w2.heap.size, 0, none⟩) 256 256) (w2.heap.size) 5 (List.set ((zB 256).map B) 3 (.int .u8 ix))), none, some (oHas (.slice (some ⟨w2.heap.size, 0, none⟩) 256 256) (w2.heap.size) 5 (List.set (List.set ((zB 256).map B) 3 (.int .u8 ix)) 200 (.int .u8 ix)))]
      128 #[0, 0, 0, 0, 0, 0, 0, 1024, 0, 128] (w2.heap.size) ((oHas (.slice (some ⟨w2.heap.size, 0, none⟩) 256 256) w2.heap.size 5 ((zB 256).map B)).φ undef) (fun w' => Keep w2 w') (by kernel_rfl) (by kernel_rfl) (by kernel_rfl) (hk34.drew) ((oHas (.slice (some ⟨w2.heap.size, 0, none⟩) 256 256) w2.heap.size 5 ((zB 256).map B)).st undef) (⟨h40.keep (Keep.refl w4).drew, fun _ _ _ _ => trivial⟩) ?_
    refine ordT_pure rfl ?_
    go_big_quiet_step (fail)
    refine ordT_on ?_
    refine ordT_pure rfl ?_
    go_big_quiet_step (fail)
    refine ordT_on ?_
    refine ordT_pure rfl ?_
    go_big_quiet_step (fail)
    refine ordT_on ?_
    refine ordT_same (by kernel_rfl) (fun w2 hC => ?_) ?_
    · have y6 := (hC.cell lx6).trans x6
      go_simp
    simp only [Act.put, List.setIfInBounds_toArray, List.set_cons_zero, List.set_cons_succ]
    refine ordT_pure rfl ?_
    go_big_quiet_step (fail)
    refine ordT_on ?_
    refine ordT_same (by kernel_rfl) (fun w2 hC => ?_) ?_
    · have y6 := (hC.cell lx6).trans x6
      go_simp
    simp only [Act.put, List.setIfInBounds_toArray, List.set_cons_zero, List.set_cons_succ]
    refine ordT_pure rfl ?_
    go_big_quiet_step (fail)
    refine ordT_on ?_
    refine ordT_told (by kernel_rfl) (told_store 5 w2.heap.size 256 256 ((zB 256).map B) 3 (.int .u8 ix) (by simp [zB]) keepS (fun w2 x hc1 hc2 => by go_simp) fun w2 own hC hF => ?_) ?_
    · have h2 := ((((hF 10 (by kernel_rfl)).2 rfl).2 rfl) rfl)
      exact own_con h2.1 h2.2 rfl
    rintro _ w_ own_ - -
    simp only [Act.put, List.setIfInBounds_toArray, List.set_cons_zero, List.set_cons_succ]
    refine ordT_pure rfl ?_
    go_big_quiet_step (fail)
    refine ordT_on ?_
    refine ordT_told (by kernel_rfl) (told_store 5 w2.heap.size 256 256 (List.set ((zB 256).map B) 3 (.int .u8 ix)) 200 (.int .u8 ix) (by simp [zB]) keepS (fun w2 x hc1 hc2 => by go_simp) fun w2 own hC hF => ?_) ?_
    · have h2 := ((hF 7 (by kernel_rfl)).1 rfl)
      exact own_con h2.1 h2.2 rfl
    rintro _ w_ own_ - -
    simp only [Act.put, List.setIfInBounds_toArray, List.set_cons_zero, List.set_cons_succ]
    refine ordT_done fun w9 own hCw9 hF => ?_
    have hOw9 := ((hF 9).1 rfl).1
    clear hF
    skip
    rw [← hix] at hOw9
    change Own _ _ _ _ ((((zB 256).map B).set 3 (B im)).set 200 (B im)) at hOw9
    rw [← List.map_set, ← List.map_set] at hOw9
    generalize ((zB 256).set 3 im).set 200 im = ig at *
    have hA9 : RcAt w9 g _ _ := hA2.keep hCw9
    have hx9 := (hCw9.block _ (Array.getElem?_eq_some_iff.1 hx2).1).trans hx2
    have hz9 := (hCw9.block _ (Array.getElem?_eq_some_iff.1 hz2).1).trans hz2
    have hk9' := hkw2.trans' hCw9
    have hst := run_toString (P := Try.prog) Try.underlying29 Try.underlying5 Try.underlying9 hOw9.slB
    unfold strV at hst
    have hb6 := But.setCell w9 g 6 (.string ⟨ig.toArray⟩)
    have hA6 := Lib.hid (hA9.set6 ig)
    have hx6 := Lib.hid (hb6.at (by omega) hx9)
    have hz6 := Lib.hid (hb6.at (by omega) hz9)
    have hk6 := Lib.hid (hk9'.trans (hb6.below (by omega) hk9'.size))
    have f6 := hA9.free 6
    obtain ⟨e0, e1, e2, e3, e4, e5, e6, e7⟩ := hA9.cells
    simp only at e0 e1 e2 e3 e4 e5 e6 e7
    clear hA2 hx2 hz2 hkw2 hk9' hx9 hz9 hA9 hb6 h40 hOw9 hCw9 x6 lx6 hd2 hk34
    go_upto_region 6 with (fail)
    generalize w9.setCell ⟨g, 6, none⟩ (.string ⟨ig.toArray⟩) = w6 at *
    replace hA6 := hA6.out
    replace hx6 := hx6.out
    replace hz6 := hz6.out
    replace hk6 := hk6.out
    have hg6 : g < w6.heap.size := (Array.getElem?_eq_some_iff.1 hA6).1
    clear e0 e1 e2 e3 e4 e5 e6 e7 f6 hst
    obtain ⟨x0, x1, x2, x3, x4, x5, x6, x7⟩ := cells8 hx6
    obtain ⟨c0, c1, c2, c3, c4, c5, c6, c7⟩ := hA6.cells
    simp only at c0 c1 c2 c3 c4 c5 c6 c7
    by_cases hk7 : kk = 7
    · have t1 : (kk == 7) = true := by rw [beq_iff_eq]; exact hk7
      replace hk7 : Hid (kk = 7) := Lib.hid hk7
      by_cases hd0 : 0 < d.length
      · have t2 : decide (0 < (d.length : Int)) = true := decide_eq_true (by omega)
        have hdir : Hid (SD.rc.dirty = d.take 6 ++ List.replicate (6 - d.length) 0) := by
          show _ = _
          have hk7 := hk7.out
          rw [hrc.out, hdy.out, if_pos ⟨hk7, List.ne_nil_of_length_pos hd0⟩]
        obtain ⟨u3, u5, hmk, hA3, hA4, hf4, hcp, hA5, hf5, hk5, hsl⟩ := made_dirty hk6 (by omega) hA6 hdd hd0
        have f7 := hA3.free 7
        obtain ⟨d0, d1, d2, d3, d4, d5, d6, d7⟩ := hA3.cells
        obtain ⟨e0, e1, e2, e3, e4, e5, e6, e7⟩ := hA4.cells
        obtain ⟨a0, a1, a2, a3, a4, a5, a6, a7⟩ := hA5.cells
        obtain ⟨y0, y1, y2, y3, y4, y5, y6, y7⟩ := cells8 (hf4 _ _ (by omega) hx6)
        have hz5 := hf5 _ _ (by omega) hz6
        simp only at a0 a1 a2 a3 a4 a5 a6 a7 d0 d1 d2 d3 d4 d5 d6 d7 e0 e1 e2 e3 e4 e5 e6 e7
        clear hA3 hA4 hf4 hA5 hf5 hA6 hx6 hz6 hdd
        obtain ⟨n0, n1, n2, n3, n4, n5, n6, n7⟩ := cells8 hz5
        obtain ⟨z0, z1, z2, z3, z4, z5, z6, z7⟩ := free8 hz5
        obtain ⟨m0, m1, m2, m3, m4, m5, m6, m7⟩ := cells8 (laidOver_at hz5 (.int .i64 kk) (.int .i64 tt) (.int .i64 pp) (.int .i64 ss) (.string ⟨cb.toArray⟩) (.string ⟨ca.toArray⟩) (.string ⟨(ig).toArray⟩) (.slice (some ⟨w6.heap.size, 0, none⟩) 6 6))
        have hbut := laidOver_but u5 (w.heap.size + 1) (.int .i64 kk) (.int .i64 tt) (.int .i64 pp) (.int .i64 ss) (.string ⟨cb.toArray⟩) (.string ⟨ca.toArray⟩) (.string ⟨(ig).toArray⟩) (.slice (some ⟨w6.heap.size, 0, none⟩) 6 6)
        unfold laidOver at m0 m1 m2 m3 m4 m5 m6 m7 hbut
        go_wp2
        refine bodyPost_ret (v := .agg #[.int .i64 kk, .int .i64 tt, .int .i64 pp, .int .i64 ss, .string ⟨cb.toArray⟩, .string ⟨ca.toArray⟩, .string ⟨(ig).toArray⟩, .slice (some ⟨w6.heap.size, 0, none⟩) 6 6]) ?_ ?_ ?_
        · simp [results, Try.results15, go_sem, m0, m1, m2, m3, m4, m5, m6, m7]
        · rfl
        · refine ⟨.slice (some ⟨w6.heap.size, 0, none⟩) 6 6, ?_, ?_, hk5.trans (hbut.below (by omega) hk5.size)⟩
          · rw [hrc.out, himg.out]; rfl
          · refine ⟨?_, ?_⟩
            · exact in_made (by have := hk6.size; omega)
            · rw [hdir.out]; exact hsl.butNe hbut (by omega)
      · have t2 : decide (0 < (d.length : Int)) = false := decide_eq_false (by omega)
        have hdir : Hid (SD.dirty = []) := by
          show _ = _
          have hk7 := hk7.out
          rw [hdy.out, if_neg (by rintro ⟨h1, h2⟩; have := List.length_pos_iff.2 h2; omega)]
        have hrd : SD.rc.dirty = [] := by rw [hrc.out]; exact hdir.out
        have HRD := Lib.hid hrd
        clear hrd
        obtain ⟨n0, n1, n2, n3, n4, n5, n6, n7⟩ := cells8 hz6
        obtain ⟨z0, z1, z2, z3, z4, z5, z6, z7⟩ := free8 hz6
        obtain ⟨m0, m1, m2, m3, m4, m5, m6, m7⟩ := cells8 (laidOver_at hz6 (.int .i64 kk) (.int .i64 tt) (.int .i64 pp) (.int .i64 ss) (.string ⟨cb.toArray⟩) (.string ⟨ca.toArray⟩) (.string ⟨(ig).toArray⟩) (.slice none 0 0))
        have hbut := laidOver_but w6 (w.heap.size + 1) (.int .i64 kk) (.int .i64 tt) (.int .i64 pp) (.int .i64 ss) (.string ⟨cb.toArray⟩) (.string ⟨ca.toArray⟩) (.string ⟨(ig).toArray⟩) (.slice none 0 0)
        unfold laidOver at m0 m1 m2 m3 m4 m5 m6 m7 hbut
        go_wp2
        refine bodyPost_ret (v := .agg #[.int .i64 kk, .int .i64 tt, .int .i64 pp, .int .i64 ss, .string ⟨cb.toArray⟩, .string ⟨ca.toArray⟩, .string ⟨(ig).toArray⟩, .slice none 0 0]) ?_ ?_ ?_
        · simp [results, Try.results15, go_sem, m0, m1, m2, m3, m4, m5, m6, m7]
        · rfl
        · refine ⟨.slice none 0 0, ?_, ?_, hk6.trans (hbut.below (by omega) hk6.size)⟩
          · rw [hrc.out, himg.out]; rfl
          · refine ⟨?_, ?_⟩
            · exact in_none
            · rw [HRD.out]; exact (show SlU _ (.slice none 0 0) [] from (Own.nil _ 0 46).sl)
    · have t1 : (kk == 7) = false := by rw [beq_eq_false_iff_ne]; exact hk7
      replace hk7 : Hid (¬ kk = 7) := Lib.hid hk7
      have hdir : Hid (SD.dirty = []) := by
        show _ = _
        have hk7 := hk7.out
        rw [hdy.out, if_neg (by rintro ⟨h1, h2⟩; have := List.length_pos_iff.2 h2; omega)]
      have hrd : SD.rc.dirty = [] := by rw [hrc.out]; exact hdir.out
      have HRD := Lib.hid hrd
      clear hrd
      obtain ⟨n0, n1, n2, n3, n4, n5, n6, n7⟩ := cells8 hz6
      obtain ⟨z0, z1, z2, z3, z4, z5, z6, z7⟩ := free8 hz6
      obtain ⟨m0, m1, m2, m3, m4, m5, m6, m7⟩ := cells8 (laidOver_at hz6 (.int .i64 kk) (.int .i64 tt) (.int .i64 pp) (.int .i64 ss) (.string ⟨cb.toArray⟩) (.string ⟨ca.toArray⟩) (.string ⟨(ig).toArray⟩) (.slice none 0 0))
      have hbut := laidOver_but w6 (w.heap.size + 1) (.int .i64 kk) (.int .i64 tt) (.int .i64 pp) (.int .i64 ss) (.string ⟨cb.toArray⟩) (.string ⟨ca.toArray⟩) (.string ⟨(ig).toArray⟩) (.slice none 0 0)
      unfold laidOver at m0 m1 m2 m3 m4 m5 m6 m7 hbut
      go_wp2
      refine bodyPost_ret (v := .agg #[.int .i64 kk, .int .i64 tt, .int .i64 pp, .int .i64 ss, .string ⟨cb.toArray⟩, .string ⟨ca.toArray⟩, .string ⟨(ig).toArray⟩, .slice none 0 0]) ?_ ?_ ?_
      · simp [results, Try.results15, go_sem, m0, m1, m2, m3, m4, m5, m6, m7]
      · rfl
      · refine ⟨.slice none 0 0, ?_, ?_, hk6.trans (hbut.below (by omega) hk6.size)⟩
        · rw [hrc.out, himg.out]; rfl
        · refine ⟨?_, ?_⟩
          · exact in_none
          · rw [HRD.out]; exact (show SlU _ (.slice none 0 0) [] from (Own.nil _ 0 46).sl)
theorem seed_any (s : Sd) (dv : Value) (w : World) (hd : SlU w dv s.d) : Calls Try.prog 15 #[.agg #[.int .i64 s.k, .int .i64 s.t, .int .i64 s.p, .int .i64 s.s, .int .u8 (s.b.toNat : Int), .int .u8 (s.a.toNat : Int), .int .u8 (s.i.toNat : Int), dv]] w fun e w' => ∃ dw, e = .returned (s.rc.val dw) ∧ SlU w' dw s.rc.dirty ∧ Keep w w' :=
  (seed_at s dv w hd).mono fun _ _ ⟨dw, h1, h2, h3⟩ => ⟨dw, h1, h2.2, h3⟩
end Go.Proofs.Ytlihieefjlpadaa
