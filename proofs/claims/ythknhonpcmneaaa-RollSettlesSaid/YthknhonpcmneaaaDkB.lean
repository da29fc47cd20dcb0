/- The walks of disk.Arm, New, Read. -/
import Derived.Test.YthknhonpcmneaaaDkA
import Derived.Test.YthknhonpcmneaaaChain
import Derived.Test.YthknhonpcmneaaaAdd0
import Derived.Deep.Cut
import Derived.Great.Walk
namespace Go.Proofs.Ythknhonpcmneaaa
open Go Go.RowKit
attribute [local irreducible] Go.wpQuiet

theorem DkAt.drew {w : World} {S : Nat → Prop} {p : Nat} {d : Dk} {gd gr : Nat} {vs : List Value} (h : DkAt w S p d gd gr vs) : DkAt w.drew S p d gd gr vs := h.at (fun _ _ => rfl) (Nat.le_refl _)
def Dk.arm (d : Dk) (r n : Int) : Dk := if d.there r 0 = true then d.setRg r.toNat ⟨(d.regs[r.toNat]?.getD emptyRg).waits, true, max n 0⟩ else d

set_option maxRecDepth 100000 in
set_option maxHeartbeats 4000000 in
theorem arm_any (p : Nat) (d : Dk) (r n : Int) (w : World) (S : Nat → Prop) (h : Dsk w S p d) (hn : n ≤ 9223372036854775807) : Calls Try.prog 15 #[.pointer (some ⟨p, 0, none⟩), .int .i64 r, .int .i64 n] w fun e w' => e = .returned (.tuple #[]) ∧ Dsk w' S p (d.arm r n) ∧ ButS w w' S := by
  have h0 := h
  obtain ⟨gd, gr, vs, h⟩ := h
  obtain ⟨c0, c1, c2, c3⟩ := h.heads
  obtain ⟨D, hD⟩ : ∃ D, d.arm r n = D := ⟨_, rfl⟩
  have HD := Lib.hid hD
  rw [hD]
  clear hD
  go_enter Try.func15, Try.ntmps15
  go_wp2_with fail
  refine (at_any p d r 0 w S h0).mono ?_
  rintro e w' ⟨rfl, rfl⟩
  by_cases ht : d.there r 0 = true
  rotate_left
  · have ht' : d.there r 0 = false := by simpa using ht
    rw [d.at_lt r 0 ht']
    have e : d.arm r n = d := by unfold Dk.arm; rw [if_neg ht]
    have e2 : D = d := HD.out.symm.trans e
    subst e2
    clear ht ht' e
    go_wp2
    exact Go.Great.bodyPost_end0 rfl rfl ⟨rfl, h0, ButS.refl _ _⟩
  obtain ⟨h1, h2, -, h3⟩ := (d.there_iff r 0).1 ht
  obtain ⟨q, rfl⟩ := Int.eq_ofNat_of_zero_le h1
  have hq : q < d.regs.length := by omega
  have hv : q < vs.length := by rw [h.len]; exact hq
  have e : d.arm (q : Int) n = d.setRg q ⟨d.regs[q].waits, true, max n 0⟩ := by
    unfold Dk.arm
    rw [if_pos ht, Int.toNat_natCast, List.getElem?_eq_getElem hq]
    rfl
  have e2 : D = _ := HD.out.symm.trans e
  subst e2
  have ea := d.at_pos q 0 hq (by have := h.ok.s1; omega)
  rw [show ((0 : Nat) : Int) = 0 from rfl] at ea
  rw [ea]
  have hge : ¬ (((q * d.size + 0 : Nat) : Int) < 0) := by omega
  have hge2 : (0 : Int) ≤ ((q * d.size + 0 : Nat) : Int) := by omega
  clear ht e ea h3 h1
  generalize q * d.size + 0 = Q at *
  have hrg := h.ok.rg d.regs[q] (List.getElem_mem hq)
  go_upto_region 1 with (fail)
  refine wp_region_ch 18 [none, none, none, none, none, none, none, none, none, none, none, none, none, none, some none, none, none, some none] (fun w' => w'.cell? ⟨p, 2, none⟩ = some (.slice (some ⟨gr, 0, none⟩) d.regs.length d.regs.length)) (by kernel_rfl) (by kernel_rfl) (by kernel_rfl) (by kernel_rfl) (c2) ?_
  refine chT_pure rfl ?_
  go_big_quiet_step (fail)
  refine chT_on ?_
  refine chT_same (v := .pointer (some ⟨p, 0, none⟩)) (by kernel_rfl) (fun w2 hC => by
    go_simp) ?_
  simp only [Act.put, List.setIfInBounds_toArray, List.set_cons_zero, List.set_cons_succ]
  refine chT_pure rfl ?_
  go_big_quiet_step (fail)
  refine chT_on ?_
  refine chT_same (v := .slice (some ⟨gr, 0, none⟩) d.regs.length d.regs.length) (by kernel_rfl) (fun w2 hC => by
    go_simp) ?_
  simp only [Act.put, List.setIfInBounds_toArray, List.set_cons_zero, List.set_cons_succ]
  refine chT_pure rfl ?_
  go_big_quiet_step (fail)
  refine chT_on ?_
  refine chT_pure rfl ?_
  go_big_quiet_step (fail)
  refine chT_on ?_
  refine chT_same (v := .pointer (some ⟨p, 0, none⟩)) (by kernel_rfl) (fun w2 hC => by
    go_simp) ?_
  simp only [Act.put, List.setIfInBounds_toArray, List.set_cons_zero, List.set_cons_succ]
  refine chT_pure rfl ?_
  go_big_quiet_step (fail)
  refine chT_on ?_
  refine chT_same (v := .slice (some ⟨gr, 0, none⟩) d.regs.length d.regs.length) (by kernel_rfl) (fun w2 hC => by
    go_simp) ?_
  simp only [Act.put, List.setIfInBounds_toArray, List.set_cons_zero, List.set_cons_succ]
  refine chT_pure rfl ?_
  go_big_quiet_step (fail)
  refine chT_on ?_
  refine chT_pure rfl ?_
  go_big_quiet_step (fail)
  refine chT_on ?_
  refine chT_same (v := .int .i64 (max n 0)) (by kernel_rfl) (fun w2 hC => by
    rcases Int.le_total n 0 with hh | hh
    · have e : max n 0 = 0 := Int.max_eq_right hh
      rw [e]
      go_simp
      try omega
    · have e : max n 0 = n := Int.max_eq_left hh
      rw [e]
      go_simp
      try omega) ?_
  simp only [Act.put, List.setIfInBounds_toArray, List.set_cons_zero, List.set_cons_succ]
  refine chT_pure rfl ?_
  go_big_quiet_step (fail)
  refine chT_on ?_
  refine chT_pure rfl ?_
  go_big_quiet_step (fail)
  refine chT_on ?_
  have hd0 := h.drew
  have hB0 : ButS w w.drew S := (ButS.refl w S).drew
  generalize w.drew = W0 at *
  obtain ⟨x0, x1, x2⟩ := hd0.region q hq hv
  have f1 := free_of hd0.regs (q * 3 + 1)
  refine chT_gives (by kernel_rfl) ?_
  refine Gives.skip (w' := W0.setCell ⟨gr, q * 3 + 1, none⟩ (.bool true)) (by go_simp) ?_
  have hd1 := hd0.setFlag q hq 1 (.bool true) ⟨d.regs[q].waits, true, d.regs[q].left⟩ (by decide) hv rfl rfl ⟨hrg.w, hrg.n, hrg.a⟩
  have hB1 := hB0.set ⟨gr, q * 3 + 1, none⟩ (.bool true) h.sr
  clear x0 x1 x2 f1 hd0 hB0
  generalize W0.setCell ⟨gr, q * 3 + 1, none⟩ (.bool true) = W1 at *
  have hq1 : q < (d.setRg q ⟨d.regs[q].waits, true, d.regs[q].left⟩).regs.length := by simpa [Dk.setRg] using hq
  have eg : (d.setRg q ⟨d.regs[q].waits, true, d.regs[q].left⟩).regs[q] = ⟨d.regs[q].waits, true, d.regs[q].left⟩ := by simp [Dk.setRg]
  have hl1 : (d.setRg q ⟨d.regs[q].waits, true, d.regs[q].left⟩).regs.length = d.regs.length := by simp [Dk.setRg]
  obtain ⟨-, -, cc, -⟩ := hd1.heads
  rw [hl1] at cc
  refine ⟨cc, ?_⟩
  obtain ⟨x0, x1, x2⟩ := hd1.region q hq1 hv
  have f1 := free_of hd1.regs (q * 3 + 2)
  clear cc
  simp only [Act.put, List.setIfInBounds_toArray, List.set_cons_zero, List.set_cons_succ]
  refine chT_pure rfl ?_
  go_big_quiet_step (fail)
  refine chT_on ?_
  refine chT_pure rfl ?_
  go_big_quiet_step (fail)
  refine chT_on ?_
  refine chT_gives (by kernel_rfl) ?_
  refine Gives.skip (w' := W1.setCell ⟨gr, q * 3 + 2, none⟩ (.int .i64 (max n 0))) (by go_simp) ?_
  have hd2 := hd1.setFlag q hq1 2 (.int .i64 (max n 0)) ⟨d.regs[q].waits, true, max n 0⟩ (by decide) hv (by rw [eg]; rfl) (by rw [eg]) ⟨hrg.w, hrg.n, by simp only; omega, by simp only; omega⟩
  have e3 : (d.setRg q ⟨d.regs[q].waits, true, d.regs[q].left⟩).setRg q ⟨d.regs[q].waits, true, max n 0⟩ = d.setRg q ⟨d.regs[q].waits, true, max n 0⟩ := by unfold Dk.setRg; simp [List.set_set]
  rw [e3] at hd2
  have hB2 := hB1.set ⟨gr, q * 3 + 2, none⟩ (.int .i64 (max n 0)) h.sr
  clear x0 x1 x2 f1 hd1 hB1
  generalize W1.setCell ⟨gr, q * 3 + 2, none⟩ (.int .i64 (max n 0)) = W2 at *
  obtain ⟨-, -, cc, -⟩ := hd2.heads
  have hl2 : (d.setRg q ⟨d.regs[q].waits, true, max n 0⟩).regs.length = d.regs.length := by simp [Dk.setRg]
  rw [hl2] at cc
  refine ⟨cc, ?_⟩
  clear cc
  simp only [Act.put, List.setIfInBounds_toArray, List.set_cons_zero, List.set_cons_succ]
  refine chT_done ?_
  refine seqW_done ?_
  go_wp2
  exact Go.Great.bodyPost_end0 rfl rfl ⟨rfl, ⟨gd, gr, vs, hd2⟩, hB2⟩

theorem Gives.makeK {P : Program} {t e : TypeId} {z : Value} {k bytes : Nat} (E : ElemK P t e z k bytes) {o : Oper} {a : Act} {w : World} {S : Value → World → Prop} (x y : Operand) (n : Nat)
    (ho : o.op = .makeSlice t x y) (hx : a.eval x = .int .i64 n) (hy : a.eval y = .int .i64 n) (hn : bytes * n ≤ 281474976710656) (hm : n ≤ 1000000000)
    (h : S (.slice (some ⟨w.heap.size, 0, none⟩) n n) (w.alloc (.cells (madeCells z.cells (n * k)) e))) : Gives P o a w S := by
  obtain ⟨i, hi, hz, hs, hb⟩ := E.hi
  have hr := run_make (P := P) w t e i z E.ht hi hz .i64 .i64 n n (by omega) (Int.le_refl _) (by
    have h1 : ((bytes * n : Nat) : Int) ≤ ((281474976710656 : Nat) : Int) := Int.ofNat_le.2 hn
    rw [Int.natCast_mul] at h1
    rw [hb]
    exact h1) (by omega)
  rw [hs, Int.toNat_natCast] at hr
  refine Gives.value ?_ h
  unfold execOp
  simp only [ho, Sem.run_bind, hx, hy, hr, Result.andThen_ok]
  rfl
/-- new memory as a slice -/
def tMade (base n : Nat) (o : Obj) : Tells Keep := ⟨fun v w => ∃ g, v = .slice (some ⟨g, 0, none⟩) n n ∧ base ≤ g ∧ w.heap[g]? = some o, fun _ _ _ hk ⟨g, h1, h2, h3⟩ => ⟨g, h1, h2, (hk.block g (Array.getElem?_eq_some_iff.1 h3).1).trans h3⟩⟩
def tNewD (base n s N : Nat) : Tells Keep := ⟨fun v w => ∃ g gd gr, v = .pointer (some ⟨g, 0, none⟩) ∧ base ≤ g ∧ base ≤ gd ∧ base ≤ gr ∧ w.heap[g]? = some (.cells #[.int .i64 s, .slice (some ⟨gd, 0, none⟩) N N, .slice (some ⟨gr, 0, none⟩) n n, .int .i64 0] 52) ∧ w.heap[gd]? = some (.cells (madeCells (Value.agg ((zB 64).map B).toArray).cells (N * 64)) 64) ∧ w.heap[gr]? = some (.cells (madeCells (Value.agg #[.slice none 0 0, .bool false, .int .i64 0]).cells (n * 3)) 57),
  fun _ _ _ hk ⟨g, gd, gr, h1, h2, h3, h4, h5, h6, h7⟩ => ⟨g, gd, gr, h1, h2, h3, h4, (hk.block g (Array.getElem?_eq_some_iff.1 h5).1).trans h5, (hk.block gd (Array.getElem?_eq_some_iff.1 h6).1).trans h6, (hk.block gr (Array.getElem?_eq_some_iff.1 h7).1).trans h7⟩⟩
theorem elemSec : ElemK Try.prog 49 64 (.agg ((zB 64).map B).toArray) 64 64 := ElemK.of Try.underlying49 (by kernel_rfl) (by simp [Value.cells, zB]) (by decide)
theorem elemRg : ElemK Try.prog 50 57 (.agg #[.slice none 0 0, .bool false, .int .i64 0]) 3 40 := ElemK.of Try.underlying50 (by kernel_rfl) rfl (by decide)
theorem made_rep (k n : Nat) (hk : 0 < k) (v : Value) : madeCells (List.replicate k v).toArray (n * k) = (List.replicate (n * k) v).toArray := by
  apply Array.ext'
  apply List.ext_getElem
  · simp [madeCells]
  · intro i h1 h2
    have hm : i % k < k := Nat.mod_lt _ hk
    simp [madeCells, hm]
theorem made_data (n : Nat) : madeCells (Value.agg ((zB 64).map B).toArray).cells (n * 64) = ((List.replicate n (List.replicate 64 (0 : UInt8))).flatten.map B).toArray := by
  rw [List.flatten_replicate_replicate, List.map_replicate]
  have e : ((zB 64).map B).toArray = (List.replicate 64 (B 0)).toArray := by unfold zB; rw [List.map_replicate]
  show madeCells ((zB 64).map B).toArray (n * 64) = _
  rw [e]
  exact made_rep 64 n (by decide) (B 0)
theorem made_regs (n : Nat) : madeCells (Value.agg #[.slice none 0 0, .bool false, .int .i64 0]).cells (n * 3) = ((List.zipWith rgC (List.replicate n (.slice none 0 0)) (List.replicate n emptyRg)).flatten).toArray := by
  rw [List.zipWith_replicate, Nat.min_self]
  apply Array.ext'
  show ((Array.range (n * 3)).map _).toList = _
  rw [Array.toList_map, Array.toList_range]
  simp only [List.toList_toArray]
  induction n with
  | zero => rfl
  | succ n ih =>
    rw [show (n + 1) * 3 = n * 3 + 1 + 1 + 1 by omega, List.range_succ, List.range_succ, List.range_succ, List.replicate_succ', List.flatten_append, ← ih]
    have m0 : n * 3 % 3 = 0 := by omega
    have m1 : (n * 3 + 1) % 3 = 1 := by omega
    have m2 : (n * 3 + 1 + 1) % 3 = 2 := by omega
    simp [Value.cells, m0, m1, m2, rgC, emptyRg]
theorem new_bad (n s : Int) (w : World) (h : n < 1 ∨ 64 < n ∨ s < 1 ∨ 65536 < s) : Calls Try.prog 7 #[.int .i64 n, .int .i64 s] w fun e w' => e = .returned (.pointer none) ∧ w = w' := by
  go_enter Try.func7, Try.ntmps7
  by_cases h1 : n < 1
  · clear h
    go_wp2
    go_ret
    exact ⟨rfl, rfl⟩
  by_cases h2 : 64 < n
  · clear h
    go_wp2
    go_ret
    exact ⟨rfl, rfl⟩
  by_cases h3 : s < 1
  · clear h
    go_wp2
    go_ret
    exact ⟨rfl, rfl⟩
  have h4 : 65536 < s := by omega
  clear h
  go_wp2
  go_ret
  exact ⟨rfl, rfl⟩
set_option maxRecDepth 100000 in
set_option maxHeartbeats 4000000 in
theorem newDk_any (n s : Nat) (w : World) (hn1 : 1 ≤ n) (hn2 : n ≤ 64) (hs1 : 1 ≤ s) (hs2 : s ≤ 65536) : Calls Try.prog 7 #[.int .i64 n, .int .i64 s] w fun e w' => ∃ p, e = .returned (.pointer (some ⟨p, 0, none⟩)) ∧ Dsk w' (fun b => w.heap.size ≤ b ∧ b < w'.heap.size) p (newD n s) ∧ Keep w w' := by
  go_enter Try.func7, Try.ntmps7
  have h1 : ¬ ((n : Int) < 1) := by omega
  have h2 : ¬ ((64 : Int) < (n : Int)) := by omega
  have h3 : ¬ ((s : Int) < 1) := by omega
  have h4 : ¬ ((65536 : Int) < (s : Int)) := by omega
  have hns : n * s ≤ 64 * 65536 := Nat.mul_le_mul hn2 hs2
  obtain ⟨N, hN⟩ : ∃ N, N = n * s := ⟨_, rfl⟩
  have hnz : (n : Int) * (s : Int) = (N : Int) := by rw [hN]; simp
  have HN := Lib.hid hN
  have hN2 : N ≤ 64 * 65536 := by omega
  clear hN
  go_upto_region 3 with (fail)
  clear h1 h2 h3 h4
  refine wp_region_dag' (C := fun w' => Keep w w') (R := Keep) [none, none, none, none, some (tMade w.heap.size N (.cells (madeCells (Value.agg ((zB 64).map B).toArray).cells (N * 64)) 64)), none, some (tMade w.heap.size n (.cells (madeCells (Value.agg #[.slice none 0 0, .bool false, .int .i64 0]).cells (n * 3)) 57)), none, some (tNewD w.heap.size n s N), none]
    (by kernel_rfl) (by kernel_rfl) (Keep.refl w).drew ?_
  refine dagT_pure rfl ?_
  go_big_quiet_step (fail)
  refine dagT_on ?_
  refine dagT_pure rfl ?_
  go_big_quiet_step (fail)
  refine dagT_on ?_
  refine dagT_pure rfl ?_
  go_big_quiet_step (fail)
  refine dagT_on ?_
  refine dagT_pure rfl ?_
  go_big_quiet_step (fail)
  refine dagT_on ?_
  refine dagT_told (by kernel_rfl) ?_ ?_
  · intro w2 hC hF
    have hka := Keep.alloc w2 (.cells (madeCells (Value.agg ((zB 64).map B).toArray).cells (N * 64)) 64)
    exact Gives.makeK elemSec _ _ N rfl (by go_simp) (by go_simp) (by omega) (by omega) ⟨hC.trans' hka, hka, w2.heap.size, rfl, hC.size, heap_alloc_new w2 _⟩
  intro v4 w2 hC hF hv4
  clear hC hF
  obtain ⟨gd, rfl, -⟩ := hv4
  simp only [Act.put, List.setIfInBounds_toArray, List.set_cons_zero, List.set_cons_succ]
  refine dagT_pure rfl ?_
  go_big_quiet_step (fail)
  refine dagT_on ?_
  refine dagT_told (by kernel_rfl) ?_ ?_
  · intro w2 hC hF
    have hka := Keep.alloc w2 (.cells (madeCells (Value.agg #[.slice none 0 0, .bool false, .int .i64 0]).cells (n * 3)) 57)
    exact Gives.makeK elemRg _ _ n rfl (by go_simp) (by go_simp) (by omega) (by omega) ⟨hC.trans' hka, hka, w2.heap.size, rfl, hC.size, heap_alloc_new w2 _⟩
  intro v6 w2 hC hF hv6
  clear hC hF
  obtain ⟨gr, rfl, -⟩ := hv6
  simp only [Act.put, List.setIfInBounds_toArray, List.set_cons_zero, List.set_cons_succ]
  refine dagT_pure rfl ?_
  go_big_quiet_step (fail)
  refine dagT_on ?_
  refine dagT_told (by kernel_rfl) ?_ ?_
  · intro w2 hC hF
    obtain ⟨g4, e4, l4, o4⟩ := ((hF 4 (by kernel_rfl)).2.1 rfl)
    obtain ⟨g6, e6, l6, o6⟩ := ((hF 6 (by kernel_rfl)).1 rfl)
    simp only [Value.slice.injEq, Option.some.injEq, Addr.mk.injEq, and_true] at e4 e6
    subst e4 e6
    have hka := Keep.alloc w2 (.cells #[.int .i64 s, .slice (some ⟨gd, 0, none⟩) N N, .slice (some ⟨gr, 0, none⟩) n n, .int .i64 0] 52)
    exact Gives.value (v := .pointer (some ⟨w2.heap.size, 0, none⟩)) (w' := w2.alloc (.cells #[.int .i64 s, .slice (some ⟨gd, 0, none⟩) N N, .slice (some ⟨gr, 0, none⟩) n n, .int .i64 0] 52)) (by go_simp) ⟨hC.trans' hka, hka, w2.heap.size, gd, gr, rfl, hC.size, l4, l6, heap_alloc_new w2 _, (hka.block _ (Array.getElem?_eq_some_iff.1 o4).1).trans o4, (hka.block _ (Array.getElem?_eq_some_iff.1 o6).1).trans o6⟩
  intro v8 w2 hC hF hv8
  clear hC hF
  obtain ⟨p0, -, -, rfl, -⟩ := hv8
  simp only [Act.put, List.setIfInBounds_toArray, List.set_cons_zero, List.set_cons_succ]
  refine dagT_pure rfl ?_
  go_big_quiet_step (fail)
  refine dagT_on ?_
  refine dagT_done fun w2 hC hF => ?_
  obtain ⟨p, gd, gr, e8, l8, l4, l6, o8, o4, o6⟩ := ((hF 8).1 rfl)
  clear hF
  simp only [Value.pointer.injEq, Option.some.injEq, Addr.mk.injEq, and_true] at e8
  subst e8
  have hD : DkAt w2 (fun b => w.heap.size ≤ b ∧ b < w2.heap.size) p0 (newD n s) gd gr (List.replicate n (.slice none 0 0)) := by
    have b4 := (Array.getElem?_eq_some_iff.1 o4).1
    have b6 := (Array.getElem?_eq_some_iff.1 o6).1
    have b8 := (Array.getElem?_eq_some_iff.1 o8).1
    refine ⟨newD_ok n s hn1 hn2 hs1 hs2, ?_, ?_, ?_, by simp [newD], ⟨l8, b8⟩, ⟨l4, b4⟩, ⟨l6, b6⟩, ?_, ?_, ?_, fun i hi hi' => ?_, fun i hi b e => ?_, fun b hb => hb.2⟩
    · rw [o8]
      simp [newD, HN.out]
    · rw [o4, made_data N, HN.out]
      rfl
    · rw [o6, made_regs n]
      rfl
    · intro e; subst e; rw [o4] at o8; simp at o8
    · intro e; subst e; rw [o6] at o8; simp at o8
    · intro e; subst e; rw [o4] at o6; simp at o6
    · have e1 : (List.replicate n (Value.slice none 0 0))[i]'hi = .slice none 0 0 := by simp
      have e2 : ((newD n s).regs[i]'hi').waits = [] := by simp [newD, emptyRg]
      rw [e1, e2]
      exact OwnK.nil _ _ _ _
    · have e1 : (List.replicate n (Value.slice none 0 0))[i]'hi = .slice none 0 0 := by simp
      rw [e1] at e
      cases e
  clear hnz
  go_wp2
  go_ret
  exact ⟨p0, rfl, ⟨gd, gr, _, hD⟩, hC⟩
end Go.Proofs.Ythknhonpcmneaaa
