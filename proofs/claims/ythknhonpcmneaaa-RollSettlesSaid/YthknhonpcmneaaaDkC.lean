/- The walks of disk.Read, keep, Barrier, Crash. -/
import Derived.Test.YthknhonpcmneaaaDkB
import Derived.Test.YthknhonpcmneaaaWhereK
import Derived.Test.YthknhonpcmneaaaElB
namespace Go.Proofs.Ythknhonpcmneaaa
open Go Go.RowKit
attribute [local irreducible] Go.wpQuiet

theorem Dsk.ok {w : World} {S : Nat → Prop} {p : Nat} {d : Dk} (h : Dsk w S p d) : d.Ok := by
  obtain ⟨gd, gr, vs, h⟩ := h
  exact h.ok
def Dk.readI (d : Dk) (r s : Int) : List UInt8 := if d.there r s = true then d.read r.toNat s.toNat else []
theorem Dk.read_length (d : Dk) (h : d.Ok) (r s : Nat) (hr : r < d.regs.length) (hs : s < d.size) : (d.read r s).length = 64 := by
  have e : d.regs[r]?.getD emptyRg = d.regs[r] := by rw [List.getElem?_eq_getElem hr]; rfl
  have hg := h.rg d.regs[r] (List.getElem_mem hr)
  have hi : r * d.size + s < d.data.length := by
    have h1 : r * d.size + d.size ≤ d.regs.length * d.size := by
      rw [← Nat.succ_mul]
      exact Nat.mul_le_mul_right _ hr
    have := h.len
    omega
  unfold Dk.read
  rw [e]
  have hb : (d.data.getD (r * d.size + s) []).length = 64 := by
    rw [List.getD_eq_getElem?_getD, List.getElem?_eq_getElem hi]
    exact h.each _ (List.getElem_mem hi)
  have : ∀ (l : List (Nat × List UInt8)) (o : List UInt8), (∀ x ∈ l, x.2.length = 64) → o.length = 64 → (lastW l s o).length = 64 := by
    intro l
    induction l with
    | nil => intro o _ h; exact h
    | cons x l ih =>
      intro o hl ho
      unfold lastW
      rw [List.foldl_cons]
      refine ih _ (fun y hy => hl y (List.mem_cons_of_mem _ hy)) ?_
      split
      · exact hl x List.mem_cons_self
      · exact ho
  exact this _ _ (fun x hx => (hg.w x hx).2) hb
theorem Dk.pos_lt (d : Dk) (h : d.Ok) (r s : Nat) (hr : r < d.regs.length) (hs : s < d.size) : r * d.size + s < d.data.length := by
  have h1 : r * d.size + d.size ≤ d.regs.length * d.size := by
    rw [← Nat.succ_mul]
    exact Nat.mul_le_mul_right _ hr
  have := h.len
  omega

set_option maxRecDepth 100000 in
set_option maxHeartbeats 4000000 in
theorem read_any (p : Nat) (d : Dk) (r s : Int) (w : World) (S : Nat → Prop) (h : Dsk w S p d) : Calls Try.prog 14 #[.pointer (some ⟨p, 0, none⟩), .int .i64 r, .int .i64 s] w fun e w' => ∃ v', e = .returned (.tuple #[v', .int .i64 (if d.there r s = true then 0 else 1)]) ∧ Own w' w.heap.size 5 v' ((d.readI r s).map B) ∧ Keep w w' := by
  have h0 := h
  obtain ⟨gd, gr, vs, h⟩ := h
  obtain ⟨c0, c1, c2, c3⟩ := h.heads
  obtain ⟨D, hD⟩ : ∃ D, d.readI r s = D := ⟨_, rfl⟩
  have HD := Lib.hid hD
  rw [hD]
  clear hD
  obtain ⟨E, hE⟩ : ∃ E : Int, (if d.there r s = true then 0 else 1) = E := ⟨_, rfl⟩
  have HE := Lib.hid hE
  rw [hE]
  clear hE
  go_enter Try.func14, Try.ntmps14
  go_wp2_with fail
  refine (at_any p d r s w S h0).mono ?_
  rintro e w' ⟨rfl, rfl⟩
  by_cases ht : d.there r s = true
  rotate_left
  · have ht' : d.there r s = false := by simpa using ht
    rw [d.at_lt r s ht']
    have e : d.readI r s = [] := by unfold Dk.readI; rw [if_neg ht]
    have e2 : D = [] := HD.out.symm.trans e
    have e3 : E = 1 := by rw [← HE.out, if_neg ht]
    subst e2
    subst e3
    clear ht ht' e
    go_wp2
    exact bodyPost_ret (v := .tuple #[.slice none 0 0, .int .i64 1]) (by simp [results, Try.results14, go_sem]) rfl ⟨_, rfl, Own.nil _ _ _, Keep.refl _⟩
  have e3 : E = 0 := by rw [← HE.out, if_pos ht]
  subst e3
  obtain ⟨h1, h2, h3, h4⟩ := (d.there_iff r s).1 ht
  obtain ⟨q, rfl⟩ := Int.eq_ofNat_of_zero_le h1
  obtain ⟨t, rfl⟩ := Int.eq_ofNat_of_zero_le h3
  have hq : q < d.regs.length := by omega
  have hs : t < d.size := by omega
  have hv : q < vs.length := by rw [h.len]; exact hq
  obtain ⟨x0, x1, x2⟩ := h.region q hq hv
  obtain ⟨wa, wc, hwv, hwc⟩ := h.waitsAt q hq hv
  rw [hwv] at x0
  have hrd : D = d.read q t := by
    rw [← HD.out]
    unfold Dk.readI
    rw [if_pos ht]
    simp
  have HRD := Lib.hid hrd
  have ea := d.at_pos q t hq hs
  rw [ea]
  have hpos := d.pos_lt h.ok q t hq hs
  have hpl : d.data.length ≤ 64 * 65536 := by rw [h.ok.len]; exact Nat.mul_le_mul h.ok.r2 h.ok.s2
  have hEE : d.regs[q]?.getD emptyRg = d.regs[q] := by rw [List.getElem?_eq_getElem hq]; rfl
  have hrd2 : d.read q t = lastW d.regs[q].waits t (d.data[q * d.size + t]'hpos) := by
    unfold Dk.read
    rw [hEE, List.getD_eq_getElem?_getD, List.getElem?_eq_getElem hpos]
    rfl
  have HR2 := Lib.hid hrd2
  have hsec := h.sector (q * d.size + t) hpos
  have hwn := (h.ok.rg d.regs[q] (List.getElem_mem hq)).n
  have HW := Lib.hid (fun k hk => h.wait q hq hv k hk)
  clear ht ea h1 h3 h4 hrd hrd2 hEE x1 x2
  generalize hPd : d.data[q * d.size + t]'hpos = BD at *
  clear hPd
  generalize q * d.size + t = Q at *
  go_wp2
  go_loop [10] (fun kv => ∃ m : Nat, m ≤ d.regs[q].waits.length ∧ kv = .int .i64 ((m : Int) - 1) ∧ Hid (∀ j (h : j < d.regs[q].waits.length), m ≤ j → (d.regs[q].waits[j]).1 ≠ t)) (fun kv => (intOf kv + 1).toNat)
  case atStart => exact ⟨d.regs[q].waits.length, Nat.le_refl _, by first | rfl | go_num, Lib.hid (fun j h hj => absurd h (by omega))⟩
  case round =>
    obtain ⟨m, hm, rfl, hno⟩ := hrel
    cases m with
    | zero =>
      have hlast : lastW d.regs[q].waits t BD = BD := lastW_none _ _ _ fun x hx => by
        obtain ⟨i, hi, rfl⟩ := List.mem_iff_getElem.1 hx
        exact hno.out i hi (Nat.zero_le _)
      have hDD : D = BD := by rw [HRD.out, HR2.out, hlast]
      subst hDD
      clear hlast
      go_upto_region 10 with (fail)
      have hll := Dk.read_length d h.ok q t hq hs
      rw [← HRD.out] at hll
      have hQi : (Q : Int) < (d.data.length : Int) := by omega
      refine wp_region_seq ?_
      refine seqW_pure rfl ?_
      go_big_quiet_step (fail)
      refine seqW_on ?_
      refine seqW_gives (by kernel_rfl) ?_
      refine Gives.value (v := .pointer (some ⟨p, 0, none⟩)) (w' := w) (by go_simp) ?_
      simp only [Act.put, List.setIfInBounds_toArray, List.set_cons_zero, List.set_cons_succ]
      refine seqW_pure rfl ?_
      go_big_quiet_step (fail)
      refine seqW_on ?_
      refine seqW_gives (by kernel_rfl) ?_
      refine Gives.value (v := .slice (some ⟨gd, 0, none⟩) d.data.length d.data.length) (w' := w) (by go_simp) ?_
      simp only [Act.put, List.setIfInBounds_toArray, List.set_cons_zero, List.set_cons_succ]
      refine seqW_pure rfl ?_
      go_big_quiet_step (fail)
      refine seqW_on ?_
      refine seqW_pure rfl ?_
      go_big_quiet_step (fail)
      refine seqW_on ?_
      refine seqW_pure rfl ?_
      go_big_quiet_step (fail)
      refine seqW_on ?_
      refine seqW_gives (by kernel_rfl) ?_
      refine Gives.appendB elemB _ _ rfl rfl rfl (l := []) (k := D) (base := w.heap.size) (Own.nil _ _ _) hsec (by simp; omega) (Nat.le_refl _) ?_
      intro v' w' hO hgr
      have hkA : Keep w w' := (Keep.refl _).grown hgr (Nat.le_refl _) (fun j hj => by cases hj)
      rw [List.nil_append] at hO
      obtain ⟨a1, n1, c1', rfl⟩ := hO.slB.shape
      clear hgr
      simp only [Act.put, List.setIfInBounds_toArray, List.set_cons_zero, List.set_cons_succ]
      refine seqW_pure rfl ?_
      go_big_quiet_step (fail)
      refine seqW_on ?_
      refine seqW_pure rfl ?_
      go_big_quiet_step (fail)
      refine seqW_on ?_
      refine seqW_done ?_
      go_wp2
      exact bodyPost_ret (v := .tuple #[.slice a1 n1 c1', .int .i64 0]) (by simp [results, Try.results14, go_sem]) rfl ⟨_, rfl, hO, hkA⟩
    | succ k =>
      have hk : k < d.regs[q].waits.length := by omega
      obtain ⟨g, n, cap, e1, e2, hall, hc0, hcs⟩ := HW.out k hk
      rw [hwv] at e1
      simp only [Value.slice.injEq] at e1
      obtain ⟨rfl, rfl, rfl⟩ := e1
      by_cases hst : (d.regs[q].waits[k]).1 = t
      · have tt : (((d.regs[q].waits[k]).1 : Int) == (t : Int)) = true := by rw [beq_iff_eq]; omega
        have hlast : lastW d.regs[q].waits t BD = (d.regs[q].waits[k]).2 := lastW_at _ _ _ k hk hst fun j hj hkj => hno.out j hj hkj
        have hDD : D = (d.regs[q].waits[k]).2 := by rw [HRD.out, HR2.out, hlast]
        subst hDD
        clear hlast hst
        have hk1 : (((k + 1 : Nat) : Int) - 1) = (k : Int) := by omega
        have hkn : (k : Int) < (d.regs[q].waits.length : Int) := by omega
        go_upto_region 9 with (fail)
        have hll := Dk.read_length d h.ok q t hq hs
        rw [← HRD.out] at hll
        refine wp_region_seq ?_
        refine seqW_pure rfl ?_
        go_big_quiet_step (fail)
        refine seqW_on ?_
        refine seqW_pure rfl ?_
        go_big_quiet_step (fail)
        refine seqW_on ?_
        refine seqW_pure rfl ?_
        go_big_quiet_step (fail)
        refine seqW_on ?_
        refine seqW_pure rfl ?_
        go_big_quiet_step (fail)
        refine seqW_on ?_
        refine seqW_pure rfl ?_
        go_big_quiet_step (fail)
        refine seqW_on ?_
        refine seqW_gives (by kernel_rfl) ?_
        refine Gives.appendB elemB _ _ rfl rfl rfl (l := []) (k := (d.regs[q].waits[k]).2) (base := w.heap.size) (Own.nil _ _ _) hcs (by simp; omega) (Nat.le_refl _) ?_
        intro v' w' hO hgr
        have hkA : Keep w w' := (Keep.refl _).grown hgr (Nat.le_refl _) (fun j hj => by cases hj)
        rw [List.nil_append] at hO
        obtain ⟨a1, n1, c1', rfl⟩ := hO.slB.shape
        clear hgr
        simp only [Act.put, List.setIfInBounds_toArray, List.set_cons_zero, List.set_cons_succ]
        refine seqW_pure rfl ?_
        go_big_quiet_step (fail)
        refine seqW_on ?_
        refine seqW_pure rfl ?_
        go_big_quiet_step (fail)
        refine seqW_on ?_
        refine seqW_done ?_
        go_wp2
        exact bodyPost_ret (v := .tuple #[.slice a1 n1 c1', .int .i64 0]) (by simp [results, Try.results14, go_sem]) rfl ⟨_, rfl, hO, hkA⟩
      · have tt : (((d.regs[q].waits[k]).1 : Int) == (t : Int)) = false := by rw [beq_eq_false_iff_ne]; omega
        have hst' := Lib.hid hst
        clear hst
        have hk1 : (((k + 1 : Nat) : Int) - 1) = (k : Int) := by omega
        have hkn : (k : Int) < (d.regs[q].waits.length : Int) := by omega
        go_wp2
        go_round
        case rel => exact ⟨k, by omega, by first | rfl | go_num, Lib.hid (fun j h hj => by
          rcases Nat.lt_or_ge k j with h1 | h1
          · exact hno.out j h h1
          · have e : j = k := by omega
            subst e
            exact hst'.out)⟩
        case measure => first | (simp [intOf]; done) | (simp [intOf]; omega)

theorem bigW : BigOk Try.prog 66 65 (.int .i64 0 :: (zB 64).map B) := BigOk.of (.inl ⟨_, Try.underlying66⟩) (by kernel_rfl)
theorem bigS : BigOk Try.prog 64 64 ((zB 64).map B) := BigOk.of (.inr ⟨_, _, Try.underlying64⟩) (by kernel_rfl)
theorem and_63 (k : Nat) (h : k < 9223372036854775808) : Go.bits .and .i64 (k : Int) 63 = ((k % 64 : Nat) : Int) := by
  have e : Go.bits .and .i64 (k : Int) 63 = IntKind.i64.wrap ((((BitVec.ofInt 64 (k : Int)) &&& (BitVec.ofInt 64 ((63 : Nat) : Int))).toNat : Nat) : Int) := rfl
  rw [e, BitVec.ofInt_natCast, BitVec.ofInt_natCast, BitVec.toNat_and, BitVec.toNat_ofNat, BitVec.toNat_ofNat, Nat.mod_eq_of_lt (by omega), Nat.mod_eq_of_lt (by decide), show (63 : Nat) = 2 ^ 6 - 1 from rfl, Nat.and_two_pow_sub_one_eq_mod, IntKind.wrap_i64]
  omega
theorem bit_test (mask K : Nat) (hm : mask < 18446744073709551616) : (Go.bits .and .u64 ((mask : Int) / 2 ^ K) 1 == 1) = mask.testBit K := by
  have e0 : (mask : Int) / 2 ^ K = ((mask / 2 ^ K : Nat) : Int) := by simp
  have hlt : mask / 2 ^ K < 18446744073709551616 := Nat.lt_of_le_of_lt (Nat.div_le_self _ _) hm
  rw [e0, Nat.testBit_eq_decide_div_mod_eq]
  generalize mask / 2 ^ K = x at *
  have e : Go.bits .and .u64 (x : Int) 1 = IntKind.u64.wrap ((((BitVec.ofInt 64 (x : Int)) &&& (BitVec.ofInt 64 ((1 : Nat) : Int))).toNat : Nat) : Int) := rfl
  have e1 : Go.bits .and .u64 (x : Int) 1 = ((x % 2 : Nat) : Int) := by
    rw [e, BitVec.ofInt_natCast, BitVec.ofInt_natCast, BitVec.toNat_and, BitVec.toNat_ofNat, BitVec.toNat_ofNat, Nat.mod_eq_of_lt (by omega), Nat.mod_eq_of_lt (by decide), Nat.and_one_is_mod, IntKind.wrap_u64]
    omega
  rw [e1, Bool.eq_iff_iff, beq_iff_eq, decide_eq_true_eq]
  omega
theorem wrC_one (x : Nat × List UInt8) : ∀ v ∈ wrC x, v.oneCell' = true := by
  intro v hv
  rcases List.mem_cons.1 hv with rfl | h
  · rfl
  · exact B_oneCell x.2 v h
theorem zW_length : (Value.int .i64 0 :: (zB 64).map B).length = 65 := by simp [zB]

set_option maxRecDepth 100000 in
set_option maxHeartbeats 4000000 in
theorem keep_any (p : Nat) (d : Dk) (q : Nat) (mask : Nat) (w : World) (S : Nat → Prop) (h : Dsk w S p d) (hq : q < d.regs.length) (hm : mask < 18446744073709551616) : Calls Try.prog 18 #[.pointer (some ⟨p, 0, none⟩), .int .i64 q, .int .u64 mask] w fun e w' => e = .returned (.tuple #[]) ∧ Dsk w' S p (d.keep q mask) ∧ ButS w w' S := by
  obtain ⟨gd, gr, vs, h⟩ := h
  obtain ⟨c0, c1, c2, c3⟩ := h.heads
  have hv : q < vs.length := by rw [h.len]; exact hq
  obtain ⟨x0, x1, x2⟩ := h.region q hq hv
  obtain ⟨wa, wc, hwv, hwc⟩ := h.waitsAt q hq hv
  rw [hwv] at x0
  have hwn := (h.ok.rg d.regs[q] (List.getElem_mem hq)).n
  have hwo := (h.ok.rg d.regs[q] (List.getElem_mem hq)).w
  have HEE := Lib.hid (show d.regs[q]?.getD emptyRg = d.regs[q] by rw [List.getElem?_eq_getElem hq]; rfl)
  go_enter Try.func18, Try.ntmps18
  go_wp2
  go_loopw [20] (fun i wr => ∃ k : Nat, k ≤ d.regs[q].waits.length ∧ i = .int .i64 k ∧ DkAt wr S p { d with data := keepD mask (q * d.size) (d.regs[q].waits.take k) d.data } gd gr vs ∧ ButS w wr S) (fun i _ => d.regs[q].waits.length - (intOf i).toNat)
  case atStart => exact ⟨0, Nat.zero_le _, rfl, by simpa [keepD] using h, ButS.refl _ _⟩
  case round =>
    obtain ⟨k, hkn, rfl, hd, hB⟩ := hrel
    by_cases hk : k < d.regs[q].waits.length
    rotate_left
    · have hjd : ¬ ((k : Int) < (d.regs[q].waits.length : Int)) := by omega
      have hkk : d.regs[q].waits.take k = d.regs[q].waits := List.take_of_length_le (by omega)
      rw [hkk] at hd
      clear hk hkk
      obtain ⟨-, -, c2', -⟩ := hd.heads
      obtain ⟨y0, -, -⟩ := hd.region q hq hv
      have f0 := free_of hd.regs (q * 3)
      have hg := hd.ok.rg d.regs[q] (List.getElem_mem hq)
      have hd5 := hd.setWaits q hq hv (.slice none 0 0) [] ⟨fun y hy => by simp at hy, by simp, hg.a⟩ (OwnK.nil _ _ _ _) (fun b hb => by cases hb)
      have hB5 := hB.set ⟨gr, q * 3, none⟩ (.slice none 0 0) h.sr
      have hfin : ({ d with data := keepD mask (q * d.size) d.regs[q].waits d.data } : Dk).setRg q ⟨[], d.regs[q].armed, d.regs[q].left⟩ = d.keep q mask := by
        unfold Dk.keep Dk.setRg
        rw [HEE.out]
      have HF := Lib.hid hfin
      clear hfin
      go_wp2
      exact Go.Great.bodyPost_end0 rfl rfl ⟨rfl, ⟨gd, gr, _, by rw [← HF.out]; exact hd5⟩, hB5⟩
    have hjd : (k : Int) < (d.regs[q].waits.length : Int) := by omega
    obtain ⟨g, n, cap, e1, e2, hall, hc0, hcs⟩ := hd.wait q hq hv k hk
    rw [hwv] at e1
    simp only [Value.slice.injEq] at e1
    obtain ⟨rfl, rfl, rfl⟩ := e1
    have HT := Lib.hid (keepD_take mask (q * d.size) d.regs[q].waits d.data k hk)
    have hox := hwo d.regs[q].waits[k] (List.getElem_mem hk)
    generalize hx : d.regs[q].waits[k]'hk = x at *
    go_upto_region 3 with (fail)
    refine wp_region_seq ?_
    refine seqW_pure rfl ?_
    go_big_quiet_step (fail)
    refine seqW_on ?_
    refine seqW_pure rfl ?_
    go_big_quiet_step (fail)
    refine seqW_on ?_
    refine seqW_gives (by kernel_rfl) ?_
    refine Gives.loadBig bigW _ rfl (g := g) (off := k * 65) (by first | rfl | go_simp) (wrC x) (wrC_length x hox.2) hall ?_
    simp only [Act.put, List.setIfInBounds_toArray, List.set_cons_zero, List.set_cons_succ]
    refine seqW_gives (by kernel_rfl) ?_
    refine Gives.allocBig bigW rfl ?_
    have hX1 := heap_alloc_new wr (.cells (Value.int .i64 0 :: (zB 64).map B).toArray 66)
    have hkA := Keep.alloc wr (.cells (Value.int .i64 0 :: (zB 64).map B).toArray 66)
    have hd1 := hd.keep hkA
    have hB1 := hB.keep hkA
    have hgx : ∀ b, S b → b ≠ wr.heap.size := fun b hb e => Nat.lt_irrefl _ (e ▸ hd.low b hb)
    have hws := hB.size
    have hgn : wr.heap.size < (wr.alloc (.cells (Value.int .i64 0 :: (zB 64).map B).toArray 66)).heap.size := by simp
    clear hd hB hkA hc0 hcs
    generalize wr.alloc (.cells (Value.int .i64 0 :: (zB 64).map B).toArray 66) = y1 at *
    generalize wr.heap.size = gx at *
    simp only [Act.put, List.setIfInBounds_toArray, List.set_cons_zero, List.set_cons_succ]
    refine seqW_pure rfl ?_
    go_big_quiet_step (fail)
    refine seqW_on ?_
    refine seqW_gives (by kernel_rfl) ?_
    refine Gives.storeBig bigW _ _ rfl (g := gx) (off := 0) rfl (wrC x) rfl hX1 (wrC_length x hox.2) (by rw [List.size_toArray, zW_length]; exact Nat.le_refl _) (wrC_one x) ?_
    have hrow : ((Value.int .i64 0 :: (zB 64).map B).toArray.toList.take 0 ++ wrC x ++ (Value.int .i64 0 :: (zB 64).map B).toArray.toList.drop (0 + 65)).toArray = (wrC x).toArray := by
      have e : (Value.int .i64 0 :: (zB 64).map B).toArray.toList.drop (0 + 65) = [] := List.drop_eq_nil_of_le (by show (Value.int .i64 0 :: (zB 64).map B).length ≤ _; rw [zW_length]; decide)
      rw [e, List.take_zero, List.nil_append, List.append_nil]
    rw [hrow]
    have hX2 := setRow_heap y1 gx _ (wrC x).toArray _ _ hX1
    have hd2 := hd1.at (w' := y1.setRow gx (wrC x).toArray) (fun b hb => setRow_other y1 gx b _ (fun e => hgx b hb (by first | exact e | exact e.symm))) (Nat.le_of_eq (row_size _ _ _).symm)
    have hB2 := hB1.grown (row_but y1 gx (wrC x).toArray) (fun k e hk => by cases e; omega)
    clear hrow hX1 hd1 hB1 hgn
    generalize y1.setRow gx (wrC x).toArray = y2 at *
    simp only [Act.put, List.setIfInBounds_toArray, List.set_cons_zero, List.set_cons_succ]
    refine seqW_done ?_
    have hsx : y2.cell? ⟨gx, 0, none⟩ = some (.int .i64 x.1) := cell_of hX2 0 _ rfl
    obtain ⟨K6, hK6⟩ : ∃ K6, K6 = k % 64 := ⟨_, rfl⟩
    have he63 := and_63 k (by omega)
    rw [← hK6] at he63
    have hK7 : K6 < 64 := by omega
    have HK6 := Lib.hid hK6
    clear hK6
    have hbt := bit_test mask K6 hm
    by_cases hbit : mask.testBit K6 = true
    rotate_left
    · have hbf : mask.testBit K6 = false := by simpa using hbit
      rw [hbf] at hbt
      have hst : stepD mask (q * d.size) (keepD mask (q * d.size) (d.regs[q].waits.take k) d.data) (x, k) = keepD mask (q * d.size) (d.regs[q].waits.take k) d.data := by
        unfold stepD
        rw [if_neg (by rw [← HK6.out, hbf]; exact Bool.false_ne_true)]
      have HST := Lib.hid (HT.out.trans hst)
      clear hst hbit hbf e2
      go_wp2
      go_roundw
      case rel => exact ⟨k + 1, by omega, by go_num, by rw [HST.out]; exact hd2, hB2⟩
      case measure => simp [intOf]; omega
    rw [hbit] at hbt
    have hst : stepD mask (q * d.size) (keepD mask (q * d.size) (d.regs[q].waits.take k) d.data) (x, k) = (keepD mask (q * d.size) (d.regs[q].waits.take k) d.data).set (q * d.size + x.1) x.2 := by
      unfold stepD
      rw [if_pos (by rw [← HK6.out]; exact hbit)]
    have HST := Lib.hid (HT.out.trans hst)
    clear hst hbit e2
    obtain ⟨e0, e1, -, -⟩ := hd2.heads
    have hlen := keepD_length mask (q * d.size) (d.regs[q].waits.take k) d.data
    have hpos := d.pos_lt h.ok q x.1 hq hox.1
    simp only at e0 e1
    rw [hlen] at e1
    have hpl : d.data.length ≤ 64 * 65536 := by rw [h.ok.len]; exact Nat.mul_le_mul h.ok.r2 h.ok.s2
    obtain ⟨M, hM⟩ : ∃ M, M = q * d.size := ⟨_, rfl⟩
    have hM1 : (q : Int) * (d.size : Int) = (M : Int) := by rw [hM]; simp
    rw [← hM] at hd2 HST hlen hpos
    have HM := Lib.hid hM
    clear hM
    have hMi : (M : Int) + (x.1 : Int) < (d.data.length : Int) := by omega
    go_upto_region 5 with (fail)
    clear hbt
    refine wp_region_ch 16 [none, none, none, none, none, none, none, none, none, none, none, none, none, none, none, none, none] (fun w' => w'.heap[p]? = y2.heap[p]? ∧ w'.heap[gx]? = some (.cells (wrC x).toArray 66)) (by kernel_rfl) (by kernel_rfl) (by kernel_rfl) (by kernel_rfl) (⟨rfl, hX2⟩) ?_
    refine chT_pure rfl ?_
    go_big_quiet_step (fail)
    refine chT_on ?_
    refine chT_same (v := .pointer (some ⟨p, 0, none⟩)) (by kernel_rfl) (fun w2 hC => by
      go_simp) ?_
    simp only [Act.put, List.setIfInBounds_toArray, List.set_cons_zero, List.set_cons_succ]
    refine chT_pure rfl ?_
    go_big_quiet_step (fail)
    refine chT_on ?_
    refine chT_same (v := .slice (some ⟨gd, 0, none⟩) d.data.length d.data.length) (by kernel_rfl) (fun w2 hC => by
      have zz : w2.cell? ⟨p, 1, none⟩ = _ := (World.cell?_of_block (w := y2) hC.1).trans e1
      go_simp) ?_
    simp only [Act.put, List.setIfInBounds_toArray, List.set_cons_zero, List.set_cons_succ]
    refine chT_pure rfl ?_
    go_big_quiet_step (fail)
    refine chT_on ?_
    refine chT_pure rfl ?_
    go_big_quiet_step (fail)
    refine chT_on ?_
    refine chT_same (v := .pointer (some ⟨p, 0, none⟩)) (by kernel_rfl) (fun w2 hC => by
      go_simp) ?_
    simp only [Act.put, List.setIfInBounds_toArray, List.set_cons_zero, List.set_cons_succ]
    refine chT_pure rfl ?_
    go_big_quiet_step (fail)
    refine chT_on ?_
    refine chT_same (v := .int .i64 (d.size : Int)) (by kernel_rfl) (fun w2 hC => by
      have zz : w2.cell? ⟨p, 0, none⟩ = _ := (World.cell?_of_block (w := y2) hC.1).trans e0
      go_simp) ?_
    simp only [Act.put, List.setIfInBounds_toArray, List.set_cons_zero, List.set_cons_succ]
    refine chT_pure rfl ?_
    go_big_quiet_step (fail)
    refine chT_on ?_
    refine chT_pure rfl ?_
    go_big_quiet_step (fail)
    refine chT_on ?_
    refine chT_same (v := .int .i64 (x.1 : Int)) (by kernel_rfl) (fun w2 hC => by
      have zz : w2.cell? ⟨gx, 0, none⟩ = _ := cell_of hC.2 0 _ rfl
      go_simp) ?_
    simp only [Act.put, List.setIfInBounds_toArray, List.set_cons_zero, List.set_cons_succ]
    refine chT_pure rfl ?_
    go_big_quiet_step (fail)
    refine chT_on ?_
    refine chT_pure rfl ?_
    go_big_quiet_step (fail)
    refine chT_on ?_
    refine chT_same (v := .agg ((x.2.map B).toArray)) (by kernel_rfl) (fun w2 hC => ?_) ?_
    · have hl : ∀ j v, (x.2.map B)[j]? = some v → w2.cell? ⟨gx, 1 + j, none⟩ = some v := fun j v hj => cell_of hC.2 _ v (by rw [Nat.add_comm]; exact hj)
      exact exec_loadBig bigS _ rfl rfl w2 _ (by rw [List.length_map]; exact hox.2) hl
    simp only [Act.put, List.setIfInBounds_toArray, List.set_cons_zero, List.set_cons_succ]
    refine chT_pure rfl ?_
    go_big_quiet_step (fail)
    refine chT_on ?_
    refine chT_done ?_
    have hd3 := hd2.drew
    have hB3 := hB2.drew
    clear hX2 hd2 hB2 e0 e1
    generalize y2.drew = y3 at *
    refine seqW_gives (by kernel_rfl) ?_
    refine Gives.storeBig bigS _ _ rfl (g := gd) (off := (M + x.1) * 64) (by first | rfl | go_simp) (x.2.map B) rfl hd3.data (by rw [List.length_map]; exact hox.2) ?_ (B_oneCell _) ?_
    · rw [List.size_toArray, List.length_map]
      have hfl : ∀ (l : List (List UInt8)), (∀ y ∈ l, y.length = 64) → l.flatten.length = 64 * l.length := by
        intro l hl
        induction l with
        | nil => rfl
        | cons y l ih => rw [List.flatten_cons, List.length_append, hl y List.mem_cons_self, ih (fun z hz => hl z (List.mem_cons_of_mem _ hz)), List.length_cons]; omega
      rw [hfl _ hd3.ok.each]
      simp only
      rw [hlen]
      omega
    have hd4 := hd3.setData (M + x.1) (by simp only; rw [hlen]; exact hpos) x.2 hox.2
    have hB4 := hB3.row gd ((List.map B (keepD mask M (d.regs[q].waits.take k) d.data).flatten).take ((M + x.1) * 64) ++ x.2.map B ++ (List.map B (keepD mask M (d.regs[q].waits.take k) d.data).flatten).drop ((M + x.1) * 64 + 64)).toArray h.sd
    simp only at hd4
    rw [← HST.out] at hd4
    clear hd3 hB3
    generalize y3.setRow gd ((List.map B (keepD mask M (d.regs[q].waits.take k) d.data).flatten).take ((M + x.1) * 64) ++ x.2.map B ++ (List.map B (keepD mask M (d.regs[q].waits.take k) d.data).flatten).drop ((M + x.1) * 64 + 64)).toArray = y4 at *
    simp only [Act.put, List.setIfInBounds_toArray, List.set_cons_zero, List.set_cons_succ]
    refine seqW_done ?_
    go_wp2
    go_roundw
    case rel => exact ⟨k + 1, by omega, by go_num, by rw [← HM.out]; exact hd4, hB4⟩
    case measure => simp [intOf]; omega
end Go.Proofs.Ythknhonpcmneaaa
