/- The walk of DiskSectors. -/
import Derived.Test.YtnbadlhkcpjjmaaDx
namespace Go.Proofs.Ytnbadlhkcpjjmaa
open Go.Joins Go.ChangeShapes Go.WideShapes Go.ChangeAt Go.RowKit Go.Deep Go
attribute [local irreducible] Go.wpQuiet

/-! ### Slices of bytes, many of them -/
def SlP (w : World) (v : Value) (ls : List (List UInt8)) : Prop :=
  ∃ css, SlC w v 1 css ∧ css.length = ls.length ∧ ∀ i (h : i < css.length) (h' : i < ls.length), ∃ dv, css[i] = [dv] ∧ SlB w dv ls[i]
theorem SlP.form {w : World} {v : Value} {ls : List (List UInt8)} (h : SlP w v ls) : ∃ ao cap, v = .slice ao ls.length cap ∧ ls.length ≤ maxLen ∧ ls.length ≤ cap := by
  obtain ⟨css, h1, h2, _⟩ := h
  rw [← h2]
  exact h1.form
theorem SlP.elem {w : World} {ao : Option Addr} {n cap : Nat} {ls : List (List UInt8)} (h : SlP w (.slice ao n cap) ls) (i : Nat) (hi : i < ls.length) : ∃ b off, ao = some ⟨b, off, none⟩ ∧ ∃ dv, SlB w dv ls[i] ∧ w.cell? ⟨b, off + i, none⟩ = some dv := by
  obtain ⟨css, h1, h2, h3⟩ := h
  obtain ⟨b, off, ha, hc⟩ := h1.cells (by omega)
  obtain ⟨dv, e, hd⟩ := h3 i (by omega) hi
  have := hc i (by omega) 0 dv (by rw [e]; rfl)
  rw [Nat.mul_one, Nat.add_zero] at this
  exact ⟨b, off, ha, dv, hd, this⟩
section
variable {H : Type} {enc : TypeId × Value → H} {w : World} {base : Nat}
theorem open_parts {v : Value} {d : DataW H} {p : List MemPlace} (hv : Value.okWide Try.prog w .any base 22 v) (h : DataW.Trod enc Try.prog w 0 (fun _ => true) true 22 v d p) :
    ∃ ls : List (List UInt8), SlP w v ls := by
  obtain ⟨a0, len0, cap0, rfl⟩ := okWide_slice Try.underlying22 hv
  obtain ⟨fuel, hf⟩ := h
  obtain ⟨v, css, hc, hs, hel⟩ := slc_of_trod (P := Try.prog) (k := 1) Try.underlying22 (by kernel_rfl) (by decide) hf
  simp [Value.cells] at hc
  rw [hc]
  have hall : ∀ i, ∃ q : List UInt8, (h : i < css.length) → (∃ dv, css[i] = [dv] ∧ SlB w dv q) := by
    intro i
    by_cases hi : i < css.length
    · obtain ⟨hl, fuel', x', hx⟩ := hel css[i] (List.getElem_mem _)
      obtain ⟨dv, q, e, h1⟩ := open_bytes_cs hx
      exact ⟨q, fun _ => ⟨dv, e, h1⟩⟩
    · exact ⟨[], fun h => absurd h hi⟩
  let f := fun i => Classical.choose (hall i)
  have hsp : ∀ i (h : i < css.length), (∃ dv, css[i] = [dv] ∧ SlB w dv (f i)) := fun i => Classical.choose_spec (hall i)
  refine ⟨(List.range css.length).map f, ⟨css, hs, by simp, fun i hi hi' => ?_⟩⟩
  rw [List.getElem_map, List.getElem_range]
  exact hsp i hi
end

/-! ### What a sector is -/
def z64 : List UInt8 := List.replicate 64 0
def wantF (mask : Nat) (l : List (List UInt8)) (n : Nat) (o : List UInt8) : List UInt8 := (l.zipIdx n).foldl (fun o x => if mask.testBit (x.2 % 64) then pad x.1 else o) o
theorem wantF_take (mask : Nat) (l : List (List UInt8)) (o : List UInt8) (k : Nat) (h : k < l.length) : wantF mask (l.take (k + 1)) 0 o = if mask.testBit (k % 64) then pad l[k] else wantF mask (l.take k) 0 o := by
  unfold wantF
  rw [List.take_succ_eq_append_getElem h, List.zipIdx_append, List.foldl_append, List.length_take, Nat.min_eq_left (by omega)]
  simp
theorem keepD_want (mask : Nat) (l : List (List UInt8)) : ∀ (n : Nat) (o : List UInt8), ((l.map fun b => ((0 : Nat), pad b)).zipIdx n).foldl (stepD mask 0) [o] = [wantF mask l n o] := by
  induction l with
  | nil => intro n o; rfl
  | cons b l ih =>
    intro n o
    have e : wantF mask (b :: l) n o = wantF mask l (n + 1) (if mask.testBit (n % 64) then pad b else o) := rfl
    rw [e, ← ih (n + 1), List.map_cons, List.zipIdx_cons, List.foldl_cons]
    congr 1
    unfold stepD
    simp only
    split <;> rfl
/-- the disk behind writes of these -/
def SecI (d : Dk) (l : List (List UInt8)) : Prop := d.size = 1 ∧ d.data = [z64] ∧ d.regs = [⟨l.map fun b => ((0 : Nat), pad b), false, 0⟩]
theorem SecI.next {d : Dk} {l : List (List UInt8)} (h : SecI d l) (b : List UInt8) (hb : b.length ≤ 64) : d.wrE 0 0 b = 0 ∧ SecI (d.wrD 0 0 b) (l ++ [b]) := by
  obtain ⟨h1, h2, h3⟩ := h
  have hb' : ¬ 64 < b.length := by omega
  have : d.wrD 0 0 b = d.write 0 0 b := by simp [Dk.wrD, Dk.there, Dk.down, h1, h3, hb']
  refine ⟨by simp [Dk.wrE, Dk.there, Dk.down, h1, h3, hb'], ?_⟩
  rw [this]
  exact ⟨by simp [Dk.write, Dk.setRg, h1], by simp [Dk.write, Dk.setRg, h2], by simp [Dk.write, Dk.setRg, h3]⟩
theorem SecI.ends {d : Dk} {l : List (List UInt8)} (h : SecI d l) (mask : Nat) : (d.crash mask).there 0 0 = true ∧ (d.crash mask).readI 0 0 = wantF mask l 0 (z64) := by
  obtain ⟨h1, h2, h3⟩ := h
  have hr : (d.crash mask).regs = [⟨[], false, 0⟩] := by rw [crash_regs, h3]; rfl
  have hs : (d.crash mask).size = 1 := by rw [crash_size, h1]
  have hd : (d.crash mask).data = [wantF mask l 0 (z64)] := by
    rw [← keepD_want]
    unfold Dk.crash
    rw [h3]
    show keepD mask (0 * d.size) (d.regs[0]?.getD emptyRg).waits d.data = _
    rw [h3, h2, Nat.zero_mul]
    rfl
  have ht : (d.crash mask).there 0 0 = true := by simp [Dk.there, hr, hs]
  refine ⟨ht, ?_⟩
  unfold Dk.readI
  rw [if_pos ht]
  simp [Dk.read, hr, hs, hd, lastW]
theorem strV_add (a b : List UInt8) : (⟨a.toArray⟩ : ByteArray) ++ ⟨b.toArray⟩ = ⟨(a ++ b).toArray⟩ := by
  apply ByteArray.ext
  simp
set_option maxRecDepth 100000 in
set_option maxHeartbeats 8000000 in
theorem diskSectors_any (v : Value) (l : List (List UInt8)) (mask : Nat) (w : World) (hL : SlP w v l) (hm : mask < 18446744073709551616) : Calls Try.prog 3 #[v, .int .u64 mask] w fun e w' => e = .returned (.bool true) ∧ Keep w w' := by
  obtain ⟨va, vc, rfl, hmx, -⟩ := hL.form
  go_enter Try.func3, Try.ntmps3
  go_wp2_with fail
  refine (fit_any _).mono ?_
  rintro e w1 ⟨rfl, k1⟩
  by_cases hl : 60 < l.length
  · have tl : (60 : Int) < (l.length : Int) := by omega
    go_wp2
    go_ret
    exact ⟨rfl, k1⟩
  have tl : ¬ ((60 : Int) < (l.length : Int)) := by omega
  go_wp2_with fail
  refine (new_ds (Ds.nil (Keep.refl w1)) 1 1 (by decide) (by decide) (by decide) (by decide)).mono ?_
  rintro e w2 ⟨p, rfl, h2, k2⟩
  have h2 : Ds w1 w2 [(p, newD 1 1)] := h2
  have s2 := newD_small 1 1
  have i2 : SecI (newD 1 1) (l.take 0) := ⟨rfl, rfl, rfl⟩
  generalize newD 1 1 = d2 at *
  go_upto_region 6 with (fail)
  refine wp_region_seq ?_
  refine seqW_gives (by kernel_rfl) ?_
  refine Gives.makeB elemB _ _ 64 rfl rfl rfl (by decide) ?_
  have hb := (Own.made w2 5 0 64 (Nat.zero_le _) (by decide)).slB
  have h3 := h2.keep (Keep.alloc w2 (.cells ((zB 64).map B).toArray 5))
  generalize w2.alloc (.cells ((zB 64).map B).toArray 5) = w3 at *
  generalize w2.heap.size = g3 at *
  simp only [Act.put, List.setIfInBounds_toArray, List.set_cons_zero, List.set_cons_succ]
  refine seqW_gives (by kernel_rfl) ?_
  refine Gives.toStr Try.underlying27 Try.underlying5 Try.underlying9 _ rfl rfl hb ?_
  simp only [Act.put, List.setIfInBounds_toArray, List.set_cons_zero, List.set_cons_succ]
  try simp only [strV]
  refine seqW_pure rfl ?_
  go_big_quiet_step (fail)
  refine seqW_on ?_
  refine seqW_done ?_
  have hz : zB 64 = wantF mask (l.take 0) 0 z64 := rfl
  have HZ := Lib.hid hz
  clear hb h2 k2 hz
  generalize zB 64 = Z0 at *
  go_wp2_with fail
  go_loopw [6, 21] (fun z i wr => ∃ (j : Nat) (d : Dk), j ≤ l.length ∧ i = .int .i64 j ∧ z = .string ⟨(wantF mask (l.take j) 0 z64).toArray⟩ ∧ SecI d (l.take j) ∧ d.Small j ∧ Ds w1 wr [(p, d)]) (fun _ i _ => l.length - (intOf i).toNat)
  case atStart => exact ⟨0, d2, Nat.zero_le _, rfl, by rw [HZ.out], i2, s2, h3⟩
  case round =>
    obtain ⟨j, d, hj, rfl, rfl, hI, hS, hd⟩ := hrel
    clear s2 i2 h3
    by_cases hjn : j < l.length
    rotate_left
    · have hjd : ¬ ((j : Int) < (l.length : Int)) := by omega
      have hee : l.take j = l := List.take_of_length_le (by omega)
      rw [hee] at hI ⊢
      obtain ⟨q1, q2⟩ := hI.ends mask
      clear hjn hee hI
      go_wp2_with fail
      refine (crash_ds hd 0 Nat.zero_lt_one p _ rfl mask hm).mono ?_
      rintro e w4 ⟨rfl, h4⟩
      have h4 : Ds w1 w4 [(p, d.crash mask)] := h4
      go_wp2_with fail
      refine (read_ds h4 0 Nat.zero_lt_one p _ rfl 0 0).mono ?_
      rintro e w5 ⟨v5, rfl, hb5, k5, h5⟩
      rw [q1]
      rw [q2] at hb5
      obtain ⟨a5, c5, rfl, -, -, -⟩ := hb5.form
      have kk := k1.trans' h5.k
      generalize wantF mask l 0 z64 = R at *
      clear q1 q2 hd h4 h5 k5
      go_upto_region 18 with (fail)
      refine wp_region_seq ?_
      refine seqW_pure rfl ?_
      go_big_quiet_step (fail)
      refine seqW_on ?_
      refine seqW_pure rfl ?_
      go_big_quiet_step (fail)
      refine seqW_on ?_
      refine seqW_pure rfl ?_
      go_big_quiet_step (fail)
      refine seqW_on ?_
      refine seqW_pure rfl ?_
      go_big_quiet_step (fail)
      refine seqW_on ?_
      refine seqW_gives (by kernel_rfl) ?_
      refine Gives.toStr Try.underlying27 Try.underlying5 Try.underlying9 _ rfl rfl hb5 ?_
      simp only [Act.put, List.setIfInBounds_toArray, List.set_cons_zero, List.set_cons_succ]
      try simp only [strV]
      refine seqW_pure rfl ?_
      go_big_quiet_step (fail)
      refine seqW_on ?_
      refine seqW_gives (by kernel_rfl) ?_
      refine Gives.value (v := .bool true) (w' := w5) (by go_simp) ?_
      simp only [Act.put, List.setIfInBounds_toArray, List.set_cons_zero, List.set_cons_succ]
      refine seqW_pure rfl ?_
      go_big_quiet_step (fail)
      refine seqW_on ?_
      refine seqW_pure rfl ?_
      go_big_quiet_step (fail)
      refine seqW_on ?_
      refine seqW_done ?_
      clear hb5
      go_wp2
      go_ret
      exact ⟨rfl, kk⟩
    have hjd : (j : Int) < (l.length : Int) := by omega
    obtain ⟨b, off, rfl, dv, hdv, x0⟩ := hL.elem j hjn
    have kw := k1.trans' hd.k
    have x0 := kw.cellk x0
    obtain ⟨da, dc, rfl, -, -, -⟩ := hdv.form
    have hT := wantF_take mask l z64 j hjn
    have hT2 := List.take_succ_eq_append_getElem hjn
    generalize l[j] = c at *
    by_cases h64 : 64 < c.length
    · have t64 : (64 : Int) < (c.length : Int) := by omega
      clear hT hT2 hI
      go_wp2
      go_ret
      exact ⟨rfl, kw⟩
    have t64 : ¬ ((64 : Int) < (c.length : Int)) := by omega
    obtain ⟨f1, f2⟩ := hI.next c (by omega)
    rw [← hT2] at f2
    go_wp2_with fail
    refine (write_ds hd 0 Nat.zero_lt_one p _ rfl 0 0 _ c (hdv.keep kw) (hS.room (by omega))).mono ?_
    rintro e w4 ⟨rfl, h4⟩
    have h4 : Ds w1 w4 [(p, d.wrD 0 0 c)] := h4
    rw [f1]
    have hS4 := hS.wrD 0 0 c
    generalize d.wrD 0 0 c = d4 at *
    have hb4 := hdv.keep (k1.trans' h4.k)
    have hbt := bit_test mask j hm
    have hj64 : j % 64 = j := Nat.mod_eq_of_lt (by omega)
    rw [hj64] at hT
    clear hd hT2 f1 hI hS x0 kw
    have HT := Lib.hid hT
    clear hT hj64 h64
    by_cases hbit : mask.testBit j = true
    rotate_left
    · have hbf : mask.testBit j = false := by simpa using hbit
      rw [hbf] at hbt
      have hw : wantF mask (l.take (j + 1)) 0 z64 = wantF mask (l.take j) 0 z64 := by rw [HT.out, hbf]; rfl
      clear HT hbit hbf
      have HW := Lib.hid hw
      clear hw
      go_wp2
      go_roundw
      case rel => exact ⟨j + 1, d4, by omega, by go_num, by rw [HW.out], f2, hS4, h4⟩
      case measure => simp [intOf]; omega
    rw [hbit] at hbt
    have hw : wantF mask (l.take (j + 1)) 0 z64 = pad c := by rw [HT.out, hbit]; rfl
    clear HT hbit
    have HW := Lib.hid hw
    clear hw
    go_upto_region 14 with (fail)
    refine wp_region_ch 9 [none, none, none, none, none, some none, some none, none, none] (fun w' => SlB w' (.slice da c.length dc) c) (by kernel_rfl) (by kernel_rfl) (by kernel_rfl) (by kernel_rfl) (hb4) ?_
    refine chT_pure rfl ?_
    go_big_quiet_step (fail)
    refine chT_on ?_
    refine chT_same (v := strV c) (by kernel_rfl) (fun w2 hC => exec_str Try.underlying27 Try.underlying5 Try.underlying9 (v := .slice da c.length dc) _ rfl rfl w2 hC) ?_
    simp only [Act.put, List.setIfInBounds_toArray, List.set_cons_zero, List.set_cons_succ]
    simp only [strV]
    refine chT_pure rfl ?_
    go_big_quiet_step (fail)
    refine chT_on ?_
    refine chT_pure rfl ?_
    go_big_quiet_step (fail)
    refine chT_on ?_
    refine chT_pure rfl ?_
    go_big_quiet_step (fail)
    refine chT_on ?_
    have h4 := h4.keep (w' := w4.drew) (Keep.refl w4).drew
    have hb4 := hb4.keep (w' := w4.drew) (Keep.refl w4).drew
    refine chT_gives (by kernel_rfl) ?_
    refine Gives.makeB elemB _ _ (64 - c.length) rfl (by first | rfl | (show Value.int .i64 (64 - (c.length : Int)) = _; congr 1; omega)) (by first | rfl | (show Value.int .i64 (64 - (c.length : Int)) = _; congr 1; omega)) (by omega) ?_
    have hb5 := (Own.made w4.drew 5 0 (64 - c.length) (Nat.zero_le _) (by omega)).slB
    have hc5 := hb4.keep (w' := w4.drew.alloc (.cells ((zB (64 - c.length)).map B).toArray 5)) (Keep.alloc w4.drew (.cells ((zB (64 - c.length)).map B).toArray 5))
    have h5 := h4.keep (w' := w4.drew.alloc (.cells ((zB (64 - c.length)).map B).toArray 5)) (Keep.alloc w4.drew (.cells ((zB (64 - c.length)).map B).toArray 5))
    clear h4 hb4
    generalize w4.drew.alloc (.cells ((zB (64 - c.length)).map B).toArray 5) = w5 at *
    refine ⟨hc5, ?_⟩
    simp only [Act.put, List.setIfInBounds_toArray, List.set_cons_zero, List.set_cons_succ]
    refine chT_gives (by kernel_rfl) ?_
    refine Gives.toStr Try.underlying27 Try.underlying5 Try.underlying9 _ rfl rfl hb5 ?_
    refine ⟨hc5, ?_⟩
    simp only [strV]
    simp only [Act.put, List.setIfInBounds_toArray, List.set_cons_zero, List.set_cons_succ]
    have sz1 : ((⟨c.toArray⟩ : ByteArray).size : Int) ≤ 8388608 := by rw [size_str]; omega
    have sz2 : ((⟨(zB (64 - c.length)).toArray⟩ : ByteArray).size : Int) ≤ 8388608 := by rw [size_str, zB_length]; omega
    refine chT_pure rfl ?_
    go_big_quiet_step (fail)
    refine chT_on ?_
    have hpad : (⟨c.toArray⟩ : ByteArray) ++ ⟨(zB (64 - c.length)).toArray⟩ = ⟨(pad c).toArray⟩ := strV_add c _
    rw [hpad]
    clear hpad hc5 hb5
    refine chT_pure rfl ?_
    go_big_quiet_step (fail)
    refine chT_on ?_
    refine chT_done ?_
    refine seqW_done ?_
    generalize pad c = PC at *
    go_wp2
    go_roundw
    case rel => exact ⟨j + 1, d4, by omega, by go_num, by rw [HW.out], f2, hS4, h5⟩
    case measure => simp [intOf]; omega
end Go.Proofs.Ytnbadlhkcpjjmaa
