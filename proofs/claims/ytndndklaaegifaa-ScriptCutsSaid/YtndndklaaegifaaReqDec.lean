/- The walk of script.Decode. -/
import Derived.Test.YtndndklaaegifaaReqApp
import Derived.Test.YtndndklaaegifaaConv
namespace Go.Proofs.Ytndndklaaegifaa
open Go Go.RowKit
attribute [local irreducible] Go.wpQuiet

theorem numN_len (s : Pk.RS) (n : Int) : (Pk.numN s n).2.l.length ≤ s.l.length := (Pk.take_len s _).2
theorem text_len (s : Pk.RS) : (Pk.text s).2.l.length ≤ s.l.length := Nat.le_trans (Pk.take_len _ _).2 (numN_len s 1)
theorem take_upto (s : Pk.RS) (n : Nat) : (Pk.take s n).1.length ≤ n := by
  unfold Pk.take
  split
  · simp
  · simp; omega
theorem numN_lt (s : Pk.RS) (n : Nat) (h : 1 ≤ n ∧ n ≤ 8) : (Pk.numN s n).1 < 256 ^ n := by
  unfold Pk.numN
  rw [if_neg (by omega)]
  have h1 := take_upto s n
  have h2 := Pk.num_lt_pow (Pk.take s n).1 (by omega)
  exact Nat.lt_of_lt_of_le h2 (Nat.pow_le_pow_right (by omega) h1)
theorem text_lt (s : Pk.RS) : (Pk.text s).1.length < 256 := by
  have h1 := numN_lt s 1 (by omega)
  have h2 := take_upto (Pk.numN s 1).2 (Pk.numN s 1).1
  unfold Pk.text
  rw [Int.natCast_one] at h1
  simp only
  omega
/-- a block that is not the reader's -/
theorem But.at {w w' : World} {rb g : Nat} {o : Obj} (hb : But w w' rb) (hne : g ≠ rb) (h : w.heap[g]? = some o) : w'.heap[g]? = some o :=
  (hb.block g (Array.getElem?_eq_some_iff.1 h).1 (fun e => hne (Option.some.inj e))).trans h
theorem Rd.cellSet {w : World} {rb : Nat} {s : Pk.RS} (h : Rd w rb s) {p : Addr} (hne : rb ≠ p.block) {u : Value} (hp : w.cell? p = some u) (hu : ∀ b : UInt8, u ≠ B b) (x : Value) : Rd (w.setCell p x) rb s := by
  obtain ⟨v, hh, hv, hlow⟩ := h
  exact ⟨v, (Below.heap_setCell w p x rb hne).trans hh, hv.setCell hp hu x, hlow⟩
theorem str_neB (s : ByteArray) : ∀ b : UInt8, Value.string s ≠ B b := fun b => by unfold B; simp
theorem sl_neB (a : Option Addr) (n c : Nat) : ∀ b : UInt8, Value.slice a n c ≠ B b := fun b => by unfold B; simp
theorem i64_neB (x : Int) : ∀ b : UInt8, Value.int .i64 x ≠ B b := fun b => by unfold B; simp
theorem u64_neB (x : Int) : ∀ b : UInt8, Value.int .u64 x ≠ B b := fun b => by unfold B; simp
theorem wrap_w64 (x : Nat) (h : x < 256 ^ 8) : wrap64 (x : Int) = w64 x := by
  unfold wrap64 w64
  split <;> omega
theorem in_is {S : Nat → Prop} {g n c : Nat} (h : S g) : In S (.slice (some ⟨g, 0, none⟩) n c) := fun a n' c' e => by
  simp only [Value.slice.injEq, Option.some.injEq] at e
  rw [← e.1]
  exact h
/-- its data lie in blocks that are there -/
theorem OwnQ.low {w : World} {base : Nat} {X : Nat → Prop} {v : Value} {qs : List Rq} (h : OwnQ w base X v qs) : OwnQ w base (fun b => X b ∧ b < w.heap.size) v qs := by
  obtain ⟨css, ho, hl, hd⟩ := h
  refine ⟨css, ho, hl, fun i hi hi' => ?_⟩
  obtain ⟨dv, e, hs, hin⟩ := hd i hi hi'
  refine ⟨dv, e, hs, fun hne a n c ev => ⟨⟨(hin hne a n c ev).1, ?_⟩, (hin hne a n c ev).2⟩⟩
  obtain ⟨ao, cap, hv, _, _, hc⟩ := hs
  have h0 : 0 < ((qs[i].data).map B).length := by
    rw [List.length_map]
    exact List.length_pos_iff.2 hne
  obtain ⟨b, off, ha, hcell⟩ := hc 0 h0
  rw [hv] at ev
  simp only [Value.slice.injEq] at ev
  rw [ha] at ev
  have e1 := ev.1
  simp only [Option.some.injEq] at e1
  rw [← e1]
  exact World.block_lt_of_cell? w _ hcell
theorem OwnQ.weak {w : World} {base : Nat} {X Y : Nat → Prop} {v : Value} {qs : List Rq} (h : OwnQ w base X v qs) (hXY : ∀ b, X b → Y b) : OwnQ w base Y v qs := by
  obtain ⟨css, ho, hl, hd⟩ := h
  refine ⟨css, ho, hl, fun i hi hi' => ?_⟩
  obtain ⟨dv, e, hs, hin⟩ := hd i hi hi'
  exact ⟨dv, e, hs, fun hne a n c ev => ⟨hXY _ (hin hne a n c ev).1, (hin hne a n c ev).2⟩⟩
def lenOf : Value → Nat
  | .slice _ n _ => n
  | _ => 0

set_option maxRecDepth 100000 in
set_option maxHeartbeats 8000000 in
theorem decode_any (v : Value) (l : List UInt8) (w : World) (hv : SlB w v l) (hl : l.length ≤ 1000000) : Calls Try.prog 13 #[v] w fun e w' => ∃ v', e = .returned v' ∧ SlQ w' v' (decL l) ∧ Keep w w' := by
  obtain ⟨X, hX⟩ : ∃ X, Hid (X = decL l) := ⟨_, Lib.hid rfl⟩
  rw [← hX.out]
  have hv0 := hv
  obtain ⟨a0, n0, c0, rfl⟩ := hv.shape
  go_enter Try.func13, Try.ntmps13
  go_wp2_with fail
  refine (new_any _ l w hv).mono ?_
  rintro e w1 ⟨rfl, hr1, hk1, hsz1⟩
  have hrs : w.heap.size < w1.heap.size := by omega
  have hrw : w.heap.size ≤ w.heap.size := Nat.le_refl _
  clear hsz1 hv hv0
  have hbase : ∃ base, Hid (base = w.heap.size) := ⟨_, Lib.hid rfl⟩
  go_wp2
  generalize hrb : w.heap.size = rb at *
  have HRB := Lib.hid hrb
  clear hrb hrw hbase
  go_loopw [4] (fun v wr => ∃ (outs : List Rq) (s : Pk.RS), OwnQ wr (rb + 1) (fun b => rb < b) v outs ∧ Rd wr rb s ∧ s.bad = false ∧ Hid (X = outs ++ decL s.l) ∧ Keep w wr ∧ outs.length + s.l.length ≤ 1000000 ∧ rb < wr.heap.size) (fun v _ => 1000001 - lenOf v)
  case atStart => exact ⟨[], ⟨l, false⟩, OwnQ.nil _ _ _, hr1, rfl, Lib.hid (by rw [hX.out]; rfl), hk1, by simpa using hl, hrs⟩
  case round =>
    obtain ⟨outs, s, hO, hr0, hbad, hD, hk0, hlen, hg0⟩ := hrel
    clear hX hr1 hk1 hrs hl
    obtain ⟨oa, oc, rfl, -, -⟩ := hO.slq.form
    go_wp2_with fail
    refine (rest_any rb s wr hr0).mono ?_
    rintro e w' ⟨rfl, rfl⟩
    by_cases hz : s.l.length = 0
    · have t1 : decide (0 < (s.l.length : Int)) = false := decide_eq_false (by omega)
      have hs0 : s.l = [] := List.eq_nil_of_length_eq_zero hz
      have hXX := hD.out
      rw [hs0, decL_nil, List.append_nil] at hXX
      clear hz
      go_wp2
      go_ret
      exact ⟨_, rfl, by rw [hXX]; exact hO.slq, hk0⟩
    have t1 : decide (0 < (s.l.length : Int)) = true := decide_eq_true (by omega)
    have hs : s = ⟨s.l, false⟩ := by cases s; simp_all
    have hz' : 0 < s.l.length := by omega
    have hgood := decL_good (l := s.l) hz'
    have hbd := decL_bad (l := s.l) hz'
    have hles := readQ_less s.l
    rw [← hs] at hgood hbd hles
    have HLS := Lib.hid hles
    clear hles
    have HG := Lib.hid hgood
    have HBD := Lib.hid hbd
    obtain ⟨RQ, hRQ⟩ : ∃ RQ, Hid (RQ = readQ s) := ⟨_, Lib.hid rfl⟩
    clear hgood hbd hz hs hbad t1
    go_wp2_with fail
    refine (num_any rb s 1 wr hr0 (by omega)).mono ?_
    rintro e v1 ⟨rfl, hbv1, hrv1⟩
    have hlv1 := numN_len s 1
    have ht1 := numN_lt s 1 (by omega)
    rw [show ((1 : Nat) : Int) = 1 from rfl] at ht1
    have hkv1 : Keep w v1 := hk0.trans (hbv1.below (by rw [HRB.out]; exact Nat.le_refl _) hk0.size)
    have hOv1 := hO.but hbv1 (by have := hO.lt; exact fun e => by have := this _ e; omega) (by omega)
    have hgv1 : rb < v1.heap.size := Nat.lt_of_lt_of_le hg0 hbv1.size
    generalize hqv1 : Pk.numN s 1 = q1 at *
    have HQ1 := Lib.hid hqv1
    clear hqv1 hr0 hk0 hO  hbv1
    go_wp2_with fail
    refine (num_any rb q1.2 1 v1 hrv1 (by omega)).mono ?_
    rintro e v2 ⟨rfl, hbv2, hrv2⟩
    have hlv2 := numN_len q1.2 1
    have ht2 := numN_lt q1.2 1 (by omega)
    rw [show ((1 : Nat) : Int) = 1 from rfl] at ht2
    have hkv2 : Keep w v2 := hkv1.trans (hbv2.below (by rw [HRB.out]; exact Nat.le_refl _) hkv1.size)
    have hOv2 := hOv1.but hbv2 (by have := hOv1.lt; exact fun e => by have := this _ e; omega) (by omega)
    have hgv2 : rb < v2.heap.size := Nat.lt_of_lt_of_le hgv1 hbv2.size
    generalize hqv2 : Pk.numN q1.2 1 = q2 at *
    have HQ2 := Lib.hid hqv2
    clear hqv2 hrv1 hkv1 hOv1  hbv2
    go_upto_region 5 with (fail)
    have hA3 : RqAt (v2.alloc (.cells #[.int .i64 (q1.1 : Int), .int .i64 (q2.1 : Int), .int .i64 0, .int .i64 0, .string ⟨[].toArray⟩, .string ⟨[].toArray⟩, .string ⟨[].toArray⟩, .int .i64 0, .int .u64 0, .slice none 0 0] 34)) v2.heap.size ⟨q1.1, q2.1, 0, 0, [], [], [], 0, 0, []⟩ (.slice none 0 0) := heap_alloc_new v2 _
    have hkk := Keep.alloc v2 (.cells #[.int .i64 (q1.1 : Int), .int .i64 (q2.1 : Int), .int .i64 0, .int .i64 0, .string ⟨[].toArray⟩, .string ⟨[].toArray⟩, .string ⟨[].toArray⟩, .int .i64 0, .int .u64 0, .slice none 0 0] 34)
    have hr3 := hrv2.keep hkk
    have hO3 : OwnQ (v2.alloc (.cells #[.int .i64 (q1.1 : Int), .int .i64 (q2.1 : Int), .int .i64 0, .int .i64 0, .string ⟨[].toArray⟩, .string ⟨[].toArray⟩, .string ⟨[].toArray⟩, .int .i64 0, .int .u64 0, .slice none 0 0] 34)) (rb + 1) (fun b => rb < b ∧ b < v2.heap.size) (.slice oa outs.length oc) outs := (hOv2.low).keep hkk
    have hk3 := hkv2.trans' hkk
    have hg3 : rb < (v2.alloc (.cells #[.int .i64 (q1.1 : Int), .int .i64 (q2.1 : Int), .int .i64 0, .int .i64 0, .string ⟨[].toArray⟩, .string ⟨[].toArray⟩, .string ⟨[].toArray⟩, .int .i64 0, .int .u64 0, .slice none 0 0] 34)).heap.size := Nat.lt_of_lt_of_le hgv2 hkk.size
    have hgx : rb < v2.heap.size := hgv2
    have hoq0 : ∀ g, (Value.slice oa outs.length oc).ownBlock = some g → g < v2.heap.size := fun g e => (hOv2.lt g e).2
    generalize hG : v2.heap.size = gq at *
    have hoq : (Value.slice oa outs.length oc).ownBlock ≠ some gq := fun e => Nat.lt_irrefl _ (hoq0 gq e)
    have hgq3 : gq < (v2.alloc (.cells #[.int .i64 (q1.1 : Int), .int .i64 (q2.1 : Int), .int .i64 0, .int .i64 0, .string ⟨[].toArray⟩, .string ⟨[].toArray⟩, .string ⟨[].toArray⟩, .int .i64 0, .int .u64 0, .slice none 0 0] 34)).heap.size := (Array.getElem?_eq_some_iff.1 hA3).1
    generalize v2.alloc (.cells #[.int .i64 (q1.1 : Int), .int .i64 (q2.1 : Int), .int .i64 0, .int .i64 0, .string ⟨[].toArray⟩, .string ⟨[].toArray⟩, .string ⟨[].toArray⟩, .int .i64 0, .int .u64 0, .slice none 0 0] 34) = v3 at *
    clear hkk hrv2 hkv2 hOv2 hG hoq0
    go_wp2_with fail
    refine (num_any rb q2.2 1 v3 hr3 (by omega)).mono ?_
    rintro e v4 ⟨rfl, hbv4, hrv4⟩
    have hlv4 := numN_len q2.2 1
    have ht4 := numN_lt q2.2 1 (by omega)
    rw [show ((1 : Nat) : Int) = 1 from rfl] at ht4
    have hkv4 : Keep w v4 := hk3.trans (hbv4.below (by rw [HRB.out]; exact Nat.le_refl _) hk3.size)
    have hOv4 := hO3.but hbv4 (by have := hO3.lt; exact fun e => by have := this _ e; omega) (by omega)
    have hgv4 : rb < v4.heap.size := Nat.lt_of_lt_of_le hg3 hbv4.size
    have hAv4 : RqAt v4 gq _ _ := hbv4.at (by omega) hA3
    have hgqv4 : gq < v4.heap.size := (Array.getElem?_eq_some_iff.1 hAv4).1
    have hoqv4 := hoq
    generalize hqv4 : Pk.numN q2.2 1 = q4 at *
    have HQ4 := Lib.hid hqv4
    clear hqv4 hr3 hk3 hO3 hA3 hbv4
    obtain ⟨-, -, -, cm1, -, -, -, -, -, -⟩ := hAv4.cells
    have zm1 := hAv4.free 3
    have hAm1 : RqAt (v4.setCell ⟨gq, 3, none⟩ (.int .i64 (q4.1 : Int))) gq ⟨q1.1, q2.1, 0, q4.1, [], [], [], 0, 0, []⟩ (.slice none 0 0) := hAv4.set 3 _ rfl
    have hrm1 := hrv4.cellSet (p := ⟨gq, 3, none⟩) (by simp only; omega) cm1 (i64_neB _) (.int .i64 (q4.1 : Int))
    have hkm1 : Keep w (v4.setCell ⟨gq, 3, none⟩ (.int .i64 (q4.1 : Int))) := Keep.setCell hkv4 (by simp only; have := HRB.out; omega) _
    have hOm1 : OwnQ (v4.setCell ⟨gq, 3, none⟩ (.int .i64 (q4.1 : Int))) (rb + 1) (fun b => rb < b ∧ b < gq) (.slice oa outs.length oc) outs := hOv4.but (But.setCell v4 gq 3 (.int .i64 (q4.1 : Int))) hoq (fun h => Nat.lt_irrefl _ h.2)
    have hgm1 : rb < (v4.setCell ⟨gq, 3, none⟩ (.int .i64 (q4.1 : Int))).heap.size := Nat.lt_of_lt_of_le hgv4 (Nat.le_of_eq (by simp [World.setCell]))
    go_upto_region 6 with (fail)
    generalize (v4.setCell ⟨gq, 3, none⟩ (.int .i64 (q4.1 : Int))) = m1 at *
    clear hAv4 hrv4 hkv4 hOv4 cm1 zm1
    go_wp2_with fail
    refine (num_any rb q4.2 8 m1 hrm1 (by omega)).mono ?_
    rintro e v5 ⟨rfl, hbv5, hrv5⟩
    have hlv5 := numN_len q4.2 8
    have ht5 := numN_lt q4.2 8 (by omega)
    rw [show ((8 : Nat) : Int) = 8 from rfl] at ht5
    have hkv5 : Keep w v5 := hkm1.trans (hbv5.below (by rw [HRB.out]; exact Nat.le_refl _) hkm1.size)
    have hOv5 := hOm1.but hbv5 (by have := hOm1.lt; exact fun e => by have := this _ e; omega) (by omega)
    have hgv5 : rb < v5.heap.size := Nat.lt_of_lt_of_le hgm1 hbv5.size
    have hAv5 : RqAt v5 gq _ _ := hbv5.at (by omega) hAm1
    have hgqv5 : gq < v5.heap.size := (Array.getElem?_eq_some_iff.1 hAv5).1
    have hoqv5 := hoq
    generalize hqv5 : Pk.numN q4.2 8 = q5 at *
    have HQ5 := Lib.hid hqv5
    clear hqv5 hrm1 hkm1 hOm1 hAm1 hbv5
    go_wp2_with fail
    refine (num_any rb q5.2 2 v5 hrv5 (by omega)).mono ?_
    rintro e v6 ⟨rfl, hbv6, hrv6⟩
    have hlv6 := numN_len q5.2 2
    have ht6 := numN_lt q5.2 2 (by omega)
    rw [show ((2 : Nat) : Int) = 2 from rfl] at ht6
    have hkv6 : Keep w v6 := hkv5.trans (hbv6.below (by rw [HRB.out]; exact Nat.le_refl _) hkv5.size)
    have hOv6 := hOv5.but hbv6 (by have := hOv5.lt; exact fun e => by have := this _ e; omega) (by omega)
    have hgv6 : rb < v6.heap.size := Nat.lt_of_lt_of_le hgv5 hbv6.size
    have hAv6 : RqAt v6 gq _ _ := hbv6.at (by omega) hAv5
    have hgqv6 : gq < v6.heap.size := (Array.getElem?_eq_some_iff.1 hAv6).1
    have hoqv6 := hoq
    generalize hqv6 : Pk.numN q5.2 2 = q6 at *
    have HQ6 := Lib.hid hqv6
    clear hqv6 hrv5 hkv5 hOv5 hAv5 hbv6
    rw [wrap_w64 _ ht5]
    obtain ⟨-, -, cm2, -, -, -, -, -, -, -⟩ := hAv6.cells
    have zm2 := hAv6.free 2
    have hAm2 : RqAt (v6.setCell ⟨gq, 2, none⟩ (.int .i64 (w64 q5.1))) gq ⟨q1.1, q2.1, w64 q5.1, q4.1, [], [], [], 0, 0, []⟩ (.slice none 0 0) := hAv6.set 2 _ rfl
    have hrm2 := hrv6.cellSet (p := ⟨gq, 2, none⟩) (by simp only; omega) cm2 (i64_neB _) (.int .i64 (w64 q5.1))
    have hkm2 : Keep w (v6.setCell ⟨gq, 2, none⟩ (.int .i64 (w64 q5.1))) := Keep.setCell hkv6 (by simp only; have := HRB.out; omega) _
    have hOm2 : OwnQ (v6.setCell ⟨gq, 2, none⟩ (.int .i64 (w64 q5.1))) (rb + 1) (fun b => rb < b ∧ b < gq) (.slice oa outs.length oc) outs := hOv6.but (But.setCell v6 gq 2 (.int .i64 (w64 q5.1))) hoq (fun h => Nat.lt_irrefl _ h.2)
    have hgm2 : rb < (v6.setCell ⟨gq, 2, none⟩ (.int .i64 (w64 q5.1))).heap.size := Nat.lt_of_lt_of_le hgv6 (Nat.le_of_eq (by simp [World.setCell]))
    obtain ⟨-, -, -, -, -, -, -, cm3, -, -⟩ := hAm2.cells
    have zm3 := hAm2.free 7
    have hAm3 : RqAt ((v6.setCell ⟨gq, 2, none⟩ (.int .i64 (w64 q5.1))).setCell ⟨gq, 7, none⟩ (.int .i64 (q6.1 : Int))) gq ⟨q1.1, q2.1, w64 q5.1, q4.1, [], [], [], q6.1, 0, []⟩ (.slice none 0 0) := hAm2.set 7 _ rfl
    have hrm3 := hrm2.cellSet (p := ⟨gq, 7, none⟩) (by simp only; omega) cm3 (i64_neB _) (.int .i64 (q6.1 : Int))
    have hkm3 : Keep w ((v6.setCell ⟨gq, 2, none⟩ (.int .i64 (w64 q5.1))).setCell ⟨gq, 7, none⟩ (.int .i64 (q6.1 : Int))) := Keep.setCell hkm2 (by simp only; have := HRB.out; omega) _
    have hOm3 : OwnQ ((v6.setCell ⟨gq, 2, none⟩ (.int .i64 (w64 q5.1))).setCell ⟨gq, 7, none⟩ (.int .i64 (q6.1 : Int))) (rb + 1) (fun b => rb < b ∧ b < gq) (.slice oa outs.length oc) outs := hOm2.but (But.setCell (v6.setCell ⟨gq, 2, none⟩ (.int .i64 (w64 q5.1))) gq 7 (.int .i64 (q6.1 : Int))) hoq (fun h => Nat.lt_irrefl _ h.2)
    have hgm3 : rb < ((v6.setCell ⟨gq, 2, none⟩ (.int .i64 (w64 q5.1))).setCell ⟨gq, 7, none⟩ (.int .i64 (q6.1 : Int))).heap.size := Nat.lt_of_lt_of_le hgm2 (Nat.le_of_eq (by simp [World.setCell]))
    go_upto_region 7 with (fail)
    generalize (v6.setCell ⟨gq, 2, none⟩ (.int .i64 (w64 q5.1))) = m2 at *
    generalize (m2.setCell ⟨gq, 7, none⟩ (.int .i64 (q6.1 : Int))) = m3 at *
    clear hAv6 hrv6 hkv6 hOv6 hAm2 hrm2 hkm2 hOm2 cm2 zm2 cm3 zm3
    go_wp2_with fail
    refine (rtext_any rb q6.2 m3 hrm3 (by omega)).mono ?_
    rintro e v7 ⟨rfl, hbv7, hrv7⟩
    have hlv7 := text_len q6.2
    have ht7 := text_lt q6.2
    have hkv7 : Keep w v7 := hkm3.trans (hbv7.below (by rw [HRB.out]; exact Nat.le_refl _) hkm3.size)
    have hOv7 := hOm3.but hbv7 (by have := hOm3.lt; exact fun e => by have := this _ e; omega) (by omega)
    have hgv7 : rb < v7.heap.size := Nat.lt_of_lt_of_le hgm3 hbv7.size
    have hAv7 : RqAt v7 gq _ _ := hbv7.at (by omega) hAm3
    have hgqv7 : gq < v7.heap.size := (Array.getElem?_eq_some_iff.1 hAv7).1
    have hoqv7 := hoq
    generalize hqv7 : Pk.text q6.2 = q7 at *
    have HQ7 := Lib.hid hqv7
    clear hqv7 hrm3 hkm3 hOm3 hAm3 hbv7
    go_wp2_with fail
    refine (rtext_any rb q7.2 v7 hrv7 (by omega)).mono ?_
    rintro e v8 ⟨rfl, hbv8, hrv8⟩
    have hlv8 := text_len q7.2
    have ht8 := text_lt q7.2
    have hkv8 : Keep w v8 := hkv7.trans (hbv8.below (by rw [HRB.out]; exact Nat.le_refl _) hkv7.size)
    have hOv8 := hOv7.but hbv8 (by have := hOv7.lt; exact fun e => by have := this _ e; omega) (by omega)
    have hgv8 : rb < v8.heap.size := Nat.lt_of_lt_of_le hgv7 hbv8.size
    have hAv8 : RqAt v8 gq _ _ := hbv8.at (by omega) hAv7
    have hgqv8 : gq < v8.heap.size := (Array.getElem?_eq_some_iff.1 hAv8).1
    have hoqv8 := hoq
    generalize hqv8 : Pk.text q7.2 = q8 at *
    have HQ8 := Lib.hid hqv8
    clear hqv8 hrv7 hkv7 hOv7 hAv7 hbv8
    go_wp2_with fail
    refine (rtext_any rb q8.2 v8 hrv8 (by omega)).mono ?_
    rintro e v9 ⟨rfl, hbv9, hrv9⟩
    have hlv9 := text_len q8.2
    have ht9 := text_lt q8.2
    have hkv9 : Keep w v9 := hkv8.trans (hbv9.below (by rw [HRB.out]; exact Nat.le_refl _) hkv8.size)
    have hOv9 := hOv8.but hbv9 (by have := hOv8.lt; exact fun e => by have := this _ e; omega) (by omega)
    have hgv9 : rb < v9.heap.size := Nat.lt_of_lt_of_le hgv8 hbv9.size
    have hAv9 : RqAt v9 gq _ _ := hbv9.at (by omega) hAv8
    have hgqv9 : gq < v9.heap.size := (Array.getElem?_eq_some_iff.1 hAv9).1
    have hoqv9 := hoq
    generalize hqv9 : Pk.text q8.2 = q9 at *
    have HQ9 := Lib.hid hqv9
    clear hqv9 hrv8 hkv8 hOv8 hAv8 hbv9
    unfold strV
    obtain ⟨-, -, -, -, cm4, -, -, -, -, -⟩ := hAv9.cells
    have zm4 := hAv9.free 4
    have hAm4 : RqAt (v9.setCell ⟨gq, 4, none⟩ (.string ⟨(q7.1).toArray⟩)) gq ⟨q1.1, q2.1, w64 q5.1, q4.1, q7.1, [], [], q6.1, 0, []⟩ (.slice none 0 0) := hAv9.set 4 _ rfl
    have hrm4 := hrv9.cellSet (p := ⟨gq, 4, none⟩) (by simp only; omega) cm4 (str_neB _) (.string ⟨(q7.1).toArray⟩)
    have hkm4 : Keep w (v9.setCell ⟨gq, 4, none⟩ (.string ⟨(q7.1).toArray⟩)) := Keep.setCell hkv9 (by simp only; have := HRB.out; omega) _
    have hOm4 : OwnQ (v9.setCell ⟨gq, 4, none⟩ (.string ⟨(q7.1).toArray⟩)) (rb + 1) (fun b => rb < b ∧ b < gq) (.slice oa outs.length oc) outs := hOv9.but (But.setCell v9 gq 4 (.string ⟨(q7.1).toArray⟩)) hoq (fun h => Nat.lt_irrefl _ h.2)
    have hgm4 : rb < (v9.setCell ⟨gq, 4, none⟩ (.string ⟨(q7.1).toArray⟩)).heap.size := Nat.lt_of_lt_of_le hgv9 (Nat.le_of_eq (by simp [World.setCell]))
    obtain ⟨-, -, -, -, -, cm5, -, -, -, -⟩ := hAm4.cells
    have zm5 := hAm4.free 5
    have hAm5 : RqAt ((v9.setCell ⟨gq, 4, none⟩ (.string ⟨(q7.1).toArray⟩)).setCell ⟨gq, 5, none⟩ (.string ⟨(q8.1).toArray⟩)) gq ⟨q1.1, q2.1, w64 q5.1, q4.1, q7.1, q8.1, [], q6.1, 0, []⟩ (.slice none 0 0) := hAm4.set 5 _ rfl
    have hrm5 := hrm4.cellSet (p := ⟨gq, 5, none⟩) (by simp only; omega) cm5 (str_neB _) (.string ⟨(q8.1).toArray⟩)
    have hkm5 : Keep w ((v9.setCell ⟨gq, 4, none⟩ (.string ⟨(q7.1).toArray⟩)).setCell ⟨gq, 5, none⟩ (.string ⟨(q8.1).toArray⟩)) := Keep.setCell hkm4 (by simp only; have := HRB.out; omega) _
    have hOm5 : OwnQ ((v9.setCell ⟨gq, 4, none⟩ (.string ⟨(q7.1).toArray⟩)).setCell ⟨gq, 5, none⟩ (.string ⟨(q8.1).toArray⟩)) (rb + 1) (fun b => rb < b ∧ b < gq) (.slice oa outs.length oc) outs := hOm4.but (But.setCell (v9.setCell ⟨gq, 4, none⟩ (.string ⟨(q7.1).toArray⟩)) gq 5 (.string ⟨(q8.1).toArray⟩)) hoq (fun h => Nat.lt_irrefl _ h.2)
    have hgm5 : rb < ((v9.setCell ⟨gq, 4, none⟩ (.string ⟨(q7.1).toArray⟩)).setCell ⟨gq, 5, none⟩ (.string ⟨(q8.1).toArray⟩)).heap.size := Nat.lt_of_lt_of_le hgm4 (Nat.le_of_eq (by simp [World.setCell]))
    obtain ⟨-, -, -, -, -, -, cm6, -, -, -⟩ := hAm5.cells
    have zm6 := hAm5.free 6
    have hAm6 : RqAt (((v9.setCell ⟨gq, 4, none⟩ (.string ⟨(q7.1).toArray⟩)).setCell ⟨gq, 5, none⟩ (.string ⟨(q8.1).toArray⟩)).setCell ⟨gq, 6, none⟩ (.string ⟨(q9.1).toArray⟩)) gq ⟨q1.1, q2.1, w64 q5.1, q4.1, q7.1, q8.1, q9.1, q6.1, 0, []⟩ (.slice none 0 0) := hAm5.set 6 _ rfl
    have hrm6 := hrm5.cellSet (p := ⟨gq, 6, none⟩) (by simp only; omega) cm6 (str_neB _) (.string ⟨(q9.1).toArray⟩)
    have hkm6 : Keep w (((v9.setCell ⟨gq, 4, none⟩ (.string ⟨(q7.1).toArray⟩)).setCell ⟨gq, 5, none⟩ (.string ⟨(q8.1).toArray⟩)).setCell ⟨gq, 6, none⟩ (.string ⟨(q9.1).toArray⟩)) := Keep.setCell hkm5 (by simp only; have := HRB.out; omega) _
    have hOm6 : OwnQ (((v9.setCell ⟨gq, 4, none⟩ (.string ⟨(q7.1).toArray⟩)).setCell ⟨gq, 5, none⟩ (.string ⟨(q8.1).toArray⟩)).setCell ⟨gq, 6, none⟩ (.string ⟨(q9.1).toArray⟩)) (rb + 1) (fun b => rb < b ∧ b < gq) (.slice oa outs.length oc) outs := hOm5.but (But.setCell ((v9.setCell ⟨gq, 4, none⟩ (.string ⟨(q7.1).toArray⟩)).setCell ⟨gq, 5, none⟩ (.string ⟨(q8.1).toArray⟩)) gq 6 (.string ⟨(q9.1).toArray⟩)) hoq (fun h => Nat.lt_irrefl _ h.2)
    have hgm6 : rb < (((v9.setCell ⟨gq, 4, none⟩ (.string ⟨(q7.1).toArray⟩)).setCell ⟨gq, 5, none⟩ (.string ⟨(q8.1).toArray⟩)).setCell ⟨gq, 6, none⟩ (.string ⟨(q9.1).toArray⟩)).heap.size := Nat.lt_of_lt_of_le hgm5 (Nat.le_of_eq (by simp [World.setCell]))
    go_upto_region 8 with (fail)
    generalize (v9.setCell ⟨gq, 4, none⟩ (.string ⟨(q7.1).toArray⟩)) = m4 at *
    generalize (m4.setCell ⟨gq, 5, none⟩ (.string ⟨(q8.1).toArray⟩)) = m5 at *
    generalize (m5.setCell ⟨gq, 6, none⟩ (.string ⟨(q9.1).toArray⟩)) = m6 at *
    clear hAv9 hrv9 hkv9 hOv9 hAm4 hrm4 hkm4 hOm4 hAm5 hrm5 hkm5 hOm5 cm4 zm4 cm5 zm5 cm6 zm6
    go_wp2_with fail
    refine (num_any rb q9.2 8 m6 hrm6 (by omega)).mono ?_
    rintro e v10 ⟨rfl, hbv10, hrv10⟩
    have hlv10 := numN_len q9.2 8
    have ht10 := numN_lt q9.2 8 (by omega)
    rw [show ((8 : Nat) : Int) = 8 from rfl] at ht10
    have hkv10 : Keep w v10 := hkm6.trans (hbv10.below (by rw [HRB.out]; exact Nat.le_refl _) hkm6.size)
    have hOv10 := hOm6.but hbv10 (by have := hOm6.lt; exact fun e => by have := this _ e; omega) (by omega)
    have hgv10 : rb < v10.heap.size := Nat.lt_of_lt_of_le hgm6 hbv10.size
    have hAv10 : RqAt v10 gq _ _ := hbv10.at (by omega) hAm6
    have hgqv10 : gq < v10.heap.size := (Array.getElem?_eq_some_iff.1 hAv10).1
    have hoqv10 := hoq
    generalize hqv10 : Pk.numN q9.2 8 = q10 at *
    have HQ10 := Lib.hid hqv10
    clear hqv10 hrm6 hkm6 hOm6 hAm6 hbv10
    obtain ⟨-, -, -, -, -, -, -, -, cm7, -⟩ := hAv10.cells
    have zm7 := hAv10.free 8
    have hAm7 : RqAt (v10.setCell ⟨gq, 8, none⟩ (.int .u64 (q10.1 : Int))) gq ⟨q1.1, q2.1, w64 q5.1, q4.1, q7.1, q8.1, q9.1, q6.1, q10.1, []⟩ (.slice none 0 0) := hAv10.set 8 _ rfl
    have hrm7 := hrv10.cellSet (p := ⟨gq, 8, none⟩) (by simp only; omega) cm7 (u64_neB _) (.int .u64 (q10.1 : Int))
    have hkm7 : Keep w (v10.setCell ⟨gq, 8, none⟩ (.int .u64 (q10.1 : Int))) := Keep.setCell hkv10 (by simp only; have := HRB.out; omega) _
    have hOm7 : OwnQ (v10.setCell ⟨gq, 8, none⟩ (.int .u64 (q10.1 : Int))) (rb + 1) (fun b => rb < b ∧ b < gq) (.slice oa outs.length oc) outs := hOv10.but (But.setCell v10 gq 8 (.int .u64 (q10.1 : Int))) hoq (fun h => Nat.lt_irrefl _ h.2)
    have hgm7 : rb < (v10.setCell ⟨gq, 8, none⟩ (.int .u64 (q10.1 : Int))).heap.size := Nat.lt_of_lt_of_le hgv10 (Nat.le_of_eq (by simp [World.setCell]))
    go_upto_region 9 with (fail)
    generalize (v10.setCell ⟨gq, 8, none⟩ (.int .u64 (q10.1 : Int))) = m7 at *
    clear hAv10 hrv10 hkv10 hOv10 cm7 zm7
    go_wp2_with fail
    refine (rtext_any rb q10.2 m7 hrm7 (by omega)).mono ?_
    rintro e v11 ⟨rfl, hbv11, hrv11⟩
    have hlv11 := text_len q10.2
    have ht11 := text_lt q10.2
    have hkv11 : Keep w v11 := hkm7.trans (hbv11.below (by rw [HRB.out]; exact Nat.le_refl _) hkm7.size)
    have hOv11 := hOm7.but hbv11 (by have := hOm7.lt; exact fun e => by have := this _ e; omega) (by omega)
    have hgv11 : rb < v11.heap.size := Nat.lt_of_lt_of_le hgm7 hbv11.size
    have hAv11 : RqAt v11 gq _ _ := hbv11.at (by omega) hAm7
    have hgqv11 : gq < v11.heap.size := (Array.getElem?_eq_some_iff.1 hAv11).1
    have hoqv11 := hoq
    generalize hqv11 : Pk.text q10.2 = q11 at *
    have HQ11 := Lib.hid hqv11
    clear hqv11 hrm7 hkm7 hOm7 hAm7 hbv11
    unfold strV
    obtain ⟨cap, v12, hcv, hsb, hkb, hszb⟩ := run_bytes (P := Try.prog) Try.underlying9 Try.underlying26 Try.underlying5 q11.1 v11 (by unfold maxLen; omega)
    have hA12 := hAv11.keep hkb
    have hr12 := hrv11.keep hkb
    have hk12 := hkv11.trans' hkb
    have hO12 := hOv11.keep hkb
    have hg12 : rb < v12.heap.size := Nat.lt_of_lt_of_le hgv11 hkb.size
    have hgq12 : gq < v11.heap.size := (Array.getElem?_eq_some_iff.1 hAv11).1
    have hob : ∀ g, (Value.slice oa outs.length oc).ownBlock = some g → g < v11.heap.size := fun g e => (hOv11.lt g e).2
    clear hAv11 hrv11 hkv11 hOv11 hgv11 hkb
    generalize hgd : v11.heap.size = gd at *
    have hod : (Value.slice oa outs.length oc).ownBlock ≠ some gd := fun e => Nat.lt_irrefl _ (hob gd e)
    clear hob hgd
    obtain ⟨-, -, -, -, -, -, -, -, -, cm8⟩ := hA12.cells
    have zm8 := hA12.free 9
    have hAm8 : RqAt (v12.setCell ⟨gq, 9, none⟩ (.slice (some ⟨gd, 0, none⟩) q11.1.length cap)) gq ⟨q1.1, q2.1, w64 q5.1, q4.1, q7.1, q8.1, q9.1, q6.1, q10.1, q11.1⟩ (.slice (some ⟨gd, 0, none⟩) q11.1.length cap) := hA12.set 9 _ rfl
    have hrm8 := hr12.cellSet (p := ⟨gq, 9, none⟩) (by simp only; omega) cm8 (sl_neB _ _ _) (.slice (some ⟨gd, 0, none⟩) q11.1.length cap)
    have hkm8 : Keep w (v12.setCell ⟨gq, 9, none⟩ (.slice (some ⟨gd, 0, none⟩) q11.1.length cap)) := Keep.setCell hk12 (by simp only; have := HRB.out; omega) _
    have hOm8 : OwnQ (v12.setCell ⟨gq, 9, none⟩ (.slice (some ⟨gd, 0, none⟩) q11.1.length cap)) (rb + 1) (fun b => rb < b ∧ b < gq) (.slice oa outs.length oc) outs := hO12.but (But.setCell v12 gq 9 (.slice (some ⟨gd, 0, none⟩) q11.1.length cap)) hoq (fun h => Nat.lt_irrefl _ h.2)
    have hgm8 : rb < (v12.setCell ⟨gq, 9, none⟩ (.slice (some ⟨gd, 0, none⟩) q11.1.length cap)).heap.size := Nat.lt_of_lt_of_le hg12 (Nat.le_of_eq (by simp [World.setCell]))
    have hsd := hsb.at (S := fun b => b = gd) (w' := (v12.setCell ⟨gq, 9, none⟩ (.slice (some ⟨gd, 0, none⟩) q11.1.length cap))) (fun _ => in_is rfl) (fun b _ e => Below.heap_setCell v12 ⟨gq, 9, none⟩ _ b (by simp only; omega))
    go_upto_region 10 with (fail)
    clear hcv hsb
    generalize (v12.setCell ⟨gq, 9, none⟩ (.slice (some ⟨gd, 0, none⟩) q11.1.length cap)) = m8 at *
    clear hA12 hr12 hk12 hO12 cm8 zm8
    have hRR : RQ = (⟨q1.1, q2.1, w64 q5.1, q4.1, q7.1, q8.1, q9.1, q6.1, q10.1, q11.1⟩, q11.2) := by
      rw [hRQ.out]
      unfold readQ
      simp only [HQ1.out, HQ2.out, HQ4.out, HQ5.out, HQ6.out, HQ7.out, HQ8.out, HQ9.out, HQ10.out, HQ11.out]
    have HRR := Lib.hid (hRQ.out.symm.trans hRR)
    clear hRQ hRR HQ1 HQ2 HQ4 HQ5 HQ6 HQ7 HQ8 HQ9 HQ10 HQ11
    go_wp2_with fail
    refine (bad_any rb q11.2 m8 hrm8).mono ?_
    rintro e w' ⟨rfl, rfl⟩
    cases hb : q11.2.bad
    rotate_left
    · have hXX := hD.out
      rw [HBD.out (by rw [HRR.out]; exact hb)] at hXX
      go_upto_region 11 with (fail)
      refine wp_region_seq ?_
      refine seqW_pure rfl ?_
      go_big_quiet_step (fail)
      refine seqW_on ?_
      refine seqW_pure rfl ?_
      go_big_quiet_step (fail)
      refine seqW_on ?_
      refine seqW_gives (by kernel_rfl) ?_
      refine Gives.value (v := .slice (some ⟨m8.heap.size, 0, none⟩) 1 1) (w' := m8.alloc (.cells #[.int .i64 (-1), .int .i64 0, .int .i64 0, .int .i64 0, .string ⟨[].toArray⟩, .string ⟨[].toArray⟩, .string ⟨[].toArray⟩, .int .i64 0, .int .u64 0, .slice none 0 0] 34)) (by go_simp) ?_
      have hSl : SlC (m8.alloc (.cells #[.int .i64 (-1), .int .i64 0, .int .i64 0, .int .i64 0, .string ⟨[].toArray⟩, .string ⟨[].toArray⟩, .string ⟨[].toArray⟩, .int .i64 0, .int .u64 0, .slice none 0 0] 34)) (.slice (some ⟨m8.heap.size, 0, none⟩) 1 1) 10 [badQ.cells (.slice none 0 0)] := SlC.laid (w := m8) 34 (0, 0) 10 (badQ.cells (.slice none 0 0)) rfl
      have hka := Keep.alloc m8 (.cells #[.int .i64 (-1), .int .i64 0, .int .i64 0, .int .i64 0, .string ⟨[].toArray⟩, .string ⟨[].toArray⟩, .string ⟨[].toArray⟩, .int .i64 0, .int .u64 0, .slice none 0 0] 34)
      have hO9 := hOm8.keep hka
      have hk9 := hkm8.trans' hka
      have hg9 := Nat.lt_of_lt_of_le hgm8 hka.size
      simp only [Act.put, List.setIfInBounds_toArray, List.set_cons_zero, List.set_cons_succ]
      refine seqW_gives (by kernel_rfl) ?_
      refine Gives.appendQ _ _ rfl rfl rfl hO9 hSl (SlB.nil _) (fun h => absurd rfl h) (by omega) (by omega) ?_
      intro v' w' hO' hgr hwh
      have hk' : Keep w w' := hk9.grown hgr hk9.size (fun j hj => by have := (hO9.lt j hj).1; have := HRB.out; omega)
      clear hgr hwh hO9 hSl
      simp only [Act.put, List.setIfInBounds_toArray, List.set_cons_zero, List.set_cons_succ]
      refine seqW_pure rfl ?_
      go_big_quiet_step (fail)
      refine seqW_on ?_
      refine seqW_done ?_
      go_wp2
      go_ret
      exact ⟨_, rfl, by rw [hXX]; exact hO'.slq, hk'⟩
    · have hXX := hD.out
      rw [HG.out (by rw [HRR.out]; exact hb)] at hXX
      simp only [HRR.out] at hXX
      have HXX := Lib.hid hXX
      have hls := HLS.out (by rw [HRR.out]; exact hb)
      rw [HRR.out] at hls
      simp only at hls
      clear hXX HG HBD HRR hD HLS
      obtain ⟨e0, e1, e2, e3, e4, e5, e6, e7, e8, e9⟩ := hAm8.cells
      go_upto_region 12 with (fail)
      refine wp_region_seq ?_
      refine seqW_pure rfl ?_
      go_big_quiet_step (fail)
      refine seqW_on ?_
      refine seqW_gives (by kernel_rfl) ?_
      refine Gives.value (v := .agg #[.int .i64 (q1.1 : Int), .int .i64 (q2.1 : Int), .int .i64 (w64 q5.1), .int .i64 (q4.1 : Int), .string ⟨(q7.1).toArray⟩, .string ⟨(q8.1).toArray⟩, .string ⟨(q9.1).toArray⟩, .int .i64 (q6.1 : Int), .int .u64 (q10.1 : Int), .slice (some ⟨gd, 0, none⟩) q11.1.length cap]) (w' := m8) (by go_simp) ?_
      simp only [Act.put, List.setIfInBounds_toArray, List.set_cons_zero, List.set_cons_succ]
      refine seqW_gives (by kernel_rfl) ?_
      refine Gives.value (v := .slice (some ⟨m8.heap.size, 0, none⟩) 1 1) (w' := m8.alloc (.cells #[.int .i64 (q1.1 : Int), .int .i64 (q2.1 : Int), .int .i64 (w64 q5.1), .int .i64 (q4.1 : Int), .string ⟨(q7.1).toArray⟩, .string ⟨(q8.1).toArray⟩, .string ⟨(q9.1).toArray⟩, .int .i64 (q6.1 : Int), .int .u64 (q10.1 : Int), .slice (some ⟨gd, 0, none⟩) q11.1.length cap] 34)) (by go_simp) ?_
      have hSl : SlC (m8.alloc (.cells #[.int .i64 (q1.1 : Int), .int .i64 (q2.1 : Int), .int .i64 (w64 q5.1), .int .i64 (q4.1 : Int), .string ⟨(q7.1).toArray⟩, .string ⟨(q8.1).toArray⟩, .string ⟨(q9.1).toArray⟩, .int .i64 (q6.1 : Int), .int .u64 (q10.1 : Int), .slice (some ⟨gd, 0, none⟩) q11.1.length cap] 34)) (.slice (some ⟨m8.heap.size, 0, none⟩) 1 1) 10 [Rq.cells ⟨q1.1, q2.1, w64 q5.1, q4.1, q7.1, q8.1, q9.1, q6.1, q10.1, q11.1⟩ (.slice (some ⟨gd, 0, none⟩) q11.1.length cap)] := SlC.laid (w := m8) 34 (0, 0) 10 (Rq.cells ⟨q1.1, q2.1, w64 q5.1, q4.1, q7.1, q8.1, q9.1, q6.1, q10.1, q11.1⟩ (.slice (some ⟨gd, 0, none⟩) q11.1.length cap)) rfl
      have hka := Keep.alloc m8 (.cells #[.int .i64 (q1.1 : Int), .int .i64 (q2.1 : Int), .int .i64 (w64 q5.1), .int .i64 (q4.1 : Int), .string ⟨(q7.1).toArray⟩, .string ⟨(q8.1).toArray⟩, .string ⟨(q9.1).toArray⟩, .int .i64 (q6.1 : Int), .int .u64 (q10.1 : Int), .slice (some ⟨gd, 0, none⟩) q11.1.length cap] 34)
      have hO9 := (hOm8.weak (Y := fun b => rb < b) fun b h => h.1).keep hka
      have hk9 := hkm8.trans' hka
      have hr9 := hrm8.keep hka
      have hsd9 := hsd.keep hka
      have hg9 := Nat.lt_of_lt_of_le hgm8 hka.size
      generalize m8.alloc (.cells #[.int .i64 (q1.1 : Int), .int .i64 (q2.1 : Int), .int .i64 (w64 q5.1), .int .i64 (q4.1 : Int), .string ⟨(q7.1).toArray⟩, .string ⟨(q8.1).toArray⟩, .string ⟨(q9.1).toArray⟩, .int .i64 (q6.1 : Int), .int .u64 (q10.1 : Int), .slice (some ⟨gd, 0, none⟩) q11.1.length cap] 34) = m9 at *
      clear hAm8 hrm8 hkm8 hOm8 hsd hka e0 e1 e2 e3 e4 e5 e6 e7 e8 e9
      simp only [Act.put, List.setIfInBounds_toArray, List.set_cons_zero, List.set_cons_succ]
      refine seqW_gives (by kernel_rfl) ?_
      refine Gives.appendQ _ _ rfl rfl rfl hO9 hSl hsd9 (fun _ => in_is ⟨by omega, hod⟩) (by omega) (by omega) ?_
      intro v' w' hO' hgr hwh
      have hb' : Below (rb + 1) m9 w' := (Below.refl _ _).grown hgr (by omega) (fun j hj => (hO9.lt j hj).1)
      have hk' : Keep w w' := hk9.trans (hb'.mono (by have := HRB.out; omega))
      have hr' := hr9.above hb' (by omega)
      have hg' : rb < w'.heap.size := Nat.lt_of_lt_of_le hg9 hb'.size
      obtain ⟨oa', oc', rfl, -, -⟩ := hO'.slq.form
      clear hgr hwh hO9 hSl hk9 hr9 hsd9 hb'
      simp only [Act.put, List.setIfInBounds_toArray, List.set_cons_zero, List.set_cons_succ]
      refine seqW_pure rfl ?_
      go_big_quiet_step (fail)
      refine seqW_on ?_
      refine seqW_done ?_
      go_wp2
      go_roundw
      case rel => exact ⟨_, q11.2, hO', hr', hb, Lib.hid (by rw [HXX.out, List.append_assoc]; rfl), hk', by rw [List.length_append, List.length_cons, List.length_nil]; omega, hg'⟩
      case measure => simp only [lenOf, List.length_append, List.length_cons, List.length_nil]; omega
end Go.Proofs.Ytndndklaaegifaa
