/- The walk of record.say. -/
import Derived.Test.YtlihieefjlpadaaRec
import Derived.Test.YtlihieefjlpadaaChain
namespace Go.Proofs.Ytlihieefjlpadaa
open Go Go.RowKit
attribute [local irreducible] Go.wpQuiet

theorem elemU : ElemOk Try.prog 22 46 (.int .u64 0) 8 := ElemOk.of Try.underlying22 (by kernel_rfl) rfl
theorem U_oneCell (l : List Nat) : ∀ y ∈ l.map U, y.oneCell' = true := by
  intro y hy
  obtain ⟨b, _, rfl⟩ := List.mem_map.1 hy
  rfl
theorem numN_len (s : Pk.RS) (n : Int) : (Pk.numN s n).2.l.length ≤ s.l.length := (Pk.take_len s _).2
theorem text_len (s : Pk.RS) : (Pk.text s).2.l.length ≤ s.l.length := Nat.le_trans (Pk.take_len _ _).2 (numN_len s 1)
theorem take_upto (s : Pk.RS) (n : Nat) : (Pk.take s n).1.length ≤ n := by
  unfold Pk.take
  split
  · simp
  · simp; omega
theorem numN_lt (s : Pk.RS) (n : Nat) (h : 1 ≤ n ∧ n ≤ 8) : (Pk.numN s n).1 < 256 ^ n := by
  unfold Pk.numN
  rw [if_neg (by omega)]
  have h1 := take_upto s n
  have h2 := Pk.num_lt_pow (Pk.take s n).1 (by omega)
  exact Nat.lt_of_lt_of_le h2 (Nat.pow_le_pow_right (by omega) h1)
/-- a block that is not the reader's -/
theorem But.at {w w' : World} {rb g : Nat} {o : Obj} (hb : But w w' rb) (hne : g ≠ rb) (h : w.heap[g]? = some o) : w'.heap[g]? = some o :=
  (hb.block g (Array.getElem?_eq_some_iff.1 h).1 (fun e => hne (Option.some.inj e))).trans h

theorem Rd.cellSet {w : World} {rb : Nat} {s : Pk.RS} (h : Rd w rb s) {p : Addr} (hne : rb ≠ p.block) {u : Value} (hp : w.cell? p = some u) (hu : ∀ b : UInt8, u ≠ B b) (x : Value) : Rd (w.setCell p x) rb s := by
  obtain ⟨v, hh, hv, hlow⟩ := h
  exact ⟨v, (Below.heap_setCell w p x rb hne).trans hh, hv.setCell hp hu x, hlow⟩
/-- a change in a block without bytes -/
theorem Rd.butAt {w w' : World} {rb g : Nat} {s : Pk.RS} {cs : Array Value} {e : TypeId} (h : Rd w rb s) (hb : But w w' g) (hg : w.heap[g]? = some (.cells cs e)) (hn : ∀ (j : Nat) (y : UInt8), cs[j]? ≠ some (B y)) (hne : rb ≠ g) : Rd w' rb s := by
  obtain ⟨v, hh, ⟨ao, cap, hv, hm, hcap, hc⟩, hlow⟩ := h
  refine ⟨v, hb.at hne hh, ⟨ao, cap, hv, hm, hcap, fun i hi => ?_⟩, hlow⟩
  obtain ⟨b, off, ha, hcell⟩ := hc i hi
  refine ⟨b, off, ha, ?_⟩
  have hlt := World.block_lt_of_cell? w _ hcell
  rw [World.cell?_of_block (w := w)]
  · exact hcell
  · refine hb.block _ hlt (fun h => ?_)
    cases h
    unfold World.cell? at hcell
    simp only [hg] at hcell
    have h1 : (s.l.map B)[i] = B (s.l[i]'(by simpa using hi)) := by simp
    rw [h1] at hcell
    exact hn _ _ (by simpa using hcell)
/-- a record laid over another one -/
def laidOver (w : World) (g : Nat) (a b c d e f h i : Value) : World :=
  (((((((w.setCell ⟨g, 0, none⟩ a).setCell ⟨g, 1, none⟩ b).setCell ⟨g, 2, none⟩ c).setCell ⟨g, 3, none⟩ d).setCell ⟨g, 4, none⟩ e).setCell ⟨g, 5, none⟩ f).setCell ⟨g, 6, none⟩ h).setCell ⟨g, 7, none⟩ i
theorem laidOver_but (w : World) (g : Nat) (a b c d e f h i : Value) : But w (laidOver w g a b c d e f h i) g :=
  ((((((((But.setCell w g 0 a).trans (But.setCell _ g 1 b)).trans (But.setCell _ g 2 c)).trans (But.setCell _ g 3 d)).trans (But.setCell _ g 4 e)).trans (But.setCell _ g 5 f)).trans (But.setCell _ g 6 h)).trans (But.setCell _ g 7 i))
theorem laidOver_at {w : World} {g : Nat} {x0 x1 x2 x3 x4 x5 x6 x7 : Value} {t : TypeId} (hg : w.heap[g]? = some (.cells #[x0, x1, x2, x3, x4, x5, x6, x7] t)) (a b c d e f h i : Value) :
    (laidOver w g a b c d e f h i).heap[g]? = some (.cells #[a, b, c, d, e, f, h, i] t) := by
  unfold laidOver
  simp [World.setCell, Array.getElem?_modify, hg]
theorem zero_cells (j : Nat) (y : UInt8) : (#[.int .i64 0, .int .i64 0, .int .i64 0, .int .i64 0, .string ⟨[].toArray⟩, .string ⟨[].toArray⟩, .string ⟨[].toArray⟩, .slice none 0 0] : Array Value)[j]? ≠ some (B y) := by
  match j with
  | 0 => simp [B]
  | 1 => simp [B]
  | 2 => simp [B]
  | 3 => simp [B]
  | 4 => simp [B]
  | 5 => simp [B]
  | 6 => simp [B]
  | 7 => simp [B]
  | j + 8 => simp
theorem RcAt.free {w : World} {g : Nat} {r : Rc} {dv : Value} (h : RcAt w g r dv) (i : Nat) : w.frozen? ⟨g, i, none⟩ = false := by
  unfold RcAt at h
  unfold World.frozen?
  simp [h]
theorem RcAt.set4 {w : World} {g : Nat} {r : Rc} {dv : Value} (h : RcAt w g r dv) (x : List UInt8) : RcAt (w.setCell ⟨g, 4, none⟩ (.string ⟨x.toArray⟩)) g { r with before := x } dv := by
  unfold RcAt at *
  simp [World.setCell, Array.getElem?_modify, h]
theorem RcAt.set5 {w : World} {g : Nat} {r : Rc} {dv : Value} (h : RcAt w g r dv) (x : List UInt8) : RcAt (w.setCell ⟨g, 5, none⟩ (.string ⟨x.toArray⟩)) g { r with after := x } dv := by
  unfold RcAt at *
  simp [World.setCell, Array.getElem?_modify, h]
theorem RcAt.set6 {w : World} {g : Nat} {r : Rc} {dv : Value} (h : RcAt w g r dv) (x : List UInt8) : RcAt (w.setCell ⟨g, 6, none⟩ (.string ⟨x.toArray⟩)) g { r with image := x } dv := by
  unfold RcAt at *
  simp [World.setCell, Array.getElem?_modify, h]
theorem RcAt.set7 {w : World} {g : Nat} {r : Rc} {dv : Value} (h : RcAt w g r dv) (x : Value) : RcAt (w.setCell ⟨g, 7, none⟩ x) g r x := by
  unfold RcAt at *
  simp [World.setCell, Array.getElem?_modify, h]
theorem Rc.str_ne (s : ByteArray) : ∀ b : UInt8, Value.string s ≠ B b := fun b => by unfold B; simp
theorem Rc.sl_ne (a : Option Addr) (n c : Nat) : ∀ b : UInt8, Value.slice a n c ≠ B b := fun b => by unfold B; simp

set_option maxRecDepth 100000 in
set_option maxHeartbeats 8000000 in
theorem say_any (v : Value) (l : List UInt8) (w : World) (hv : SlB w v l) (hl : l.length ≤ 100000) : Calls Try.prog 29 #[v] w fun e w' => ∃ dv, e = .returned (.tuple #[(say l).1.val dv, .bool (said (say l))]) ∧ SlU w' dv (say l).1.dirty ∧ Keep w w' := by
  obtain ⟨X, hX⟩ : ∃ X, Hid (X = say l) := ⟨_, Lib.hid rfl⟩
  rw [← hX.out]
  have hv0 := hv
  obtain ⟨a0, n0, c0, rfl⟩ := hv.shape
  go_enter Try.func29, Try.ntmps29
  go_wp2_with fail
  have hx0 := heap_alloc_new w (.cells #[.int .i64 0, .int .i64 0, .int .i64 0, .int .i64 0, .string ⟨[].toArray⟩, .string ⟨[].toArray⟩, .string ⟨[].toArray⟩, .slice none 0 0] 24)
  have hk0 := Keep.alloc w (.cells #[.int .i64 0, .int .i64 0, .int .i64 0, .int .i64 0, .string ⟨[].toArray⟩, .string ⟨[].toArray⟩, .string ⟨[].toArray⟩, .slice none 0 0] 24)
  generalize w.alloc (.cells #[.int .i64 0, .int .i64 0, .int .i64 0, .int .i64 0, .string ⟨[].toArray⟩, .string ⟨[].toArray⟩, .string ⟨[].toArray⟩, .slice none 0 0] 24) = w0 at *
  refine (new_any _ l w0 (hv.keep hk0)).mono ?_
  rintro e w1 ⟨rfl, hr1, hk1, hsz1⟩
  have hx1 := (hk1.block _ (Array.getElem?_eq_some_iff.1 hx0).1).trans hx0
  have hgl := (Array.getElem?_eq_some_iff.1 hx0).1
  have hkw : Keep w w1 := hk0.trans' hk1
  have hrs : w0.heap.size < w1.heap.size := by omega
  clear hsz1 hk0 hk1 hx0
  generalize w0.heap.size = rb at *
  go_wp2_with fail
  refine (num_any rb ⟨l, false⟩ 1 w1 hr1 (by show l.length ≤ _; omega)).mono ?_
  rintro e w2 ⟨rfl, hbw2, hrw2⟩
  have hlw2 := numN_len ⟨l, false⟩ 1
  have ht0 := numN_lt ⟨l, false⟩ 1 (by omega)
  rw [Int.natCast_one] at ht0
  have hkw2 : Keep w w2 := hkw.trans (hbw2.below (Nat.le_of_lt hgl) hkw.size)
  have hxw2 := hbw2.at (by omega) hx1
  have hsw2 := hbw2.size
  generalize hqw2 : Pk.numN ⟨l, false⟩ 1 = qw2 at *
  have HQw2 := Lib.hid hqw2
  clear hqw2 hr1 hkw hx1  hbw2
  go_wp2_with fail
  refine (num_any rb qw2.2 1 w2 hrw2 (by omega)).mono ?_
  rintro e w3 ⟨rfl, hbw3, hrw3⟩
  have hlw3 := numN_len qw2.2 1
  have ht1 := numN_lt qw2.2 1 (by omega)
  rw [Int.natCast_one] at ht1
  have hkw3 : Keep w w3 := hkw2.trans (hbw3.below (Nat.le_of_lt hgl) hkw2.size)
  have hxw3 := hbw3.at (by omega) hxw2
  have hsw3 := hbw3.size
  generalize hqw3 : Pk.numN qw2.2 1 = qw3 at *
  have HQw3 := Lib.hid hqw3
  clear hqw3 hrw2 hkw2 hxw2  hbw3
  go_wp2_with fail
  refine (num_any rb qw3.2 1 w3 hrw3 (by omega)).mono ?_
  rintro e w4 ⟨rfl, hbw4, hrw4⟩
  have hlw4 := numN_len qw3.2 1
  have ht2 := numN_lt qw3.2 1 (by omega)
  rw [Int.natCast_one] at ht2
  have hkw4 : Keep w w4 := hkw3.trans (hbw4.below (Nat.le_of_lt hgl) hkw3.size)
  have hxw4 := hbw4.at (by omega) hxw3
  have hsw4 := hbw4.size
  generalize hqw4 : Pk.numN qw3.2 1 = qw4 at *
  have HQw4 := Lib.hid hqw4
  clear hqw4 hrw3 hkw3 hxw3  hbw4
  go_wp2_with fail
  refine (num_any rb qw4.2 1 w4 hrw4 (by omega)).mono ?_
  rintro e w5 ⟨rfl, hbw5, hrw5⟩
  have hlw5 := numN_len qw4.2 1
  have ht3 := numN_lt qw4.2 1 (by omega)
  rw [Int.natCast_one] at ht3
  have hkw5 : Keep w w5 := hkw4.trans (hbw5.below (Nat.le_of_lt hgl) hkw4.size)
  have hxw5 := hbw5.at (by omega) hxw4
  have hsw5 := hbw5.size
  generalize hqw5 : Pk.numN qw4.2 1 = qw5 at *
  have HQw5 := Lib.hid hqw5
  clear hqw5 hrw4 hkw4 hxw4  hbw5
  go_upto_region 3 with (fail)
  have hA6 : RcAt (w5.alloc (.cells #[.int .i64 (qw2.1 : Int), .int .i64 (qw3.1 : Int), .int .i64 (qw4.1 : Int), .int .i64 (qw5.1 : Int), .string ⟨[].toArray⟩, .string ⟨[].toArray⟩, .string ⟨[].toArray⟩, .slice none 0 0] 24)) w5.heap.size ⟨qw2.1, qw3.1, qw4.1, qw5.1, [], [], [], []⟩ (.slice none 0 0) := RcAt.laid w5 ⟨qw2.1, qw3.1, qw4.1, qw5.1, [], [], [], []⟩ _
  have hkk := Keep.alloc w5 (.cells #[.int .i64 (qw2.1 : Int), .int .i64 (qw3.1 : Int), .int .i64 (qw4.1 : Int), .int .i64 (qw5.1 : Int), .string ⟨[].toArray⟩, .string ⟨[].toArray⟩, .string ⟨[].toArray⟩, .slice none 0 0] 24)
  have hr6 := hrw5.keep hkk
  have hx6 := (hkk.block _ (Array.getElem?_eq_some_iff.1 hxw5).1).trans hxw5
  have hk6 := hkw5.trans' hkk
  have hgx : rb < w5.heap.size := by omega
  generalize hG : w5.heap.size = gx at *
  have hs6 : gx < (w5.alloc (.cells #[.int .i64 (qw2.1 : Int), .int .i64 (qw3.1 : Int), .int .i64 (qw4.1 : Int), .int .i64 (qw5.1 : Int), .string ⟨[].toArray⟩, .string ⟨[].toArray⟩, .string ⟨[].toArray⟩, .slice none 0 0] 24)).heap.size := by simp [hG]
  generalize w5.alloc (.cells #[.int .i64 (qw2.1 : Int), .int .i64 (qw3.1 : Int), .int .i64 (qw4.1 : Int), .int .i64 (qw5.1 : Int), .string ⟨[].toArray⟩, .string ⟨[].toArray⟩, .string ⟨[].toArray⟩, .slice none 0 0] 24) = w6 at *
  clear hkk hrw5 hxw5 hkw5 hG
  go_wp2_with fail
  refine (rtext_any rb qw5.2 w6 hr6 (by omega)).mono ?_
  rintro e w7 ⟨rfl, hbw7, hrw7⟩
  have hlw7 := text_len qw5.2
  have hkw7 : Keep w w7 := hk6.trans (hbw7.below (Nat.le_of_lt hgl) hk6.size)
  have hxw7 := hbw7.at (by omega) hx6
  have hsw7 := hbw7.size
  have hAw7 : RcAt w7 gx _ _ := hbw7.at (by omega) hA6
  generalize hqw7 : Pk.text qw5.2 = qw7 at *
  have HQw7 := Lib.hid hqw7
  clear hqw7 hr6 hk6 hx6 hA6 hbw7
  go_wp2_with fail
  refine (rtext_any rb qw7.2 w7 hrw7 (by omega)).mono ?_
  rintro e w8 ⟨rfl, hbw8, hrw8⟩
  have hlw8 := text_len qw7.2
  have hkw8 : Keep w w8 := hkw7.trans (hbw8.below (Nat.le_of_lt hgl) hkw7.size)
  have hxw8 := hbw8.at (by omega) hxw7
  have hsw8 := hbw8.size
  have hAw8 : RcAt w8 gx _ _ := hbw8.at (by omega) hAw7
  generalize hqw8 : Pk.text qw7.2 = qw8 at *
  have HQw8 := Lib.hid hqw8
  clear hqw8 hrw7 hkw7 hxw7 hAw7 hbw8
  unfold strV
  obtain ⟨-, -, -, -, f4, f5, -, -⟩ := hAw8.cells
  have z4 := hAw8.free 4
  have hA9 := hAw8.set4 qw7.1
  have hr9 := hrw8.cellSet (p := ⟨gx, 4, none⟩) (by simp only; omega) f4 (Rc.str_ne _) (.string ⟨(qw7.1).toArray⟩)
  have hk9 : Keep w (w8.setCell ⟨gx, 4, none⟩ (.string ⟨(qw7.1).toArray⟩)) := Keep.setCell hkw8 (by simp only; omega) _
  have hx9 := (Below.heap_setCell w8 ⟨gx, 4, none⟩ (.string ⟨(qw7.1).toArray⟩) w.heap.size (by simp only; omega)).trans hxw8
  have hs9 : gx < (w8.setCell ⟨gx, 4, none⟩ (.string ⟨(qw7.1).toArray⟩)).heap.size := by simp only [World.setCell, Array.size_modify]; omega
  obtain ⟨-, -, -, -, -, f5', -, -⟩ := hA9.cells
  have z5 := hA9.free 5
  go_upto_region 4 with (fail)
  generalize w8.setCell ⟨gx, 4, none⟩ (.string ⟨(qw7.1).toArray⟩) = w9 at *
  clear f4 f5 z4 hAw8 hrw8 hkw8 hxw8
  have hA10 := hA9.set5 qw8.1
  have hr10 := hr9.cellSet (p := ⟨gx, 5, none⟩) (by simp only; omega) f5' (Rc.str_ne _) (.string ⟨(qw8.1).toArray⟩)
  have hk10 : Keep w (w9.setCell ⟨gx, 5, none⟩ (.string ⟨(qw8.1).toArray⟩)) := Keep.setCell hk9 (by simp only; omega) _
  have hx10 := (Below.heap_setCell w9 ⟨gx, 5, none⟩ (.string ⟨(qw8.1).toArray⟩) w.heap.size (by simp only; omega)).trans hx9
  have hs10 : gx < (w9.setCell ⟨gx, 5, none⟩ (.string ⟨(qw8.1).toArray⟩)).heap.size := by simp only [World.setCell, Array.size_modify]; omega
  generalize w9.setCell ⟨gx, 5, none⟩ (.string ⟨(qw8.1).toArray⟩) = w10 at *
  clear f5' z5 hA9 hr9 hk9 hx9
  go_wp2_with fail
  refine (num_any rb qw8.2 2 w10 hr10 (by omega)).mono ?_
  rintro e w11 ⟨rfl, hbw11, hrw11⟩
  have hlw11 := numN_len qw8.2 2
  have ht4 := numN_lt qw8.2 2 (by omega)
  rw [show ((2 : Nat) : Int) = 2 from rfl] at ht4
  have hkw11 : Keep w w11 := hk10.trans (hbw11.below (Nat.le_of_lt hgl) hk10.size)
  have hxw11 := hbw11.at (by omega) hx10
  have hsw11 := hbw11.size
  have hAw11 : RcAt w11 gx _ _ := hbw11.at (by omega) hA10
  generalize hqw11 : Pk.numN qw8.2 2 = qw11 at *
  have HQw11 := Lib.hid hqw11
  clear hqw11 hr10 hk10 hx10 hA10 hbw11
  go_wp2_with fail
  refine (take_any rb qw11.2 (qw11.1 : Int) w11 hrw11 (by omega)).mono ?_
  rintro e w12 ⟨v12, rfl, hO12, hbw12, hrw12⟩
  have hlw12 := (Pk.take_len qw11.2 (qw11.1 : Int)).2
  have hkw12 : Keep w w12 := hkw11.trans (hbw12.below (Nat.le_of_lt hgl) hkw11.size)
  have hxw12 := hbw12.at (by omega) hxw11
  have hsw12 := hbw12.size
  have hAw12 : RcAt w12 gx _ _ := hbw12.at (by omega) hAw11
  generalize hqw12 : Pk.take qw11.2 (qw11.1 : Int) = qw12 at *
  have HQw12 := Lib.hid hqw12
  obtain ⟨a12, n12, c12, rfl⟩ := hO12.slB.shape
  have hst := run_toString (P := Try.prog) Try.underlying29 Try.underlying5 Try.underlying9 hO12.slB
  unfold strV at hst
  clear hqw12 hrw11 hkw11 hxw11 hAw11 hbw12 hO12
  obtain ⟨-, -, -, -, -, -, f6, -⟩ := hAw12.cells
  have z6 := hAw12.free 6
  go_upto_region 5 with (fail)
  have hA13 := hAw12.set6 qw12.1
  have hr13 := hrw12.cellSet (p := ⟨gx, 6, none⟩) (by simp only; omega) f6 (Rc.str_ne _) (.string ⟨(qw12.1).toArray⟩)
  have hk13 : Keep w (w12.setCell ⟨gx, 6, none⟩ (.string ⟨(qw12.1).toArray⟩)) := Keep.setCell hkw12 (by simp only; omega) _
  have hx13 := (Below.heap_setCell w12 ⟨gx, 6, none⟩ (.string ⟨(qw12.1).toArray⟩) w.heap.size (by simp only; omega)).trans hxw12
  have hs13 : gx < (w12.setCell ⟨gx, 6, none⟩ (.string ⟨(qw12.1).toArray⟩)).heap.size := by simp only [World.setCell, Array.size_modify]; omega
  generalize w12.setCell ⟨gx, 6, none⟩ (.string ⟨(qw12.1).toArray⟩) = w13 at *
  clear f6 z6 hst hAw12 hrw12 hkw12 hxw12
  go_wp2_with fail
  refine (num_any rb qw12.2 1 w13 hr13 (by omega)).mono ?_
  rintro e w14 ⟨rfl, hbw14, hrw14⟩
  have hlw14 := numN_len qw12.2 1
  have ht5 := numN_lt qw12.2 1 (by omega)
  rw [Int.natCast_one] at ht5
  have hkw14 : Keep w w14 := hk13.trans (hbw14.below (Nat.le_of_lt hgl) hk13.size)
  have hxw14 := hbw14.at (by omega) hx13
  have hsw14 := hbw14.size
  have hAw14 : RcAt w14 gx _ _ := hbw14.at (by omega) hA13
  generalize hqw14 : Pk.numN qw12.2 1 = qw14 at *
  have HQw14 := Lib.hid hqw14
  clear hqw14 hr13 hk13 hx13 hA13 hbw14
  have hX1 : Hid (X = (⟨qw2.1, qw3.1, qw4.1, qw5.1, qw7.1, qw8.1, qw12.1, (Pk.nums qw14.1 qw14.2).1⟩, (Pk.nums qw14.1 qw14.2).2)) := by
    show X = _
    rw [hX.out]
    unfold say
    simp only [HQw2.out, HQw3.out, HQw4.out, HQw5.out, HQw7.out, HQw8.out, HQw11.out, HQw12.out, HQw14.out]
  clear hX HQw2 HQw3 HQw4 HQw5 HQw7 HQw8 HQw11 HQw12 HQw14 hsw2 hsw3 hsw4
  obtain ⟨cnt, sq⟩ := qw14
  simp only at *
  have hbl : sq.l.length ≤ 100000 := by omega
  clear hlw2 hlw3 hlw4 hlw5 hlw7 hlw8 hlw11 hlw12 hlw14 hl
  have hs14 : gx < w14.heap.size := by omega
  clear hsw5 hsw7 hsw8 hsw11 hsw12 hsw14 hs6 hs9 hs10 hs13
  obtain ⟨R, hR⟩ : ∃ R : Rc, R = ⟨qw2.1, qw3.1, qw4.1, qw5.1, qw7.1, qw8.1, qw12.1, []⟩ := ⟨_, rfl⟩
  have HR := Lib.hid hR
  rw [← hR] at hAw14
  clear hR
  go_wp2
  go_loopw [36] (fun i wr => ∃ (j : Nat) (d : List Nat) (s : Pk.RS) (dv : Value), j ≤ cnt ∧ i = .int .u64 j ∧ d.length = j ∧ Rd wr rb s ∧ RcAt wr gx R dv ∧ Own wr (gx + 1) 46 dv (d.map U) ∧ wr.heap[w.heap.size]? = some (.cells #[.int .i64 0, .int .i64 0, .int .i64 0, .int .i64 0, .string ⟨[].toArray⟩, .string ⟨[].toArray⟩, .string ⟨[].toArray⟩, .slice none 0 0] 24) ∧ Keep w wr ∧ Hid (Pk.nums cnt sq = (d ++ (Pk.nums (cnt - j) s).1, (Pk.nums (cnt - j) s).2)) ∧ s.l.length ≤ 100000 ∧ gx < wr.heap.size) (fun i _ => cnt - (intOf i).toNat)
  case atStart => exact ⟨0, [], sq, _, Nat.zero_le _, rfl, rfl, hrw14, hAw14, Own.nil _ _ _, hxw14, hkw14, by show _ = _; simp, hbl, hs14⟩
  case round =>
    obtain ⟨j, d, s, dv, hj, rfl, hdl, hrd, hAt, hOd, hx, hk, hN, hsl, hgs⟩ := hrel
    have HDL := Lib.hid hdl
    obtain ⟨ad, nd, cd, rfl⟩ := hOd.sl.shape
    by_cases hjn : j < cnt
    · go_upto_region 7 with (fail)
      have hkd : Keep wr wr.drew := (Keep.refl wr).drew
      have hrd0 := hrd.keep hkd
      have hAt0 := hAt.keep hkd
      have hOd0 := hOd.keep hkd
      have hx0 := (hkd.block _ (Array.getElem?_eq_some_iff.1 hx).1).trans hx
      have hk0 := hk.trans' hkd
      have hgs0 : gx < wr.drew.heap.size := hgs
      refine wp_region_ch 7 [none, none, none, some none, some none, some none, none] (fun w' => w'.cell? ⟨gx, 7, none⟩ = some (.slice ad nd cd)) (by kernel_rfl) (by kernel_rfl) (by kernel_rfl) (by kernel_rfl) hAt0.cells.2.2.2.2.2.2.2 ?_
      generalize wr.drew = W0 at *
      clear hrd hAt hOd hx hk hkd hgs hdl
      refine chT_pure rfl ?_
      go_big_quiet_step (fail)
      refine chT_on ?_
      refine chT_same (v := .slice ad nd cd) (by kernel_rfl) (fun w2 hC => by go_simp) ?_
      simp only [Act.put, List.setIfInBounds_toArray, List.set_cons_zero, List.set_cons_succ]
      refine chT_pure rfl ?_
      go_big_quiet_step (fail)
      refine chT_on ?_
      refine chT_gives (by kernel_rfl) ?_
      refine Gives.call (by go_simp) (num_any rb s 8 W0 hrd0 (by omega)) ?_
      rintro e wa ⟨rfl, hba, hra⟩
      have hAta : RcAt wa gx R _ := hba.at (by omega) hAt0
      have hOda := hOd0.but hba (by omega)
      have hxa := hba.at (by omega) hx0
      have hka : Keep w wa := hk0.trans (hba.below (Nat.le_of_lt hgl) hk0.size)
      have hga := hba.size
      have hla := numN_len s 8
      have hlt := numN_lt s 8 (by omega)
      rw [show ((8 : Nat) : Int) = 8 from rfl] at hlt
      have hnx : Pk.nums (cnt - j) s = ((Pk.numN s 8).1 :: (Pk.nums (cnt - (j + 1)) (Pk.numN s 8).2).1, (Pk.nums (cnt - (j + 1)) (Pk.numN s 8).2).2) := by
        rw [show cnt - j = (cnt - (j + 1)) + 1 by omega]
        rfl
      have HNX := Lib.hid hnx
      clear hnx
      generalize Pk.numN s 8 = q at *
      obtain ⟨qx, qs⟩ := q
      simp only at *
      refine ⟨_, rfl, hAta.cells.2.2.2.2.2.2.2, ?_⟩
      simp only [Act.put, List.setIfInBounds_toArray, List.set_cons_zero, List.set_cons_succ]
      clear hba hrd0 hAt0 hOd0 hx0 hk0
      refine chT_gives (by kernel_rfl) ?_
      refine Gives.value (v := .slice (some ⟨wa.heap.size, 0, none⟩) 1 1) (w' := wa.alloc (.cells #[.int .u64 (qx : Int)] 46)) (by go_simp) ?_
      have hkb := Keep.alloc wa (.cells #[.int .u64 (qx : Int)] 46)
      have hSl : Sl (wa.alloc (.cells #[.int .u64 (qx : Int)] 46)) (.slice (some ⟨wa.heap.size, 0, none⟩) 1 1) ([qx].map U) := Sl.laid wa _ _ _ _ 1 1 rfl rfl (by decide) (Nat.le_refl _)
      have hAtb := hAta.keep hkb
      have hOdb := hOda.keep hkb
      have hrb := hra.keep hkb
      have hxb := (hkb.block _ (Array.getElem?_eq_some_iff.1 hxa).1).trans hxa
      have hkwb := hka.trans' hkb
      have hgb := hkb.size
      generalize wa.alloc (.cells #[.int .u64 (qx : Int)] 46) = wb at *
      refine ⟨hAtb.cells.2.2.2.2.2.2.2, ?_⟩
      simp only [Act.put, List.setIfInBounds_toArray, List.set_cons_zero, List.set_cons_succ]
      clear hAta hOda hra hxa hka hkb
      refine chT_gives (by kernel_rfl) ?_
      refine Gives.append elemU _ _ rfl rfl rfl hOdb hSl (U_oneCell [qx]) (by unfold maxLen; simp only [List.length_map, HDL.out, List.length_cons, List.length_nil]; omega) (by simp only [List.length_map, HDL.out, List.length_cons, List.length_nil]; omega) (by omega) fun v4 w4 hO4 hg4 => ?_
      have hne : ∀ k, k ≤ gx → some k ≠ (Value.slice ad nd cd).ownBlock := fun k hk e => by have := (World.ownsRow.lt hOdb k e.symm).1; omega
      have hb4 : Below (gx + 1) wb w4 := Own.below hOdb hg4 (Nat.le_refl _) (by omega)
      have hAt4 : RcAt w4 gx R _ := (hb4.block gx (by omega)).trans hAtb
      have hr4 := hrb.above hb4 (by omega)
      have hx4 := (hb4.block w.heap.size (by omega)).trans hxb
      have hk4 : Keep w w4 := hkwb.trans (hb4.mono (by omega))
      have hs4 : gx < w4.heap.size := by have := hb4.size; omega
      refine ⟨hAt4.cells.2.2.2.2.2.2.2, ?_⟩
      simp only [Act.put, List.setIfInBounds_toArray, List.set_cons_zero, List.set_cons_succ]
      rw [← List.map_append] at hO4
      obtain ⟨a4, n4, c4, rfl⟩ := hO4.sl.shape
      clear hSl hAtb hOdb hrb hxb hkwb hg4 hb4
      refine chT_pure rfl ?_
      go_big_quiet_step (fail)
      refine chT_on ?_
      refine chT_done ?_
      have f7 := hAt4.cells.2.2.2.2.2.2.2
      have z7 := hAt4.free 7
      refine seqW_gives (by kernel_rfl) ?_
      refine Gives.skip (w' := w4.setCell ⟨gx, 7, none⟩ (.slice a4 n4 c4)) (by go_simp) ?_
      simp only [Act.put, List.setIfInBounds_toArray, List.set_cons_zero, List.set_cons_succ]
      refine seqW_done ?_
      have hAt5 := hAt4.set7 (.slice a4 n4 c4)
      have hr5 := hr4.cellSet (p := ⟨gx, 7, none⟩) (by simp only; omega) f7 (Rc.sl_ne _ _ _) (.slice a4 n4 c4)
      have hk5 : Keep w (w4.setCell ⟨gx, 7, none⟩ (.slice a4 n4 c4)) := Keep.setCell hk4 (by simp only; omega) _
      have hx5 := (Below.heap_setCell w4 ⟨gx, 7, none⟩ (.slice a4 n4 c4) w.heap.size (by simp only; omega)).trans hx4
      have hs5 : gx < (w4.setCell ⟨gx, 7, none⟩ (.slice a4 n4 c4)).heap.size := by simp only [World.setCell, Array.size_modify]; omega
      have hO5 : Own (w4.setCell ⟨gx, 7, none⟩ (.slice a4 n4 c4)) (gx + 1) 46 (.slice a4 n4 c4) ((d ++ [qx]).map U) := ownsRow_setCell_below hO4 (by simp only; omega) _
      generalize w4.setCell ⟨gx, 7, none⟩ (.slice a4 n4 c4) = w5 at *
      clear f7 z7 hAt4 hr4 hk4 hx4 hs4 hO4 hne
      have hN2 : Hid (Pk.nums cnt sq = ((d ++ [qx]) ++ (Pk.nums (cnt - (j + 1)) qs).1, (Pk.nums (cnt - (j + 1)) qs).2)) := by
        show _ = _
        rw [hN.out, HNX.out, List.append_assoc]
        rfl
      go_wp2
      go_roundw
      case rel => exact ⟨j + 1, d ++ [qx], qs, _, by omega, by go_num, by rw [List.length_append, HDL.out]; rfl, hr5, hAt5, hO5, hx5, hk5, hN2, by omega, hs5⟩
      case measure => simp [intOf]; omega
    · have hjl : j = cnt := by omega
      subst hjl
      go_upto_region 9 with (fail)
      have hN0 := hN.out
      rw [Nat.sub_self] at hN0
      simp only [Pk.nums, List.append_nil] at hN0
      have hXX := hX1.out
      rw [hN0] at hXX
      have hXR : X = ({ R with dirty := d }, s) := by rw [hXX, HR.out]
      have HXR := Lib.hid hXR
      clear hXX hXR hN0 hN hX1 HR
      have hrd0 := hrd.keep (Keep.refl wr).drew
      have hAt0 := hAt.keep (Keep.refl wr).drew
      have hO0 := hOd.keep (Keep.refl wr).drew
      have hx0 := ((Keep.refl wr).drew.block _ (Array.getElem?_eq_some_iff.1 hx).1).trans hx
      have hk0 : Keep w wr.drew := hk.trans' (Keep.refl wr).drew
      obtain ⟨W0, hW⟩ : ∃ W0, Hid (wr.drew = W0) := ⟨_, Lib.hid rfl⟩
      rw [hW.out] at hrd0 hAt0 hO0 hx0 hk0
      clear hrd hAt hOd hx hk hdl
      obtain ⟨c0, c1, c2, c3, c4, c5, c6, c7⟩ := hAt0.cells
      have hbl1 := laidOver_but W0 w.heap.size (.int .i64 R.kind) (.int .i64 R.txn) (.int .i64 R.page) (.int .i64 R.slot) (.string ⟨R.before.toArray⟩) (.string ⟨R.after.toArray⟩) (.string ⟨R.image.toArray⟩) (.slice ad nd cd)
      have hla1 := laidOver_at hx0 (.int .i64 R.kind) (.int .i64 R.txn) (.int .i64 R.page) (.int .i64 R.slot) (.string ⟨R.before.toArray⟩) (.string ⟨R.after.toArray⟩) (.string ⟨R.image.toArray⟩) (.slice ad nd cd)
      have hm8 : ∀ i x, (#[.int .i64 0, .int .i64 0, .int .i64 0, .int .i64 0, .string ⟨[].toArray⟩, .string ⟨[].toArray⟩, .string ⟨[].toArray⟩, .slice none 0 0] : Array Value)[i]? = some x → W0.cell? ⟨w.heap.size, i, none⟩ = some x := fun i x hi => by rw [cell_of_row _ _ _ _ _ _ hx0]; exact hi
      have n0 := hm8 0 _ rfl
      have n1 := hm8 1 _ rfl
      have n2 := hm8 2 _ rfl
      have n3 := hm8 3 _ rfl
      have n4 := hm8 4 _ rfl
      have n5 := hm8 5 _ rfl
      have n6 := hm8 6 _ rfl
      have n7 := hm8 7 _ rfl
      have hfz : ∀ i, W0.frozen? ⟨w.heap.size, i, none⟩ = false := fun i => frozen_of_row _ _ _ _ _ hx0
      have z0 := hfz 0
      have z1 := hfz 1
      have z2 := hfz 2
      have z3 := hfz 3
      have z4 := hfz 4
      have z5 := hfz 5
      have z6 := hfz 6
      have z7 := hfz 7
      have hOz : SlU (laidOver W0 w.heap.size (.int .i64 R.kind) (.int .i64 R.txn) (.int .i64 R.page) (.int .i64 R.slot) (.string ⟨R.before.toArray⟩) (.string ⟨R.after.toArray⟩) (.string ⟨R.image.toArray⟩) (.slice ad nd cd)) (.slice ad nd cd) d := (hO0.but hbl1 (by omega)).sl
      have hkz : Keep w (laidOver W0 w.heap.size (.int .i64 R.kind) (.int .i64 R.txn) (.int .i64 R.page) (.int .i64 R.slot) (.string ⟨R.before.toArray⟩) (.string ⟨R.after.toArray⟩) (.string ⟨R.image.toArray⟩) (.slice ad nd cd)) := hk0.trans (hbl1.below (Nat.le_refl _) hk0.size)
      have hm9 : ∀ i x, (#[.int .i64 R.kind, .int .i64 R.txn, .int .i64 R.page, .int .i64 R.slot, .string ⟨R.before.toArray⟩, .string ⟨R.after.toArray⟩, .string ⟨R.image.toArray⟩, .slice ad nd cd] : Array Value)[i]? = some x → (laidOver W0 w.heap.size (.int .i64 R.kind) (.int .i64 R.txn) (.int .i64 R.page) (.int .i64 R.slot) (.string ⟨R.before.toArray⟩) (.string ⟨R.after.toArray⟩) (.string ⟨R.image.toArray⟩) (.slice ad nd cd)).cell? ⟨w.heap.size, i, none⟩ = some x := fun i x hi => by rw [cell_of_row _ _ _ _ _ _ hla1]; exact hi
      have m0 := hm9 0 _ rfl
      have m1 := hm9 1 _ rfl
      have m2 := hm9 2 _ rfl
      have m3 := hm9 3 _ rfl
      have m4 := hm9 4 _ rfl
      have m5 := hm9 5 _ rfl
      have m6 := hm9 6 _ rfl
      have m7 := hm9 7 _ rfl
      clear hm8 hm9 hfz hla1 c0 c1 c2 c3 c4 c5 c6 c7
      cases hb : s.bad
      · skip
        refine wp_region_ch 11 [none, none, some (some (.bool false)), none, none, none, some (some (.int .i64 (s.l.length : Int))), none, none, some none, none] (fun w' => RcAt w' gx R (.slice ad nd cd) ∧ Rd w' rb s) (by kernel_rfl) (by kernel_rfl) (by kernel_rfl) (by kernel_rfl) (by rw [hW.out]; exact ⟨hAt0, hrd0⟩) ?_
        rw [hW.out]
        refine chT_same (v := .agg #[.int .i64 R.kind, .int .i64 R.txn, .int .i64 R.page, .int .i64 R.slot, .string ⟨R.before.toArray⟩, .string ⟨R.after.toArray⟩, .string ⟨R.image.toArray⟩, .slice ad nd cd]) (by kernel_rfl) (fun w2 hC => ?_) ?_
        · obtain ⟨e0, e1, e2, e3, e4, e5, e6, e7⟩ := hC.1.cells
          go_simp
        simp only [Act.put, List.setIfInBounds_toArray, List.set_cons_zero, List.set_cons_succ]
        refine chT_pure rfl ?_
        go_big_quiet_step (fail)
        refine chT_on ?_
        refine chT_still (by kernel_rfl) (fun w2 hC => ?_) ?_
        · refine Gives.call (by go_simp) (bad_any rb s w2 hC.2) ?_
          rintro e wa ⟨rfl, rfl⟩
          rw [hb]
          exact ⟨_, rfl, rfl, rfl⟩
        simp only [Act.put, List.setIfInBounds_toArray, List.set_cons_zero, List.set_cons_succ]
        refine chT_pure rfl ?_
        go_big_quiet_step (fail)
        refine chT_on ?_
        refine chT_pure rfl ?_
        go_big_quiet_step (fail)
        refine chT_on ?_
        refine chT_pure rfl ?_
        go_big_quiet_step (fail)
        refine chT_on ?_
        refine chT_still (by kernel_rfl) (fun w2 hC => ?_) ?_
        · refine Gives.call (by go_simp) (rest_any rb s w2 hC.2) ?_
          rintro e wa ⟨rfl, rfl⟩
          exact ⟨_, rfl, rfl, rfl⟩
        simp only [Act.put, List.setIfInBounds_toArray, List.set_cons_zero, List.set_cons_succ]
        refine chT_pure rfl ?_
        go_big_quiet_step (fail)
        refine chT_on ?_
        refine chT_pure rfl ?_
        go_big_quiet_step (fail)
        refine chT_on ?_
        refine chT_gives (by kernel_rfl) ?_
        refine Gives.skip (w' := laidOver W0 w.heap.size (.int .i64 R.kind) (.int .i64 R.txn) (.int .i64 R.page) (.int .i64 R.slot) (.string ⟨R.before.toArray⟩) (.string ⟨R.after.toArray⟩) (.string ⟨R.image.toArray⟩) (.slice ad nd cd)) (by unfold laidOver; go_simp) ?_
        refine ⟨⟨hbl1.at (by omega) hAt0, hrd0.butAt hbl1 hx0 zero_cells (by omega)⟩, ?_⟩
        simp only [Act.put, List.setIfInBounds_toArray, List.set_cons_zero, List.set_cons_succ]
        refine chT_pure rfl ?_
        go_big_quiet_step (fail)
        refine chT_on ?_
        refine chT_done ?_
        refine seqW_done ?_
        go_wp2
        by_cases hz : s.l.length = 0
        · have t1 : ((s.l.length : Int) == 0) = true := by rw [beq_iff_eq]; omega
          rw [t1]
          exact bodyPost_ret (v := .tuple #[.agg #[.int .i64 R.kind, .int .i64 R.txn, .int .i64 R.page, .int .i64 R.slot, .string ⟨R.before.toArray⟩, .string ⟨R.after.toArray⟩, .string ⟨R.image.toArray⟩, .slice ad nd cd], .bool true]) (by simp [results, Try.results29, go_sem, m0, m1, m2, m3, m4, m5, m6, m7]) rfl ⟨.slice ad nd cd, by rw [HXR.out]; simp [said, hb, hz, Rc.val], by rw [HXR.out]; exact hOz, hkz⟩
        · have t1 : ((s.l.length : Int) == 0) = false := by rw [beq_eq_false_iff_ne]; omega
          rw [t1]
          exact bodyPost_ret (v := .tuple #[.agg #[.int .i64 R.kind, .int .i64 R.txn, .int .i64 R.page, .int .i64 R.slot, .string ⟨R.before.toArray⟩, .string ⟨R.after.toArray⟩, .string ⟨R.image.toArray⟩, .slice ad nd cd], .bool false]) (by simp [results, Try.results29, go_sem, m0, m1, m2, m3, m4, m5, m6, m7]) rfl ⟨.slice ad nd cd, by rw [HXR.out]; simp [said, hb, hz, Rc.val], by rw [HXR.out]; exact hOz, hkz⟩
      · skip
        refine wp_region_ch 11 [none, none, some (some (.bool true)), none, none, none, none, none, none, some none, none] (fun w' => RcAt w' gx R (.slice ad nd cd) ∧ Rd w' rb s) (by kernel_rfl) (by kernel_rfl) (by kernel_rfl) (by kernel_rfl) (by rw [hW.out]; exact ⟨hAt0, hrd0⟩) ?_
        rw [hW.out]
        refine chT_same (v := .agg #[.int .i64 R.kind, .int .i64 R.txn, .int .i64 R.page, .int .i64 R.slot, .string ⟨R.before.toArray⟩, .string ⟨R.after.toArray⟩, .string ⟨R.image.toArray⟩, .slice ad nd cd]) (by kernel_rfl) (fun w2 hC => ?_) ?_
        · obtain ⟨e0, e1, e2, e3, e4, e5, e6, e7⟩ := hC.1.cells
          go_simp
        simp only [Act.put, List.setIfInBounds_toArray, List.set_cons_zero, List.set_cons_succ]
        refine chT_pure rfl ?_
        go_big_quiet_step (fail)
        refine chT_on ?_
        refine chT_still (by kernel_rfl) (fun w2 hC => ?_) ?_
        · refine Gives.call (by go_simp) (bad_any rb s w2 hC.2) ?_
          rintro e wa ⟨rfl, rfl⟩
          rw [hb]
          exact ⟨_, rfl, rfl, rfl⟩
        simp only [Act.put, List.setIfInBounds_toArray, List.set_cons_zero, List.set_cons_succ]
        refine chT_pure rfl ?_
        go_big_quiet_step (fail)
        refine chT_on ?_
        refine chT_pure rfl ?_
        go_big_quiet_step (fail)
        refine chT_on ?_
        refine chT_skip (by kernel_rfl) ?_
        simp only [Act.put, List.setIfInBounds_toArray, List.set_cons_zero, List.set_cons_succ]
        refine chT_skip (by kernel_rfl) ?_
        simp only [Act.put, List.setIfInBounds_toArray, List.set_cons_zero, List.set_cons_succ]
        refine chT_skip (by kernel_rfl) ?_
        simp only [Act.put, List.setIfInBounds_toArray, List.set_cons_zero, List.set_cons_succ]
        refine chT_pure rfl ?_
        go_big_quiet_step (fail)
        refine chT_on ?_
        refine chT_gives (by kernel_rfl) ?_
        refine Gives.skip (w' := laidOver W0 w.heap.size (.int .i64 R.kind) (.int .i64 R.txn) (.int .i64 R.page) (.int .i64 R.slot) (.string ⟨R.before.toArray⟩) (.string ⟨R.after.toArray⟩) (.string ⟨R.image.toArray⟩) (.slice ad nd cd)) (by unfold laidOver; go_simp) ?_
        refine ⟨⟨hbl1.at (by omega) hAt0, hrd0.butAt hbl1 hx0 zero_cells (by omega)⟩, ?_⟩
        simp only [Act.put, List.setIfInBounds_toArray, List.set_cons_zero, List.set_cons_succ]
        refine chT_pure rfl ?_
        go_big_quiet_step (fail)
        refine chT_on ?_
        refine chT_done ?_
        refine seqW_done ?_
        go_wp2
        exact bodyPost_ret (v := .tuple #[.agg #[.int .i64 R.kind, .int .i64 R.txn, .int .i64 R.page, .int .i64 R.slot, .string ⟨R.before.toArray⟩, .string ⟨R.after.toArray⟩, .string ⟨R.image.toArray⟩, .slice ad nd cd], .bool false]) (by simp [results, Try.results29, go_sem, m0, m1, m2, m3, m4, m5, m6, m7]) rfl ⟨.slice ad nd cd, by rw [HXR.out]; simp [said, hb, Rc.val], by rw [HXR.out]; exact hOz, hkz⟩
end Go.Proofs.Ytlihieefjlpadaa
