/- The walk of record.Decode. -/
import Derived.Test.YtlihieefjlpadaaSay
namespace Go.Proofs.Ytlihieefjlpadaa
open Go Go.RowKit
attribute [local irreducible] Go.wpQuiet

def Rc.zero : Rc := ⟨0, 0, 0, 0, [], [], [], []⟩
/-- what Decode gives -/
def decOut (b : List UInt8) : Rc × Int × Bool := match dec b with
  | some (r, n) => (r, n, true)
  | none => (Rc.zero, 0, false)

theorem SlU.butAt {w w' : World} {g : Nat} {v : Value} {l : List Nat} {cs : Array Value} {e : TypeId} (h : SlU w v l) (hb : But w w' g) (hg : w.heap[g]? = some (.cells cs e)) (hn : ∀ (j : Nat) (y : Nat), cs[j]? ≠ some (U y)) : SlU w' v l := by
  obtain ⟨ao, cap, hv, hm, hcap, hc⟩ := h
  refine ⟨ao, cap, hv, hm, hcap, fun i hi => ?_⟩
  obtain ⟨b, off, ha, hcell⟩ := hc i hi
  refine ⟨b, off, ha, ?_⟩
  have hlt := World.block_lt_of_cell? w _ hcell
  rw [World.cell?_of_block (w := w)]
  · exact hcell
  · refine hb.block _ hlt (fun h => ?_)
    cases h
    unfold World.cell? at hcell
    simp only [hg] at hcell
    have h1 : (l.map U)[i] = U (l[i]'(by simpa using hi)) := by simp
    rw [h1] at hcell
    exact hn _ _ (by simpa using hcell)
theorem zero_cellsU (j : Nat) (y : Nat) : (#[.int .i64 0, .int .i64 0, .int .i64 0, .int .i64 0, .string ⟨[].toArray⟩, .string ⟨[].toArray⟩, .string ⟨[].toArray⟩, .slice none 0 0] : Array Value)[j]? ≠ some (U y) := by
  match j with
  | 0 => simp [U]
  | 1 => simp [U]
  | 2 => simp [U]
  | 3 => simp [U]
  | 4 => simp [U]
  | 5 => simp [U]
  | 6 => simp [U]
  | 7 => simp [U]
  | j + 8 => simp
theorem cells8 {w : World} {g : Nat} {a b c d e f h i : Value} {t : TypeId} (hg : w.heap[g]? = some (.cells #[a, b, c, d, e, f, h, i] t)) : w.cell? ⟨g, 0, none⟩ = some a ∧ w.cell? ⟨g, 1, none⟩ = some b ∧ w.cell? ⟨g, 2, none⟩ = some c ∧ w.cell? ⟨g, 3, none⟩ = some d ∧ w.cell? ⟨g, 4, none⟩ = some e ∧ w.cell? ⟨g, 5, none⟩ = some f ∧ w.cell? ⟨g, 6, none⟩ = some h ∧ w.cell? ⟨g, 7, none⟩ = some i := by
  unfold World.cell?
  simp [hg]
theorem free8 {w : World} {g : Nat} {cs : Array Value} {t : TypeId} (hg : w.heap[g]? = some (.cells cs t)) : w.frozen? ⟨g, 0, none⟩ = false ∧ w.frozen? ⟨g, 1, none⟩ = false ∧ w.frozen? ⟨g, 2, none⟩ = false ∧ w.frozen? ⟨g, 3, none⟩ = false ∧ w.frozen? ⟨g, 4, none⟩ = false ∧ w.frozen? ⟨g, 5, none⟩ = false ∧ w.frozen? ⟨g, 6, none⟩ = false ∧ w.frozen? ⟨g, 7, none⟩ = false := by
  unfold World.frozen?
  simp [hg]

set_option maxRecDepth 100000 in
set_option maxHeartbeats 8000000 in
theorem decode_any (v : Value) (l : List UInt8) (w : World) (hv : SlB w v l) (hl : l.length ≤ 100000) : Calls Try.prog 16 #[v] w fun e w' => ∃ dv, e = .returned (.tuple #[(decOut l).1.val dv, .int .i64 (decOut l).2.1, .bool (decOut l).2.2]) ∧ SlU w' dv (decOut l).1.dirty ∧ Keep w w' := by
  have hv0 := hv
  obtain ⟨a0, n0, c0, rfl⟩ := hv.shape
  go_enter Try.func16, Try.ntmps16
  go_wp2_with fail
  have hx0 := heap_alloc_new w (.cells #[.int .i64 0, .int .i64 0, .int .i64 0, .int .i64 0, .string ⟨[].toArray⟩, .string ⟨[].toArray⟩, .string ⟨[].toArray⟩, .slice none 0 0] 24)
  have hk0 := Keep.alloc w (.cells #[.int .i64 0, .int .i64 0, .int .i64 0, .int .i64 0, .string ⟨[].toArray⟩, .string ⟨[].toArray⟩, .string ⟨[].toArray⟩, .slice none 0 0] 24)
  generalize w.alloc (.cells #[.int .i64 0, .int .i64 0, .int .i64 0, .int .i64 0, .string ⟨[].toArray⟩, .string ⟨[].toArray⟩, .string ⟨[].toArray⟩, .slice none 0 0] 24) = w0 at *
  refine (new_any _ l w0 (hv.keep hk0)).mono ?_
  rintro e w1 ⟨rfl, hr1, hk1, hsz1⟩
  have hx1 := (hk1.block _ (Array.getElem?_eq_some_iff.1 hx0).1).trans hx0
  have hgl := (Array.getElem?_eq_some_iff.1 hx0).1
  have hkw : Keep w w1 := hk0.trans' hk1
  have hrs : w0.heap.size < w1.heap.size := by omega
  clear hsz1 hk0 hk1 hx0
  generalize w0.heap.size = rb at *
  go_wp2_with fail
  refine (num_any rb ⟨l, false⟩ 2 w1 hr1 (by show l.length ≤ _; omega)).mono ?_
  rintro e w2 ⟨rfl, hb2, hr2⟩
  have hl2 := numN_len ⟨l, false⟩ 2
  have ht2 := numN_lt ⟨l, false⟩ 2 (by omega)
  rw [show ((2 : Nat) : Int) = 2 from rfl] at ht2
  have hk2 : Keep w w2 := hkw.trans (hb2.below (Nat.le_of_lt hgl) hkw.size)
  have hx2 := hb2.at (by omega) hx1
  have hs2 := hb2.size
  generalize hq2 : Pk.numN ⟨l, false⟩ 2 = q2 at *
  have HQ2 := Lib.hid hq2
  clear hq2 hr1 hkw hx1 hb2
  go_wp2_with fail
  refine (take_any rb q2.2 (q2.1 : Int) w2 hr2 (by have : q2.2.l.length ≤ l.length := hl2; omega)).mono ?_
  rintro e w3 ⟨v3, rfl, hO3, hb3, hr3⟩
  have hl3 := (Pk.take_len q2.2 (q2.1 : Int)).1
  have hk3 : Keep w w3 := hk2.trans (hb3.below (Nat.le_of_lt hgl) hk2.size)
  have hx3 := hb3.at (by omega) hx2
  generalize hq3 : Pk.take q2.2 (q2.1 : Int) = q3 at *
  have HQ3 := Lib.hid hq3
  have hB3 := hO3.slB
  obtain ⟨a3, n3, c3, rfl⟩ := hB3.shape
  clear hq3 hr2 hk2 hx2 hb3 hO3
  go_wp2_with fail
  refine (bad_any rb q3.2 w3 hr3).mono ?_
  rintro e w' ⟨rfl, rfl⟩
  have hbl : q3.1.length ≤ 100000 := by have : q2.2.l.length ≤ l.length := hl2; omega
  cases hb : q3.2.bad
  · go_wp2_with fail
    refine (say_any _ q3.1 w3 hB3 hbl).mono ?_
    rintro e w4 ⟨dv, rfl, hd4, hk4⟩
    have hx4 := (hk4.block _ (Array.getElem?_eq_some_iff.1 hx3).1).trans hx3
    have hkw4 := hk3.trans' hk4
    have hdx : said (say q3.1) = true → ∀ x ∈ (say q3.1).1.dirty, x < 256 ^ 8 := fun h => (body_say q3.1 h).2
    have hdec : decOut l = if (said (say q3.1) && (say q3.1).1.right) = true then ((say q3.1).1, ((2 + q2.1 : Nat) : Int), true) else (Rc.zero, 0, false) := by
      unfold decOut dec
      simp only [HQ2.out, HQ3.out, hb, Bool.false_eq_true, if_false]
      by_cases h : (said (say q3.1) && (say q3.1).1.right) = true
      · rw [if_pos h, if_pos h]
      · rw [if_neg h, if_neg h]
    have HDEC := Lib.hid hdec
    clear hdec HQ2 HQ3 hx3 hk3 hk4
    obtain ⟨ad, nd, cd, rfl⟩ := Sl.shape hd4
    have hR4 := right_any (say q3.1).1 (.slice ad nd cd)
    generalize hsb : said (say q3.1) = sb at *
    generalize hsr : (say q3.1).1 = x at *
    clear hsb hsr
    unfold Rc.val at *
    have hX5 := RcAt.laid w4 x (.slice ad nd cd)
    have hk45 := Keep.alloc w4 (.cells #[.int .i64 x.kind, .int .i64 x.txn, .int .i64 x.page, .int .i64 x.slot, .string ⟨x.before.toArray⟩, .string ⟨x.after.toArray⟩, .string ⟨x.image.toArray⟩, .slice ad nd cd] 24)
    go_upto_region 7 with (fail)
    have hx5 := (hk45.block _ (Array.getElem?_eq_some_iff.1 hx4).1).trans hx4
    have hd5 := hd4.keep hk45
    have hkw5 := hkw4.trans' hk45
    generalize w4.alloc (.cells #[.int .i64 x.kind, .int .i64 x.txn, .int .i64 x.page, .int .i64 x.slot, .string ⟨x.before.toArray⟩, .string ⟨x.after.toArray⟩, .string ⟨x.image.toArray⟩, .slice ad nd cd] 24) = w5 at *
    generalize w4.heap.size = gx at *
    clear hx4 hd4 hkw4 hk45
    cases sb
    · have hdec := HDEC.out
      simp only [Bool.false_and, Bool.false_eq_true, if_false] at hdec
      have HD := Lib.hid hdec
      clear hdec
      obtain ⟨n0, n1, n2, n3, n4, n5, n6, n7⟩ := cells8 hx5
      obtain ⟨z0, z1, z2, z3, z4, z5, z6, z7⟩ := free8 hx5
      obtain ⟨m0, m1, m2, m3, m4, m5, m6, m7⟩ := cells8 (laidOver_at hx5 (.int .i64 0) (.int .i64 0) (.int .i64 0) (.int .i64 0) (.string ⟨[].toArray⟩) (.string ⟨[].toArray⟩) (.string ⟨[].toArray⟩) (.slice none 0 0))
      have hbut := laidOver_but w5 w.heap.size (.int .i64 0) (.int .i64 0) (.int .i64 0) (.int .i64 0) (.string ⟨[].toArray⟩) (.string ⟨[].toArray⟩) (.string ⟨[].toArray⟩) (.slice none 0 0)
      unfold laidOver at m0 m1 m2 m3 m4 m5 m6 m7 hbut
      go_wp2
      exact bodyPost_ret (v := .tuple #[.agg #[.int .i64 0, .int .i64 0, .int .i64 0, .int .i64 0, .string ⟨[].toArray⟩, .string ⟨[].toArray⟩, .string ⟨[].toArray⟩, .slice none 0 0], .int .i64 0, .bool false]) (by simp [results, Try.results16, go_sem, m0, m1, m2, m3, m4, m5, m6, m7]) rfl ⟨.slice none 0 0, by rw [HD.out]; rfl, by rw [HD.out]; exact (show SlU _ (.slice none 0 0) [] from (Own.nil _ 0 46).sl), hkw5.trans (hbut.below (Nat.le_refl _) hkw5.size)⟩
    · obtain ⟨c0, c1, c2, c3, c4, c5, c6, c7⟩ := hX5.cells
      go_wp2_with fail
      refine (hR4 w5 hd5).mono ?_
      rintro e w6 ⟨rfl, hk6⟩
      have hx6 := (hk6.block _ (Array.getElem?_eq_some_iff.1 hx5).1).trans hx5
      have hd6 := hd5.keep hk6
      have hkw6 := hkw5.trans' hk6
      have hX6 := hX5.keep hk6
      have hdec := HDEC.out
      clear c0 c1 c2 c3 c4 c5 c6 c7 hX5 hx5 hd5 hkw5 hk6 HDEC
      cases hr : x.right
      · rw [hr] at hdec
        simp only [Bool.and_false, Bool.false_eq_true, if_false] at hdec
        have HD := Lib.hid hdec
        clear hdec
        obtain ⟨n0, n1, n2, n3, n4, n5, n6, n7⟩ := cells8 hx6
        obtain ⟨z0, z1, z2, z3, z4, z5, z6, z7⟩ := free8 hx6
        obtain ⟨m0, m1, m2, m3, m4, m5, m6, m7⟩ := cells8 (laidOver_at hx6 (.int .i64 0) (.int .i64 0) (.int .i64 0) (.int .i64 0) (.string ⟨[].toArray⟩) (.string ⟨[].toArray⟩) (.string ⟨[].toArray⟩) (.slice none 0 0))
        have hbut := laidOver_but w6 w.heap.size (.int .i64 0) (.int .i64 0) (.int .i64 0) (.int .i64 0) (.string ⟨[].toArray⟩) (.string ⟨[].toArray⟩) (.string ⟨[].toArray⟩) (.slice none 0 0)
        unfold laidOver at m0 m1 m2 m3 m4 m5 m6 m7 hbut
        go_wp2
        exact bodyPost_ret (v := .tuple #[.agg #[.int .i64 0, .int .i64 0, .int .i64 0, .int .i64 0, .string ⟨[].toArray⟩, .string ⟨[].toArray⟩, .string ⟨[].toArray⟩, .slice none 0 0], .int .i64 0, .bool false]) (by simp [results, Try.results16, go_sem, m0, m1, m2, m3, m4, m5, m6, m7]) rfl ⟨.slice none 0 0, by rw [HD.out]; rfl, by rw [HD.out]; exact (show SlU _ (.slice none 0 0) [] from (Own.nil _ 0 46).sl), hkw6.trans (hbut.below (Nat.le_refl _) hkw6.size)⟩
      · rw [hr] at hdec
        simp only [Bool.and_self, if_true] at hdec
        have HD := Lib.hid hdec
        clear hdec
        obtain ⟨c0, c1, c2, c3, c4, c5, c6, c7⟩ := hX6.cells
        obtain ⟨n0, n1, n2, n3, n4, n5, n6, n7⟩ := cells8 hx6
        obtain ⟨z0, z1, z2, z3, z4, z5, z6, z7⟩ := free8 hx6
        obtain ⟨m0, m1, m2, m3, m4, m5, m6, m7⟩ := cells8 (laidOver_at hx6 (.int .i64 x.kind) (.int .i64 x.txn) (.int .i64 x.page) (.int .i64 x.slot) (.string ⟨x.before.toArray⟩) (.string ⟨x.after.toArray⟩) (.string ⟨x.image.toArray⟩) (.slice ad nd cd))
        have hbut := laidOver_but w6 w.heap.size (.int .i64 x.kind) (.int .i64 x.txn) (.int .i64 x.page) (.int .i64 x.slot) (.string ⟨x.before.toArray⟩) (.string ⟨x.after.toArray⟩) (.string ⟨x.image.toArray⟩) (.slice ad nd cd)
        unfold laidOver at m0 m1 m2 m3 m4 m5 m6 m7 hbut
        have hdz : SlU _ (.slice ad nd cd) x.dirty := hd6.butAt hbut hx6 zero_cellsU
        go_wp2
        exact bodyPost_ret (v := .tuple #[.agg #[.int .i64 x.kind, .int .i64 x.txn, .int .i64 x.page, .int .i64 x.slot, .string ⟨x.before.toArray⟩, .string ⟨x.after.toArray⟩, .string ⟨x.image.toArray⟩, .slice ad nd cd], .int .i64 (2 + (q2.1 : Int)), .bool true]) (by simp [results, Try.results16, go_sem, m0, m1, m2, m3, m4, m5, m6, m7]) rfl ⟨.slice ad nd cd, by rw [HD.out]; simp [Rc.val], by rw [HD.out]; exact hdz, hkw6.trans (hbut.below (Nat.le_refl _) hkw6.size)⟩
  · have hdec : decOut l = (Rc.zero, 0, false) := by
      unfold decOut dec
      simp only [HQ2.out, HQ3.out, hb, if_true]
    have HDEC := Lib.hid hdec
    clear hdec
    obtain ⟨n0, n1, n2, n3, n4, n5, n6, n7⟩ := cells8 hx3
    obtain ⟨z0, z1, z2, z3, z4, z5, z6, z7⟩ := free8 hx3
    obtain ⟨m0, m1, m2, m3, m4, m5, m6, m7⟩ := cells8 (laidOver_at hx3 (.int .i64 0) (.int .i64 0) (.int .i64 0) (.int .i64 0) (.string ⟨[].toArray⟩) (.string ⟨[].toArray⟩) (.string ⟨[].toArray⟩) (.slice none 0 0))
    have hbut := laidOver_but w3 w.heap.size (.int .i64 0) (.int .i64 0) (.int .i64 0) (.int .i64 0) (.string ⟨[].toArray⟩) (.string ⟨[].toArray⟩) (.string ⟨[].toArray⟩) (.slice none 0 0)
    unfold laidOver at m0 m1 m2 m3 m4 m5 m6 m7 hbut
    go_wp2
    exact bodyPost_ret (v := .tuple #[.agg #[.int .i64 0, .int .i64 0, .int .i64 0, .int .i64 0, .string ⟨[].toArray⟩, .string ⟨[].toArray⟩, .string ⟨[].toArray⟩, .slice none 0 0], .int .i64 0, .bool false]) (by simp [results, Try.results16, go_sem, m0, m1, m2, m3, m4, m5, m6, m7]) rfl ⟨.slice none 0 0, by rw [HDEC.out]; rfl, by rw [HDEC.out]; exact (show SlU _ (.slice none 0 0) [] from (Own.nil _ 0 46).sl), hk3.trans (hbut.below (Nat.le_refl _) hk3.size)⟩
end Go.Proofs.Ytlihieefjlpadaa
