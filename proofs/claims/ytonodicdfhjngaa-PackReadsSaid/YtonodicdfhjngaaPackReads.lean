/- The walk of PackReads. -/
import Derived.Test.YtonodicdfhjngaaTakeCl
import Derived.Test.YtonodicdfhjngaaTell
import Derived.Laws.IdiomStrings
namespace Go.Proofs.Ytonodicdfhjngaa
open Go Go.RowKit
attribute [local irreducible] Go.wpQuiet

theorem SlB.but {w w1 : World} {rb : Nat} {v : Value} {l : List UInt8} (h : SlB w v l) (hb : But w w1 rb) {t : Pk.RS} (hr : Rd w rb t) : SlB w1 v l := by
  obtain ⟨ao, cap, hv, hm, hcap, hc⟩ := h
  refine ⟨ao, cap, hv, hm, hcap, fun i hi => ?_⟩
  obtain ⟨b, off, ha, hcell⟩ := hc i hi
  refine ⟨b, off, ha, ?_⟩
  have hne : b ≠ rb := by
    rintro rfl
    obtain ⟨v2, hh, hv2⟩ := hr
    obtain ⟨a2, n2, c2, rfl⟩ := hv2.shape
    have hx : (l.map B)[i] = B (l[i]'(by simpa using hi)) := by simp
    rw [hx] at hcell
    unfold World.cell? at hcell
    simp only [hh] at hcell
    rcases Nat.lt_or_ge (off + i) 2 with h | h
    · have h3 : off + i = 0 ∨ off + i = 1 := by omega
      rcases h3 with h3 | h3 <;> (simp [h3, B] at hcell)
    · rw [Array.getElem?_eq_none (by simpa using h)] at hcell
      simp at hcell
  rw [World.cell?_of_block (w := w) (a := ⟨b, off + i, none⟩) (hb.block b (World.block_lt_of_cell? w _ hcell) (fun h => hne (Option.some.inj h)))]
  exact hcell
theorem Cl.but {w w1 : World} {gb gv ga rb : Nat} {sb : Value} {l : List UInt8} {at' : Nat} {bad : Bool} (h : Cl w gb gv ga sb l at' bad) (hb : But w w1 rb) {t : Pk.RS} (hr : Rd w rb t) (n1 : gb ≠ rb) (n2 : gv ≠ rb) (n3 : ga ≠ rb) : Cl w1 gb gv ga sb l at' bad :=
  have q : ∀ g, g ≠ rb → g < w.heap.size → w1.heap[g]? = w.heap[g]? := fun g hg hl => hb.block g hl (fun e => hg (Option.some.inj e))
  ⟨(q gb n1 (Array.getElem?_eq_some_iff.1 h.hb).1).trans h.hb, (q gv n2 (Array.getElem?_eq_some_iff.1 h.hv).1).trans h.hv, (q ga n3 (Array.getElem?_eq_some_iff.1 h.ha).1).trans h.ha, h.hs.but hb hr, h.hl⟩
theorem Cl.keep {w w1 : World} {gb gv ga : Nat} {sb : Value} {l : List UInt8} {at' : Nat} {bad : Bool} (h : Cl w gb gv ga sb l at' bad) (hk : Keep w w1) : Cl w1 gb gv ga sb l at' bad :=
  ⟨(hk.block gb (Array.getElem?_eq_some_iff.1 h.hb).1).trans h.hb, (hk.block gv (Array.getElem?_eq_some_iff.1 h.hv).1).trans h.hv, (hk.block ga (Array.getElem?_eq_some_iff.1 h.ha).1).trans h.ha, h.hs.keep hk, h.hl⟩

theorem tmod_lt (k : Int) (m : Int) (hm : 0 < m) : -m < k.tmod m ∧ k.tmod m < m := by
  rcases Int.le_total 0 k with h | h
  · rw [Int.tmod_eq_emod_of_nonneg h]
    have := Int.emod_nonneg k (show m ≠ 0 by omega)
    have := Int.emod_lt_of_pos k hm
    omega
  · have e : k.tmod m = -((-k).tmod m) := by rw [Int.neg_tmod]; omega
    rw [e, Int.tmod_eq_emod_of_nonneg (by omega)]
    have := Int.emod_nonneg (-k) (show m ≠ 0 by omega)
    have := Int.emod_lt_of_pos (-k) hm
    omega
theorem tmod3 (k : Int) : (wrap64 (k.tmod 3 + 3)).tmod 3 = 0 ∨ (wrap64 (k.tmod 3 + 3)).tmod 3 = 1 ∨ (wrap64 (k.tmod 3 + 3)).tmod 3 = 2 := by
  have h1 := tmod_lt k 3 (by omega)
  have h2 : wrap64 (k.tmod 3 + 3) = k.tmod 3 + 3 := by unfold wrap64; omega
  rw [h2]
  generalize k.tmod 3 = q at *
  rw [Int.tmod_eq_emod_of_nonneg (by omega)]
  omega
/-- []byte(s) -/
theorem run_toBytes {P : Program} {src dst e : TypeId} (hs : P.underlying src = some .string) (hd : P.underlying dst = some (.slice e)) (he : P.underlying e = some (.int .u8)) (w : World) (l : List UInt8) :
    ∃ c w', (convert src dst (strV l)).run P w = .ok (.slice (some ⟨w.heap.size, 0, none⟩) l.length c) w' ∧ l.length ≤ c ∧ Keep w w' ∧ ∀ i (h : i < l.length), w'.cell? ⟨w.heap.size, i, none⟩ = some (.int .u8 (l[i].toNat : Int)) := by
  have h := run_bytes_of_string (P := P) w src dst e ⟨l.toArray⟩ hs hd he
  rw [size_str] at h
  refine ⟨_, _, h, grownCap_ge _ _ _ _, Keep.trans' (b := w.drew) (Keep.refl w).drew (Keep.alloc _ _), fun i hi => ?_⟩
  show (w.drew.alloc _).cell? ⟨w.drew.heap.size, i, none⟩ = _
  rw [cell_of_row _ _ _ _ _ _ (heap_alloc_new w.drew _)]
  unfold bytesRow
  rw [Array.getElem?_append_left (by simpa using hi)]
  simp [hi]
theorem numN_bad (x : List UInt8) (bad : Bool) (q : Int) (h : q < 1 ∨ 8 < q) : Pk.numN ⟨x, bad⟩ q = (Pk.num (Pk.take ⟨x, true⟩ q).1, (Pk.take ⟨x, true⟩ q).2) := by
  unfold Pk.numN Pk.take
  simp [h]
theorem numN_good (x : List UInt8) (bad : Bool) (q : Int) (h : ¬ (q < 1 ∨ 8 < q)) : Pk.numN ⟨x, bad⟩ q = (Pk.num (Pk.take ⟨x, bad⟩ q).1, (Pk.take ⟨x, bad⟩ q).2) := by
  unfold Pk.numN
  simp only [if_neg h]
theorem num_one (c : UInt8) : Pk.num [c] = c.toNat := by
  have := c.toNat_lt
  simp only [Pk.num, List.foldl_cons, List.foldl_nil]
  omega
theorem take_one (s : Pk.RS) : (Pk.take s 1).1 = [] ∨ ∃ c, (Pk.take s 1).1 = [c] := by
  unfold Pk.take
  split
  · exact .inl rfl
  · rename_i h
    simp only [not_or, Int.not_lt] at h
    cases hl : s.l with
    | nil => rw [hl] at h; simp at h
    | cons c l => exact .inr ⟨c, by simp⟩
/-- the calls -/
def Called (w : World) (v : Value) (n : Nat) : Prop := ∃ ac cc, v = .slice ac n cc ∧ n ≤ maxLen ∧ ∀ i, i < n → ∃ (b off : Nat) (k m : Int), ac = some ⟨b, off, none⟩ ∧ w.cell? ⟨b, off + i * 2, none⟩ = some (.int .i64 k) ∧ w.cell? ⟨b, off + i * 2 + 1, none⟩ = some (.int .i64 m) ∧ -9223372036854775808 ≤ m ∧ m ≤ 9223372036854775807

set_option maxRecDepth 100000 in
set_option maxHeartbeats 20000000 in
theorem packReads_any (v vc : Value) (l : List UInt8) (n : Nat) (w : World) (hv : SlB w v l) (hvc : Called w vc n) :
    Calls Try.prog 4 #[v, vc] w fun e w' => e = .returned (.bool true) ∧ Keep w w' := by
  obtain ⟨ac, cc, rfl, hn, hcs⟩ := hvc
  have hv0 := hv
  obtain ⟨ab, cb, rfl, hm, hcap, -⟩ := hv.form
  unfold maxLen at hm hn
  have HC := Lib.hid hcs
  clear hcs hv
  go_enter Try.func4, Try.ntmps4
  go_wp2_with fail
  have d0 : (w.alloc (.cells #[.slice ab l.length cb] 24)).heap[w.heap.size]? = some (.cells #[.slice ab l.length cb] 24) := heap_alloc_new _ _
  have hk0 := Keep.alloc w (.cells #[.slice ab l.length cb] 24)
  generalize w.alloc (.cells #[.slice ab l.length cb] 24) = w0 at *
  refine (fit_any w0).mono ?_
  rintro e w1 ⟨rfl, hk1⟩
  have hkw := hk0.trans' hk1
  have d1 := (hk1.block _ (Array.getElem?_eq_some_iff.1 d0).1).trans d0
  obtain ⟨e0, e1⟩ := cell_one d1
  clear d0 hk0 hk1
  by_cases hl : l.length ≤ 1000
  rotate_left
  · have t1 : decide ((1000 : Int) < (l.length : Int)) = true := decide_eq_true (by omega)
    go_wp2
    go_ret
    exact ⟨rfl, hkw⟩
  have t1 : decide ((1000 : Int) < (l.length : Int)) = false := decide_eq_false (by omega)
  by_cases hnn : n ≤ 200
  rotate_left
  · have t2 : decide ((200 : Int) < (n : Int)) = true := decide_eq_true (by omega)
    go_wp2
    go_ret
    exact ⟨rfl, hkw⟩
  have t2 : decide ((200 : Int) < (n : Int)) = false := decide_eq_false (by omega)
  go_wp2_with fail
  refine (new_any _ l w1 (hv0.keep hkw)).mono ?_
  rintro e w2 ⟨rfl, hrd, hk2, hsz2⟩
  have d2 := (hk2.block _ (Array.getElem?_eq_some_iff.1 d1).1).trans d1
  clear e0 e1 t1 t2
  go_upto_region 9 with (fail)
  have hC0 : Cl ((w2.alloc (.cells #[.int .i64 0] 3)).alloc (.cells #[.bool false] 4)) (w1.heap.size + 1 + 1) w.heap.size (w1.heap.size + 1) (.slice ab l.length cb) l 0 false := by
    have k1 := Keep.alloc w2 (.cells #[.int .i64 0] 3)
    have k2 := Keep.alloc (w2.alloc (.cells #[.int .i64 0] 3)) (.cells #[.bool false] 4)
    have a1 := heap_alloc_new w2 (.cells #[.int .i64 0] 3)
    have a2 := heap_alloc_new (w2.alloc (.cells #[.int .i64 0] 3)) (.cells #[.bool false] 4)
    have s1 : (w2.alloc (.cells #[.int .i64 0] 3)).heap.size = w1.heap.size + 1 + 1 := by simp [hsz2]
    rw [s1] at a2
    rw [hsz2] at a1
    refine ⟨a2, (k2.block _ ?_).trans ((k1.block _ (Array.getElem?_eq_some_iff.1 d2).1).trans d2), (k2.block _ (Array.getElem?_eq_some_iff.1 a1).1).trans a1, (((hv0.keep hkw).keep hk2).keep k1).keep k2, Nat.zero_le _⟩
    exact (Array.getElem?_eq_some_iff.1 ((k1.block _ (Array.getElem?_eq_some_iff.1 d2).1).trans d2)).1
  have hk23 := (Keep.alloc w2 (.cells #[.int .i64 0] 3)).trans' (Keep.alloc (w2.alloc (.cells #[.int .i64 0] 3)) (.cells #[.bool false] 4))
  have hR0 : Rd ((w2.alloc (.cells #[.int .i64 0] 3)).alloc (.cells #[.bool false] 4)) w1.heap.size ⟨l.drop 0, false⟩ := hrd.keep hk23
  have hk3 := (hkw.trans' hk2).trans' hk23
  have hlt : w.heap.size < w1.heap.size := (Array.getElem?_eq_some_iff.1 d1).1
  generalize (w2.alloc (.cells #[.int .i64 0] 3)).alloc (.cells #[.bool false] 4) = w3 at *
  clear hk23 hk2 hkw d1 d2 hrd hsz2
  generalize w1.heap.size = rb at *
  go_loopw [34] (fun i wr => ∃ j : Nat, j ≤ n ∧ i = .int .i64 j ∧ ∃ (p : Nat) (bad : Bool), Cl wr (rb + 1 + 1) w.heap.size (rb + 1) (.slice ab l.length cb) l p bad ∧ Rd wr rb ⟨l.drop p, bad⟩ ∧ Keep w wr) (fun i _ => n - (intOf i).toNat)
  case atStart => exact ⟨0, Nat.zero_le _, rfl, 0, false, hC0, hR0, hk3⟩
  case round =>
    obtain ⟨j, hj, rfl, p, bad, hC, hR, hk⟩ := hrel
    by_cases hjn : j < n
    · obtain ⟨b, off, k, m, rfl, hx, hy, hm1, hm2⟩ := HC.out j hjn
      have hx := (hk.cell (World.block_lt_of_cell? w _ hx)).trans hx
      have hy := (hk.cell (World.block_lt_of_cell? w _ hy)).trans hy
      go_upto_region 19 with (fail)
      have hz := heap_alloc_new wr (.cells #[.int .i64 k, .int .i64 m] 35)
      have hkr := Keep.alloc wr (.cells #[.int .i64 k, .int .i64 m] 35)
      have hCr := hC.keep hkr
      have hRr := hR.keep hkr
      have hkw := hk.trans' hkr
      have hgc : rb + 1 + 1 < wr.heap.size := (Array.getElem?_eq_some_iff.1 hC.hb).1
      generalize wr.alloc (.cells #[.int .i64 k, .int .i64 m] 35) = W at *
      generalize wr.heap.size = gc at *
      clear hC hR hk hkr hx hy HC hC0 hR0 hk3
      have hzc : W.cell? ⟨gc, 0, none⟩ = some (.int .i64 k) ∧ W.cell? ⟨gc, 1, none⟩ = some (.int .i64 m) := by unfold World.cell?; simp [hz]
      obtain ⟨z0, z1⟩ := hzc
      rcases tmod3 k with hq | hq | hq
      · go_wp2_with fail
        refine (take_cl (rb + 1 + 1) w.heap.size (rb + 1) _ l p bad m W hCr (by omega) (by omega) (by omega) hl hm2).mono ?_
        rintro e w5 ⟨rfl, p2, bad2, hC5, hT, hB⟩
        have hR5 := hB.rd rb _ (by omega) (by omega) hRr
        have hk5 := hkw.trans (hB.below _ (by omega) (by omega))
        have hz5 := (hB.block gc (by omega) (by omega)).trans hz
        have z5 : w5.cell? ⟨gc, 0, none⟩ = some (.int .i64 k) ∧ w5.cell? ⟨gc, 1, none⟩ = some (.int .i64 m) := by unfold World.cell?; simp [hz5]
        obtain ⟨z2, z3⟩ := z5
        clear hz hkw hCr hRr hB z0 z1
        go_wp2_with fail
        refine (take_any rb _ m w5 hR5 (by rw [List.length_drop]; omega)).mono ?_
        rintro e w6 ⟨v6, rfl, hO6, hB6, hR6⟩
        have hC6 := hC5.but hB6 hR5 (by omega) (by omega) (by omega)
        have hk6 : Keep w w6 := hk5.trans (hB6.below (by omega) (by have := hk5.size; omega))
        generalize Pk.take ⟨l.drop p, bad⟩ m = T at *
        obtain ⟨t, s2⟩ := T
        obtain rfl : s2 = ⟨l.drop p2, bad2⟩ := hT
        obtain ⟨a6, n6, c6, rfl⟩ := hO6.slB.shape
        have hst := run_toString (P := Try.prog) Try.underlying24 Try.underlying5 Try.underlying9 hO6.slB
        unfold strV at *
        clear hO6 hB6 hC5 hR5 hk5 hz5 z2 z3
        go_wp2_with fail
        obtain ⟨q0, -⟩ := cell_one hC6.hb
        obtain ⟨q1, -⟩ := cell_one hC6.hv
        obtain ⟨q2, -⟩ := cell_one hC6.ha
        have lq0 := World.block_lt_of_cell? w6 _ q0
        have lq1 := World.block_lt_of_cell? w6 _ q1
        have lq2 := World.block_lt_of_cell? w6 _ q2
        have hpl := hC6.hl
        refine wp_region_ord' [none, some (oV (.bool bad2)), some (oV (.bool bad2)), none, none, none, some (oV (.int .i64 ((l.length : Int) - (p2 : Int)))), some (oV (.slice ab l.length cb)), none, some (oV (.int .i64 (p2 : Int))), none, none, none]
          #[0, 0, 0, 0, 0, 0, 0, 0, 0, 0, 0, 0, 0] (w6.heap.size) (fun w' => Keep w6 w') (by kernel_rfl) (by kernel_rfl) (by kernel_rfl) ((Keep.refl w6).drew) ?_
        refine ordT_pure rfl ?_
        go_big_quiet_step (fail)
        refine ordT_on ?_
        refine ordT_callV (by kernel_rfl) keepK (fun w2 own hC hF => ?_) ?_
        · refine ⟨_, _, by go_simp, (bad_any rb _ w2 (hR6.keep hC)).mono ?_⟩
          rintro e w' ⟨rfl, rfl⟩
          exact ⟨rfl, Keep.refl _⟩
        simp only [Act.put, List.setIfInBounds_toArray, List.set_cons_zero, List.set_cons_succ]
        refine ordT_same (by kernel_rfl) (fun w2 hC => ?_) ?_
        · have x0 := (hC.cell lq0).trans q0
          go_simp
        simp only [Act.put, List.setIfInBounds_toArray, List.set_cons_zero, List.set_cons_succ]
        refine ordT_pure rfl ?_
        go_big_quiet_step (fail)
        refine ordT_on ?_
        refine ordT_pure rfl ?_
        go_big_quiet_step (fail)
        refine ordT_on ?_
        refine ordT_pure rfl ?_
        go_big_quiet_step (fail)
        refine ordT_on ?_
        refine ordT_callV (by kernel_rfl) keepK (fun w2 own hC hF => ?_) ?_
        · refine ⟨_, _, by go_simp, (rest_any rb _ w2 (hR6.keep hC)).mono ?_⟩
          rintro e w' ⟨rfl, rfl⟩
          exact ⟨by rw [List.length_drop]; congr 2; omega, Keep.refl _⟩
        simp only [Act.put, List.setIfInBounds_toArray, List.set_cons_zero, List.set_cons_succ]
        refine ordT_same (by kernel_rfl) (fun w2 hC => ?_) ?_
        · have x0 := (hC.cell lq1).trans q1
          go_simp
        simp only [Act.put, List.setIfInBounds_toArray, List.set_cons_zero, List.set_cons_succ]
        refine ordT_pure rfl ?_
        go_big_quiet_step (fail)
        refine ordT_on ?_
        refine ordT_same (by kernel_rfl) (fun w2 hC => ?_) ?_
        · have x0 := (hC.cell lq2).trans q2
          go_simp
        simp only [Act.put, List.setIfInBounds_toArray, List.set_cons_zero, List.set_cons_succ]
        refine ordT_pure rfl ?_
        go_big_quiet_step (fail)
        refine ordT_on ?_
        refine ordT_pure rfl ?_
        go_big_quiet_step (fail)
        refine ordT_on ?_
        refine ordT_pure rfl ?_
        go_big_quiet_step (fail)
        refine ordT_on ?_
        refine ordT_done fun w2 own hC hF => ?_
        clear hF
        have hCe := hC6.keep hC
        have hRe := hR6.keep hC
        have hke := Keep.trans' hk6 hC
        clear hC6 hR6 hk6 hC q0 q1 q2 lq0 lq1 lq2
        go_wp2
        go_roundw
        case rel => exact ⟨j + 1, by omega, by go_num, p2, bad2, hCe, hRe, hke⟩
        case measure => simp [intOf]; omega
      · obtain ⟨q, e11⟩ : ∃ q, m.tmod 11 = q := ⟨_, rfl⟩
        have hb11 := tmod_lt m 11 (by omega)
        rw [e11] at hb11
        obtain ⟨y0, y1⟩ := cell_one hCr.hb
        by_cases hout : q < 1 ∨ 8 < q
        · have hC1 := hCr.setBad (by omega) (by omega) true
          have hR1 := hRr.cellSet (g := rb + 1 + 1) (by omega) y0 (fun b => by unfold B; simp) (.bool true)
          have hk1 : Keep w (W.setCell ⟨rb + 1 + 1, 0, none⟩ (.bool true)) := Keep.setCell hkw (by simp only; omega) _
          have hz1 := (heap_far (w := W) (g := rb + 1 + 1) (k := gc) (by omega) (.bool true)).trans hz
          by_cases hq1 : q < 1
          · have t1 : decide (q < 1) = true := decide_eq_true hq1
            go_wp2_with fail
            generalize W.setCell ⟨rb + 1 + 1, 0, none⟩ (.bool true) = W1 at *
            clear hCr hRr hkw hz y0 y1 t1
            refine (take_cl (rb + 1 + 1) w.heap.size (rb + 1) _ l p true q W1 hC1 (by omega) (by omega) (by omega) hl (by omega)).mono ?_
            rintro e w5 ⟨rfl, p2, bad2, hC5, hT, hB⟩
            have hR5 := hB.rd rb _ (by omega) (by omega) hR1
            have hk5 := hk1.trans (hB.below _ (by omega) (by omega))
            have hN := numN_bad (l.drop p) bad q hout
            have htl := (Pk.take_len ⟨l.drop p, true⟩ q).1
            generalize Pk.take ⟨l.drop p, true⟩ q = T at *
            obtain ⟨t, s2⟩ := T
            obtain rfl : s2 = ⟨l.drop p2, bad2⟩ := hT
            simp only [List.length_drop] at htl
            have HN := Lib.hid hN
            obtain ⟨cB, w6, hrun, hcB, hkB, hcells⟩ := run_toBytes (P := Try.prog) Try.underlying9 Try.underlying24 Try.underlying5 w5 t
            have HCE := Lib.hid hcells
            have hC6 := hC5.keep hkB
            have hR6 := hR5.keep hkB
            have hk6 : Keep w w6 := Keep.trans' hk5 hkB
            unfold strV at *
            generalize w5.heap.size = gt at *
            clear hcells hN hC5 hR5 hk5 hkB hC1 hR1 hk1 hz1 z0 z1 hB
            go_wp2
            go_loop [13, 86] (fun x i => ∃ k : Nat, k ≤ t.length ∧ i = .int .i64 k ∧ x = .int .u64 (Pk.num (t.take k))) (fun _ i => t.length - (intOf i).toNat)
            case atStart => exact ⟨0, by omega, rfl, rfl⟩
            case round =>
              obtain ⟨k2, hk2, rfl, rfl⟩ := hrel
              by_cases hk3 : k2 < t.length
              · have hcell := HCE.out k2 hk3
                have HS := Lib.hid (num_snoc t k2 hk3)
                have hx := num_lt (t.take k2)
                have hu := t[k2].toNat_lt
                generalize t[k2] = u at *
                generalize Pk.num (t.take k2) = x at *
                go_wp2
                go_round
                case rel =>
                  refine ⟨k2 + 1, by omega, by go_num, ?_⟩
                  rw [HS.out, IntKind.wrap_u64, IntKind.wrap_u64]
                  congr 1
                  omega
                case measure => simp [intOf]; omega
              · have hk4 : k2 = t.length := by omega
                subst hk4
                rw [List.take_length]
                go_wp2_with fail
                refine (num_any rb _ q w6 hR6 (by rw [List.length_drop]; omega)).mono ?_
                rintro e w7 ⟨rfl, hB7, hR7⟩
                rw [HN.out] at hR7 ⊢
                have hC7 := hC6.but hB7 hR6 (by omega) (by omega) (by omega)
                have hk7 : Keep w w7 := hk6.trans (hB7.below (by omega) (by have := hk6.size; omega))
                clear hC6 hR6 hk6 hB7 hrun
                go_wp2_with fail

                obtain ⟨q0, -⟩ := cell_one hC7.hb
                obtain ⟨q1, -⟩ := cell_one hC7.hv
                obtain ⟨q2, -⟩ := cell_one hC7.ha
                have lq0 := World.block_lt_of_cell? w7 _ q0
                have lq1 := World.block_lt_of_cell? w7 _ q1
                have lq2 := World.block_lt_of_cell? w7 _ q2
                have hpl := hC7.hl
                refine wp_region_ord' [none, some (oV (.bool bad2)), some (oV (.bool bad2)), none, none, none, some (oV (.int .i64 ((l.length : Int) - (p2 : Int)))), some (oV (.slice ab l.length cb)), none, some (oV (.int .i64 (p2 : Int))), none, none, none]
                  #[0, 0, 0, 0, 0, 0, 0, 0, 0, 0, 0, 0, 0] (w7.heap.size) (fun w' => Keep w7 w') (by kernel_rfl) (by kernel_rfl) (by kernel_rfl) ((Keep.refl w7).drew) ?_
                refine ordT_pure rfl ?_
                go_big_quiet_step (fail)
                refine ordT_on ?_
                refine ordT_callV (by kernel_rfl) keepK (fun w2 own hC hF => ?_) ?_
                · refine ⟨_, _, by go_simp, (bad_any rb _ w2 (hR7.keep hC)).mono ?_⟩
                  rintro e w' ⟨rfl, rfl⟩
                  exact ⟨rfl, Keep.refl _⟩
                simp only [Act.put, List.setIfInBounds_toArray, List.set_cons_zero, List.set_cons_succ]
                refine ordT_same (by kernel_rfl) (fun w2 hC => ?_) ?_
                · have x0 := (hC.cell lq0).trans q0
                  go_simp
                simp only [Act.put, List.setIfInBounds_toArray, List.set_cons_zero, List.set_cons_succ]
                refine ordT_pure rfl ?_
                go_big_quiet_step (fail)
                refine ordT_on ?_
                refine ordT_pure rfl ?_
                go_big_quiet_step (fail)
                refine ordT_on ?_
                refine ordT_pure rfl ?_
                go_big_quiet_step (fail)
                refine ordT_on ?_
                refine ordT_callV (by kernel_rfl) keepK (fun w2 own hC hF => ?_) ?_
                · refine ⟨_, _, by go_simp, (rest_any rb _ w2 (hR7.keep hC)).mono ?_⟩
                  rintro e w' ⟨rfl, rfl⟩
                  exact ⟨by rw [List.length_drop]; congr 2; omega, Keep.refl _⟩
                simp only [Act.put, List.setIfInBounds_toArray, List.set_cons_zero, List.set_cons_succ]
                refine ordT_same (by kernel_rfl) (fun w2 hC => ?_) ?_
                · have x0 := (hC.cell lq1).trans q1
                  go_simp
                simp only [Act.put, List.setIfInBounds_toArray, List.set_cons_zero, List.set_cons_succ]
                refine ordT_pure rfl ?_
                go_big_quiet_step (fail)
                refine ordT_on ?_
                refine ordT_same (by kernel_rfl) (fun w2 hC => ?_) ?_
                · have x0 := (hC.cell lq2).trans q2
                  go_simp
                simp only [Act.put, List.setIfInBounds_toArray, List.set_cons_zero, List.set_cons_succ]
                refine ordT_pure rfl ?_
                go_big_quiet_step (fail)
                refine ordT_on ?_
                refine ordT_pure rfl ?_
                go_big_quiet_step (fail)
                refine ordT_on ?_
                refine ordT_pure rfl ?_
                go_big_quiet_step (fail)
                refine ordT_on ?_
                refine ordT_done fun w2 own hC hF => ?_
                clear hF
                have hCe := hC7.keep hC
                have hRe := hR7.keep hC
                have hke := Keep.trans' hk7 hC
                clear hC7 hR7 hk7 hC q0 q1 q2 lq0 lq1 lq2
                go_wp2
                go_roundw
                case rel => exact ⟨j + 1, by omega, by go_num, p2, bad2, hCe, hRe, hke⟩
                case measure => simp [intOf]; omega
          · have t1 : decide (q < 1) = false := decide_eq_false hq1
            have t2 : decide (8 < q) = true := decide_eq_true (by omega)
            go_wp2_with fail
            generalize W.setCell ⟨rb + 1 + 1, 0, none⟩ (.bool true) = W1 at *
            clear hCr hRr hkw hz y0 y1 t1 t2
            refine (take_cl (rb + 1 + 1) w.heap.size (rb + 1) _ l p true q W1 hC1 (by omega) (by omega) (by omega) hl (by omega)).mono ?_
            rintro e w5 ⟨rfl, p2, bad2, hC5, hT, hB⟩
            have hR5 := hB.rd rb _ (by omega) (by omega) hR1
            have hk5 := hk1.trans (hB.below _ (by omega) (by omega))
            have hN := numN_bad (l.drop p) bad q hout
            have htl := (Pk.take_len ⟨l.drop p, true⟩ q).1
            generalize Pk.take ⟨l.drop p, true⟩ q = T at *
            obtain ⟨t, s2⟩ := T
            obtain rfl : s2 = ⟨l.drop p2, bad2⟩ := hT
            simp only [List.length_drop] at htl
            have HN := Lib.hid hN
            obtain ⟨cB, w6, hrun, hcB, hkB, hcells⟩ := run_toBytes (P := Try.prog) Try.underlying9 Try.underlying24 Try.underlying5 w5 t
            have HCE := Lib.hid hcells
            have hC6 := hC5.keep hkB
            have hR6 := hR5.keep hkB
            have hk6 : Keep w w6 := Keep.trans' hk5 hkB
            unfold strV at *
            generalize w5.heap.size = gt at *
            clear hcells hN hC5 hR5 hk5 hkB hC1 hR1 hk1 hz1 z0 z1 hB
            go_wp2
            go_loop [13, 86] (fun x i => ∃ k : Nat, k ≤ t.length ∧ i = .int .i64 k ∧ x = .int .u64 (Pk.num (t.take k))) (fun _ i => t.length - (intOf i).toNat)
            case atStart => exact ⟨0, by omega, rfl, rfl⟩
            case round =>
              obtain ⟨k2, hk2, rfl, rfl⟩ := hrel
              by_cases hk3 : k2 < t.length
              · have hcell := HCE.out k2 hk3
                have HS := Lib.hid (num_snoc t k2 hk3)
                have hx := num_lt (t.take k2)
                have hu := t[k2].toNat_lt
                generalize t[k2] = u at *
                generalize Pk.num (t.take k2) = x at *
                go_wp2
                go_round
                case rel =>
                  refine ⟨k2 + 1, by omega, by go_num, ?_⟩
                  rw [HS.out, IntKind.wrap_u64, IntKind.wrap_u64]
                  congr 1
                  omega
                case measure => simp [intOf]; omega
              · have hk4 : k2 = t.length := by omega
                subst hk4
                rw [List.take_length]
                go_wp2_with fail
                refine (num_any rb _ q w6 hR6 (by rw [List.length_drop]; omega)).mono ?_
                rintro e w7 ⟨rfl, hB7, hR7⟩
                rw [HN.out] at hR7 ⊢
                have hC7 := hC6.but hB7 hR6 (by omega) (by omega) (by omega)
                have hk7 : Keep w w7 := hk6.trans (hB7.below (by omega) (by have := hk6.size; omega))
                clear hC6 hR6 hk6 hB7 hrun
                go_wp2_with fail

                obtain ⟨q0, -⟩ := cell_one hC7.hb
                obtain ⟨q1, -⟩ := cell_one hC7.hv
                obtain ⟨q2, -⟩ := cell_one hC7.ha
                have lq0 := World.block_lt_of_cell? w7 _ q0
                have lq1 := World.block_lt_of_cell? w7 _ q1
                have lq2 := World.block_lt_of_cell? w7 _ q2
                have hpl := hC7.hl
                refine wp_region_ord' [none, some (oV (.bool bad2)), some (oV (.bool bad2)), none, none, none, some (oV (.int .i64 ((l.length : Int) - (p2 : Int)))), some (oV (.slice ab l.length cb)), none, some (oV (.int .i64 (p2 : Int))), none, none, none]
                  #[0, 0, 0, 0, 0, 0, 0, 0, 0, 0, 0, 0, 0] (w7.heap.size) (fun w' => Keep w7 w') (by kernel_rfl) (by kernel_rfl) (by kernel_rfl) ((Keep.refl w7).drew) ?_
                refine ordT_pure rfl ?_
                go_big_quiet_step (fail)
                refine ordT_on ?_
                refine ordT_callV (by kernel_rfl) keepK (fun w2 own hC hF => ?_) ?_
                · refine ⟨_, _, by go_simp, (bad_any rb _ w2 (hR7.keep hC)).mono ?_⟩
                  rintro e w' ⟨rfl, rfl⟩
                  exact ⟨rfl, Keep.refl _⟩
                simp only [Act.put, List.setIfInBounds_toArray, List.set_cons_zero, List.set_cons_succ]
                refine ordT_same (by kernel_rfl) (fun w2 hC => ?_) ?_
                · have x0 := (hC.cell lq0).trans q0
                  go_simp
                simp only [Act.put, List.setIfInBounds_toArray, List.set_cons_zero, List.set_cons_succ]
                refine ordT_pure rfl ?_
                go_big_quiet_step (fail)
                refine ordT_on ?_
                refine ordT_pure rfl ?_
                go_big_quiet_step (fail)
                refine ordT_on ?_
                refine ordT_pure rfl ?_
                go_big_quiet_step (fail)
                refine ordT_on ?_
                refine ordT_callV (by kernel_rfl) keepK (fun w2 own hC hF => ?_) ?_
                · refine ⟨_, _, by go_simp, (rest_any rb _ w2 (hR7.keep hC)).mono ?_⟩
                  rintro e w' ⟨rfl, rfl⟩
                  exact ⟨by rw [List.length_drop]; congr 2; omega, Keep.refl _⟩
                simp only [Act.put, List.setIfInBounds_toArray, List.set_cons_zero, List.set_cons_succ]
                refine ordT_same (by kernel_rfl) (fun w2 hC => ?_) ?_
                · have x0 := (hC.cell lq1).trans q1
                  go_simp
                simp only [Act.put, List.setIfInBounds_toArray, List.set_cons_zero, List.set_cons_succ]
                refine ordT_pure rfl ?_
                go_big_quiet_step (fail)
                refine ordT_on ?_
                refine ordT_same (by kernel_rfl) (fun w2 hC => ?_) ?_
                · have x0 := (hC.cell lq2).trans q2
                  go_simp
                simp only [Act.put, List.setIfInBounds_toArray, List.set_cons_zero, List.set_cons_succ]
                refine ordT_pure rfl ?_
                go_big_quiet_step (fail)
                refine ordT_on ?_
                refine ordT_pure rfl ?_
                go_big_quiet_step (fail)
                refine ordT_on ?_
                refine ordT_pure rfl ?_
                go_big_quiet_step (fail)
                refine ordT_on ?_
                refine ordT_done fun w2 own hC hF => ?_
                clear hF
                have hCe := hC7.keep hC
                have hRe := hR7.keep hC
                have hke := Keep.trans' hk7 hC
                clear hC7 hR7 hk7 hC q0 q1 q2 lq0 lq1 lq2
                go_wp2
                go_roundw
                case rel => exact ⟨j + 1, by omega, by go_num, p2, bad2, hCe, hRe, hke⟩
                case measure => simp [intOf]; omega
        · have t1 : decide (q < 1) = false := decide_eq_false (by omega)
          have t2 : decide (8 < q) = false := decide_eq_false (by omega)
          go_wp2_with fail
          clear y0 y1 t1 t2
          refine (take_cl (rb + 1 + 1) w.heap.size (rb + 1) _ l p bad q W hCr (by omega) (by omega) (by omega) hl (by omega)).mono ?_
          rintro e w5 ⟨rfl, p2, bad2, hC5, hT, hB⟩
          have hR5 := hB.rd rb _ (by omega) (by omega) hRr
          have hk5 := hkw.trans (hB.below _ (by omega) (by omega))
          have hN := numN_good (l.drop p) bad q hout
          have htl := (Pk.take_len ⟨l.drop p, bad⟩ q).1
          generalize Pk.take ⟨l.drop p, bad⟩ q = T at *
          obtain ⟨t, s2⟩ := T
          obtain rfl : s2 = ⟨l.drop p2, bad2⟩ := hT
          simp only [List.length_drop] at htl
          have HN := Lib.hid hN
          obtain ⟨cB, w6, hrun, hcB, hkB, hcells⟩ := run_toBytes (P := Try.prog) Try.underlying9 Try.underlying24 Try.underlying5 w5 t
          have HCE := Lib.hid hcells
          have hC6 := hC5.keep hkB
          have hR6 := hR5.keep hkB
          have hk6 : Keep w w6 := Keep.trans' hk5 hkB
          unfold strV at *
          generalize w5.heap.size = gt at *
          clear hcells hN hC5 hR5 hk5 hkB hCr hRr hkw hz z0 z1 hB
          go_wp2
          go_loop [13, 86] (fun x i => ∃ k : Nat, k ≤ t.length ∧ i = .int .i64 k ∧ x = .int .u64 (Pk.num (t.take k))) (fun _ i => t.length - (intOf i).toNat)
          case atStart => exact ⟨0, by omega, rfl, rfl⟩
          case round =>
            obtain ⟨k2, hk2, rfl, rfl⟩ := hrel
            by_cases hk3 : k2 < t.length
            · have hcell := HCE.out k2 hk3
              have HS := Lib.hid (num_snoc t k2 hk3)
              have hx := num_lt (t.take k2)
              have hu := t[k2].toNat_lt
              generalize t[k2] = u at *
              generalize Pk.num (t.take k2) = x at *
              go_wp2
              go_round
              case rel =>
                refine ⟨k2 + 1, by omega, by go_num, ?_⟩
                rw [HS.out, IntKind.wrap_u64, IntKind.wrap_u64]
                congr 1
                omega
              case measure => simp [intOf]; omega
            · have hk4 : k2 = t.length := by omega
              subst hk4
              rw [List.take_length]
              go_wp2_with fail
              refine (num_any rb _ q w6 hR6 (by rw [List.length_drop]; omega)).mono ?_
              rintro e w7 ⟨rfl, hB7, hR7⟩
              rw [HN.out] at hR7 ⊢
              have hC7 := hC6.but hB7 hR6 (by omega) (by omega) (by omega)
              have hk7 : Keep w w7 := hk6.trans (hB7.below (by omega) (by have := hk6.size; omega))
              clear hC6 hR6 hk6 hB7 hrun
              go_wp2_with fail

              obtain ⟨q0, -⟩ := cell_one hC7.hb
              obtain ⟨q1, -⟩ := cell_one hC7.hv
              obtain ⟨q2, -⟩ := cell_one hC7.ha
              have lq0 := World.block_lt_of_cell? w7 _ q0
              have lq1 := World.block_lt_of_cell? w7 _ q1
              have lq2 := World.block_lt_of_cell? w7 _ q2
              have hpl := hC7.hl
              refine wp_region_ord' [none, some (oV (.bool bad2)), some (oV (.bool bad2)), none, none, none, some (oV (.int .i64 ((l.length : Int) - (p2 : Int)))), some (oV (.slice ab l.length cb)), none, some (oV (.int .i64 (p2 : Int))), none, none, none]
                #[0, 0, 0, 0, 0, 0, 0, 0, 0, 0, 0, 0, 0] (w7.heap.size) (fun w' => Keep w7 w') (by kernel_rfl) (by kernel_rfl) (by kernel_rfl) ((Keep.refl w7).drew) ?_
              refine ordT_pure rfl ?_
              go_big_quiet_step (fail)
              refine ordT_on ?_
              refine ordT_callV (by kernel_rfl) keepK (fun w2 own hC hF => ?_) ?_
              · refine ⟨_, _, by go_simp, (bad_any rb _ w2 (hR7.keep hC)).mono ?_⟩
                rintro e w' ⟨rfl, rfl⟩
                exact ⟨rfl, Keep.refl _⟩
              simp only [Act.put, List.setIfInBounds_toArray, List.set_cons_zero, List.set_cons_succ]
              refine ordT_same (by kernel_rfl) (fun w2 hC => ?_) ?_
              · have x0 := (hC.cell lq0).trans q0
                go_simp
              simp only [Act.put, List.setIfInBounds_toArray, List.set_cons_zero, List.set_cons_succ]
              refine ordT_pure rfl ?_
              go_big_quiet_step (fail)
              refine ordT_on ?_
              refine ordT_pure rfl ?_
              go_big_quiet_step (fail)
              refine ordT_on ?_
              refine ordT_pure rfl ?_
              go_big_quiet_step (fail)
              refine ordT_on ?_
              refine ordT_callV (by kernel_rfl) keepK (fun w2 own hC hF => ?_) ?_
              · refine ⟨_, _, by go_simp, (rest_any rb _ w2 (hR7.keep hC)).mono ?_⟩
                rintro e w' ⟨rfl, rfl⟩
                exact ⟨by rw [List.length_drop]; congr 2; omega, Keep.refl _⟩
              simp only [Act.put, List.setIfInBounds_toArray, List.set_cons_zero, List.set_cons_succ]
              refine ordT_same (by kernel_rfl) (fun w2 hC => ?_) ?_
              · have x0 := (hC.cell lq1).trans q1
                go_simp
              simp only [Act.put, List.setIfInBounds_toArray, List.set_cons_zero, List.set_cons_succ]
              refine ordT_pure rfl ?_
              go_big_quiet_step (fail)
              refine ordT_on ?_
              refine ordT_same (by kernel_rfl) (fun w2 hC => ?_) ?_
              · have x0 := (hC.cell lq2).trans q2
                go_simp
              simp only [Act.put, List.setIfInBounds_toArray, List.set_cons_zero, List.set_cons_succ]
              refine ordT_pure rfl ?_
              go_big_quiet_step (fail)
              refine ordT_on ?_
              refine ordT_pure rfl ?_
              go_big_quiet_step (fail)
              refine ordT_on ?_
              refine ordT_pure rfl ?_
              go_big_quiet_step (fail)
              refine ordT_on ?_
              refine ordT_done fun w2 own hC hF => ?_
              clear hF
              have hCe := hC7.keep hC
              have hRe := hR7.keep hC
              have hke := Keep.trans' hk7 hC
              clear hC7 hR7 hk7 hC q0 q1 q2 lq0 lq1 lq2
              go_wp2
              go_roundw
              case rel => exact ⟨j + 1, by omega, by go_num, p2, bad2, hCe, hRe, hke⟩
              case measure => simp [intOf]; omega
      · go_wp2_with fail
        refine (take_cl (rb + 1 + 1) w.heap.size (rb + 1) _ l p bad 1 W hCr (by omega) (by omega) (by omega) hl (by omega)).mono ?_
        rintro e w5 ⟨rfl, p2, bad2, hC5, hT, hB⟩
        have hR5 := hB.rd rb _ (by omega) (by omega) hRr
        have hk5 : Keep w w5 := hkw.trans (hB.below _ (by omega) (by omega))
        clear hz hkw hCr hRr hB z0 z1
        rcases take_one ⟨l.drop p, bad⟩ with h1 | ⟨c, h1⟩
        · skip
          rw [h1]
          unfold strV
          go_wp2_with fail
          skip
          refine (take_cl (rb + 1 + 1) w.heap.size (rb + 1) _ l p2 bad2 0 w5 hC5 (by omega) (by omega) (by omega) hl (by omega)).mono ?_
          rintro e w6 ⟨rfl, p3, bad3, hC6, hT2, hB2⟩
          have hX : Pk.text ⟨l.drop p, bad⟩ = Pk.take ⟨l.drop p2, bad2⟩ 0 := by
            unfold Pk.text
            rw [numN_good _ _ _ (by omega), hT, h1]
            rfl
          have hR6 := hB2.rd rb _ (by omega) (by omega) hR5
          have hk6 : Keep w w6 := hk5.trans (hB2.below _ (by omega) (by omega))
          rw [← hX] at hT2 ⊢
          generalize hTx : Pk.text ⟨l.drop p, bad⟩ = T at *
          have HTX := Lib.hid hTx
          obtain ⟨t, s2⟩ := T
          obtain rfl : s2 = ⟨l.drop p3, bad3⟩ := hT2
          clear hTx hX hT h1 hC5 hR5 hk5 hB2
          unfold strV
          go_wp2_with fail
          refine (rtext_any rb _ w6 hR6 (by rw [List.length_drop]; omega)).mono ?_
          rintro e w7 ⟨rfl, hB7, hR7⟩
          rw [HTX.out] at hR7 ⊢
          have hC7 := hC6.but hB7 hR6 (by omega) (by omega) (by omega)
          have hk7 : Keep w w7 := hk6.trans (hB7.below (by omega) (by have := hk6.size; omega))
          clear hC6 hR6 hk6 hB7 HTX
          unfold strV
          go_wp2_with fail

          obtain ⟨q0, -⟩ := cell_one hC7.hb
          obtain ⟨q1, -⟩ := cell_one hC7.hv
          obtain ⟨q2, -⟩ := cell_one hC7.ha
          have lq0 := World.block_lt_of_cell? w7 _ q0
          have lq1 := World.block_lt_of_cell? w7 _ q1
          have lq2 := World.block_lt_of_cell? w7 _ q2
          have hpl := hC7.hl
          refine wp_region_ord' [none, some (oV (.bool bad3)), some (oV (.bool bad3)), none, none, none, some (oV (.int .i64 ((l.length : Int) - (p3 : Int)))), some (oV (.slice ab l.length cb)), none, some (oV (.int .i64 (p3 : Int))), none, none, none]
            #[0, 0, 0, 0, 0, 0, 0, 0, 0, 0, 0, 0, 0] (w7.heap.size) (fun w' => Keep w7 w') (by kernel_rfl) (by kernel_rfl) (by kernel_rfl) ((Keep.refl w7).drew) ?_
          refine ordT_pure rfl ?_
          go_big_quiet_step (fail)
          refine ordT_on ?_
          refine ordT_callV (by kernel_rfl) keepK (fun w2 own hC hF => ?_) ?_
          · refine ⟨_, _, by go_simp, (bad_any rb _ w2 (hR7.keep hC)).mono ?_⟩
            rintro e w' ⟨rfl, rfl⟩
            exact ⟨rfl, Keep.refl _⟩
          simp only [Act.put, List.setIfInBounds_toArray, List.set_cons_zero, List.set_cons_succ]
          refine ordT_same (by kernel_rfl) (fun w2 hC => ?_) ?_
          · have x0 := (hC.cell lq0).trans q0
            go_simp
          simp only [Act.put, List.setIfInBounds_toArray, List.set_cons_zero, List.set_cons_succ]
          refine ordT_pure rfl ?_
          go_big_quiet_step (fail)
          refine ordT_on ?_
          refine ordT_pure rfl ?_
          go_big_quiet_step (fail)
          refine ordT_on ?_
          refine ordT_pure rfl ?_
          go_big_quiet_step (fail)
          refine ordT_on ?_
          refine ordT_callV (by kernel_rfl) keepK (fun w2 own hC hF => ?_) ?_
          · refine ⟨_, _, by go_simp, (rest_any rb _ w2 (hR7.keep hC)).mono ?_⟩
            rintro e w' ⟨rfl, rfl⟩
            exact ⟨by rw [List.length_drop]; congr 2; omega, Keep.refl _⟩
          simp only [Act.put, List.setIfInBounds_toArray, List.set_cons_zero, List.set_cons_succ]
          refine ordT_same (by kernel_rfl) (fun w2 hC => ?_) ?_
          · have x0 := (hC.cell lq1).trans q1
            go_simp
          simp only [Act.put, List.setIfInBounds_toArray, List.set_cons_zero, List.set_cons_succ]
          refine ordT_pure rfl ?_
          go_big_quiet_step (fail)
          refine ordT_on ?_
          refine ordT_same (by kernel_rfl) (fun w2 hC => ?_) ?_
          · have x0 := (hC.cell lq2).trans q2
            go_simp
          simp only [Act.put, List.setIfInBounds_toArray, List.set_cons_zero, List.set_cons_succ]
          refine ordT_pure rfl ?_
          go_big_quiet_step (fail)
          refine ordT_on ?_
          refine ordT_pure rfl ?_
          go_big_quiet_step (fail)
          refine ordT_on ?_
          refine ordT_pure rfl ?_
          go_big_quiet_step (fail)
          refine ordT_on ?_
          refine ordT_done fun w2 own hC hF => ?_
          clear hF
          have hCe := hC7.keep hC
          have hRe := hR7.keep hC
          have hke := Keep.trans' hk7 hC
          clear hC7 hR7 hk7 hC q0 q1 q2 lq0 lq1 lq2
          go_wp2
          go_roundw
          case rel => exact ⟨j + 1, by omega, by go_num, p3, bad3, hCe, hRe, hke⟩
          case measure => simp [intOf]; omega
        · have hc8 := c.toNat_lt
          rw [h1]
          unfold strV
          go_wp2_with fail
          rw [show wrap64 (((ByteArray.mk #[c])[0]'(Nat.zero_lt_one)).toNat : Int) = (c.toNat : Int) from by show wrap64 (c.toNat : Int) = _; unfold wrap64; omega]
          refine (take_cl (rb + 1 + 1) w.heap.size (rb + 1) _ l p2 bad2 (c.toNat : Int) w5 hC5 (by omega) (by omega) (by omega) hl (by omega)).mono ?_
          rintro e w6 ⟨rfl, p3, bad3, hC6, hT2, hB2⟩
          have hX : Pk.text ⟨l.drop p, bad⟩ = Pk.take ⟨l.drop p2, bad2⟩ (c.toNat : Int) := by
            unfold Pk.text
            rw [numN_good _ _ _ (by omega), hT, h1]
            rw [num_one]
          have hR6 := hB2.rd rb _ (by omega) (by omega) hR5
          have hk6 : Keep w w6 := hk5.trans (hB2.below _ (by omega) (by omega))
          rw [← hX] at hT2 ⊢
          generalize hTx : Pk.text ⟨l.drop p, bad⟩ = T at *
          have HTX := Lib.hid hTx
          obtain ⟨t, s2⟩ := T
          obtain rfl : s2 = ⟨l.drop p3, bad3⟩ := hT2
          clear hTx hX hT h1 hC5 hR5 hk5 hB2
          unfold strV
          go_wp2_with fail
          refine (rtext_any rb _ w6 hR6 (by rw [List.length_drop]; omega)).mono ?_
          rintro e w7 ⟨rfl, hB7, hR7⟩
          rw [HTX.out] at hR7 ⊢
          have hC7 := hC6.but hB7 hR6 (by omega) (by omega) (by omega)
          have hk7 : Keep w w7 := hk6.trans (hB7.below (by omega) (by have := hk6.size; omega))
          clear hC6 hR6 hk6 hB7 HTX
          unfold strV
          go_wp2_with fail

          obtain ⟨q0, -⟩ := cell_one hC7.hb
          obtain ⟨q1, -⟩ := cell_one hC7.hv
          obtain ⟨q2, -⟩ := cell_one hC7.ha
          have lq0 := World.block_lt_of_cell? w7 _ q0
          have lq1 := World.block_lt_of_cell? w7 _ q1
          have lq2 := World.block_lt_of_cell? w7 _ q2
          have hpl := hC7.hl
          refine wp_region_ord' [none, some (oV (.bool bad3)), some (oV (.bool bad3)), none, none, none, some (oV (.int .i64 ((l.length : Int) - (p3 : Int)))), some (oV (.slice ab l.length cb)), none, some (oV (.int .i64 (p3 : Int))), none, none, none]
            #[0, 0, 0, 0, 0, 0, 0, 0, 0, 0, 0, 0, 0] (w7.heap.size) (fun w' => Keep w7 w') (by kernel_rfl) (by kernel_rfl) (by kernel_rfl) ((Keep.refl w7).drew) ?_
          refine ordT_pure rfl ?_
          go_big_quiet_step (fail)
          refine ordT_on ?_
          refine ordT_callV (by kernel_rfl) keepK (fun w2 own hC hF => ?_) ?_
          · refine ⟨_, _, by go_simp, (bad_any rb _ w2 (hR7.keep hC)).mono ?_⟩
            rintro e w' ⟨rfl, rfl⟩
            exact ⟨rfl, Keep.refl _⟩
          simp only [Act.put, List.setIfInBounds_toArray, List.set_cons_zero, List.set_cons_succ]
          refine ordT_same (by kernel_rfl) (fun w2 hC => ?_) ?_
          · have x0 := (hC.cell lq0).trans q0
            go_simp
          simp only [Act.put, List.setIfInBounds_toArray, List.set_cons_zero, List.set_cons_succ]
          refine ordT_pure rfl ?_
          go_big_quiet_step (fail)
          refine ordT_on ?_
          refine ordT_pure rfl ?_
          go_big_quiet_step (fail)
          refine ordT_on ?_
          refine ordT_pure rfl ?_
          go_big_quiet_step (fail)
          refine ordT_on ?_
          refine ordT_callV (by kernel_rfl) keepK (fun w2 own hC hF => ?_) ?_
          · refine ⟨_, _, by go_simp, (rest_any rb _ w2 (hR7.keep hC)).mono ?_⟩
            rintro e w' ⟨rfl, rfl⟩
            exact ⟨by rw [List.length_drop]; congr 2; omega, Keep.refl _⟩
          simp only [Act.put, List.setIfInBounds_toArray, List.set_cons_zero, List.set_cons_succ]
          refine ordT_same (by kernel_rfl) (fun w2 hC => ?_) ?_
          · have x0 := (hC.cell lq1).trans q1
            go_simp
          simp only [Act.put, List.setIfInBounds_toArray, List.set_cons_zero, List.set_cons_succ]
          refine ordT_pure rfl ?_
          go_big_quiet_step (fail)
          refine ordT_on ?_
          refine ordT_same (by kernel_rfl) (fun w2 hC => ?_) ?_
          · have x0 := (hC.cell lq2).trans q2
            go_simp
          simp only [Act.put, List.setIfInBounds_toArray, List.set_cons_zero, List.set_cons_succ]
          refine ordT_pure rfl ?_
          go_big_quiet_step (fail)
          refine ordT_on ?_
          refine ordT_pure rfl ?_
          go_big_quiet_step (fail)
          refine ordT_on ?_
          refine ordT_pure rfl ?_
          go_big_quiet_step (fail)
          refine ordT_on ?_
          refine ordT_done fun w2 own hC hF => ?_
          clear hF
          have hCe := hC7.keep hC
          have hRe := hR7.keep hC
          have hke := Keep.trans' hk7 hC
          clear hC7 hR7 hk7 hC q0 q1 q2 lq0 lq1 lq2
          go_wp2
          go_roundw
          case rel => exact ⟨j + 1, by omega, by go_num, p3, bad3, hCe, hRe, hke⟩
          case measure => simp [intOf]; omega
    · have hjl : j = n := by omega
      subst hjl
      go_wp2
      go_ret
      exact ⟨rfl, hk⟩
end Go.Proofs.Ytonodicdfhjngaa
