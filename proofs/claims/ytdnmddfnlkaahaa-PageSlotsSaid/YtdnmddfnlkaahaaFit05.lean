/- The walks of the page law's fit, light, fill. -/
import Derived.Test.YtdnmddfnlkaahaaPgD
namespace Go.Proofs.Ytdnmddfnlkaahaa
open Go Go.RowKit
attribute [local irreducible] Go.wpQuiet

def rowK : Rw := ⟨0, [107], []⟩
def pageK : Pg := Pg.zero.put 0 rowK.slot
theorem rowK_right : rowK.right = true := by decide
theorem may_k : Pg.may 0 rowK.slot = true := by decide
theorem set_k : Pg.zero.set 0 rowK.slot = pageK := by decide
theorem free_k1 : pageK.free [] = 1 := by decide
theorem free_k2 : pageK.free [1] = 2 := by decide
set_option maxRecDepth 100000 in
set_option maxHeartbeats 4000000 in
theorem fit_any (w : World) : Calls Try.prog 11 #[] w fun e w' => e = .returned (.bool true) ∧ Keep w w' := by
  have HM := Lib.hid may_k
  have HS := Lib.hid set_k
  have HF1 := Lib.hid free_k1
  have HF2 := Lib.hid free_k2
  go_enter Try.func11, Try.ntmps11
  go_upto_region 1 with (fail)
  refine wp_region_seq ?_
  refine seqW_gives (by kernel_rfl) ?_
  refine Gives.allocBig bigP rfl ?_
  have hP : PgAt (w.alloc (.cells Pg.zero.cells.toArray 36)) w.heap.size Pg.zero := ⟨heap_alloc_new w _, Pg.zero_ok⟩
  have k1 := Keep.alloc w (.cells Pg.zero.cells.toArray 36)
  have hgw : w.heap.size ≤ w.heap.size := Nat.le_refl _
  generalize w.alloc (.cells Pg.zero.cells.toArray 36) = w1 at *
  generalize hge : w.heap.size = g at hP hgw ⊢
  have hgw : w.heap.size ≤ g := Nat.le_of_eq hge
  clear hge
  simp only [Act.put, List.setIfInBounds_toArray, List.set_cons_zero, List.set_cons_succ]
  refine seqW_done ?_
  go_upto_region 2 with (fail)
  refine wp_region_seq ?_
  refine seqW_pure rfl ?_
  go_big_quiet_step (fail)
  refine seqW_on ?_
  refine seqW_gives (by kernel_rfl) ?_
  refine Gives.call (by first | (go_simp; done) | (go_simp; rfl)) (encode_any rowK rowK_right w1) ?_
  rintro e w2 ⟨v2, rfl, hO2, k2⟩
  refine ⟨_, rfl, ?_⟩
  have hb2 := hO2.slB
  obtain ⟨a2, c2, rfl, -, -, -⟩ := hb2.form
  simp only [Act.put, List.setIfInBounds_toArray, List.set_cons_zero, List.set_cons_succ]
  refine seqW_gives (by kernel_rfl) ?_
  refine Gives.toStr Try.underlying38 Try.underlying5 Try.underlying9 _ rfl rfl hb2 ?_
  simp only [Act.put, List.setIfInBounds_toArray, List.set_cons_zero, List.set_cons_succ]
  try simp only [strV]
  refine seqW_gives (by kernel_rfl) ?_
  refine Gives.call (by first | (go_simp; done) | (go_simp; rfl)) (set_any g Pg.zero 0 rowK.slot w2 (hP.keep k2) (by decide)) ?_
  rintro e w3 ⟨rfl, hP3, hb3⟩
  refine ⟨_, rfl, ?_⟩
  rw [HS.out] at hP3
  rw [HM.out]
  have k3 : Keep w w3 := (k1.trans' k2).trans (But.below hb3 hgw (k1.trans' k2).size)
  clear hP hb2 hO2 hb3 k1 k2
  simp only [Act.put, List.setIfInBounds_toArray, List.set_cons_zero, List.set_cons_succ]
  refine seqW_pure rfl ?_
  go_big_quiet_step (fail)
  refine seqW_on ?_
  refine seqW_done ?_
  go_upto_region 3 with (fail)
  refine wp_region_seq ?_
  refine seqW_pure rfl ?_
  go_big_quiet_step (fail)
  refine seqW_on ?_
  refine seqW_pure rfl ?_
  go_big_quiet_step (fail)
  refine seqW_on ?_
  refine seqW_gives (by kernel_rfl) ?_
  refine Gives.call (by first | (go_simp; done) | (go_simp; rfl)) (free_any g pageK [] _ w3 hP3 (SlI.nil w3)) ?_
  rintro e w4 ⟨rfl, rfl⟩
  refine ⟨_, rfl, ?_⟩
  rw [HF1.out]
  simp only [Act.put, List.setIfInBounds_toArray, List.set_cons_zero, List.set_cons_succ]
  refine seqW_pure rfl ?_
  go_big_quiet_step (fail)
  refine seqW_on ?_
  refine seqW_pure rfl ?_
  go_big_quiet_step (fail)
  refine seqW_on ?_
  refine seqW_pure rfl ?_
  go_big_quiet_step (fail)
  refine seqW_on ?_
  refine seqW_gives (by kernel_rfl) ?_
  refine Gives.value (v := .slice (some ⟨w3.heap.size, 0, none⟩) 1 1) (w' := w3.alloc (.cells #[.int .i64 1] 3)) (by go_simp) ?_
  have hI : SlI (w3.alloc (.cells #[.int .i64 1] 3)) (.slice (some ⟨w3.heap.size, 0, none⟩) 1 1) [1] := Sl.laid w3 _ _ _ [.int .i64 1] 1 1 rfl rfl (by decide) (Nat.le_refl _)
  have k4 := Keep.alloc w3 (.cells #[.int .i64 1] 3)
  have hP4 := hP3.keep k4
  have kk4 := k3.trans' k4
  generalize w3.alloc (.cells #[.int .i64 1] 3) = w4 at *
  generalize w3.heap.size = gi at *
  clear hP3 k3 k4
  simp only [Act.put, List.setIfInBounds_toArray, List.set_cons_zero, List.set_cons_succ]
  refine seqW_gives (by kernel_rfl) ?_
  refine Gives.call (by first | (go_simp; done) | (go_simp; rfl)) (free_any g pageK [1] _ w4 hP4 hI) ?_
  rintro e w5 ⟨rfl, rfl⟩
  refine ⟨_, rfl, ?_⟩
  rw [HF2.out]
  simp only [Act.put, List.setIfInBounds_toArray, List.set_cons_zero, List.set_cons_succ]
  refine seqW_pure rfl ?_
  go_big_quiet_step (fail)
  refine seqW_on ?_
  refine seqW_pure rfl ?_
  go_big_quiet_step (fail)
  refine seqW_on ?_
  refine seqW_pure rfl ?_
  go_big_quiet_step (fail)
  refine seqW_on ?_
  refine seqW_done ?_
  go_wp2
  go_ret
  exact ⟨rfl, kk4⟩
def sumW (r : Rw) : Int := wrap64 ((r.k.length : Int) + (r.v.length : Int))
set_option maxHeartbeats 2000000 in
theorem light_any (v : Value) (l : List Rw) (w : World) (hS : SlR w v l) : Calls Try.prog 12 #[v] w fun e w' => ∃ b, e = .returned (.bool b) ∧ (b = true → l.length ≤ 30 ∧ ∀ r ∈ l, sumW r ≤ 200) ∧ Keep w w' := by
  obtain ⟨qa, qc, rfl, hm, hc⟩ := hS.form
  unfold maxLen at hm
  go_enter Try.func12, Try.ntmps12
  by_cases hl : 30 < l.length
  · have t1 : decide (30 < (l.length : Int)) = true := decide_eq_true (by omega)
    clear hl hm hc
    go_wp2
    go_ret
    exact ⟨_, rfl, (fun h => by cases h), Keep.refl w⟩
  have t1 : decide (30 < (l.length : Int)) = false := decide_eq_false (by omega)
  have h60 : Hid (l.length ≤ 30) := Lib.hid (by omega)
  clear hl
  go_wp2
  go_loopw [10] (fun i wr => ∃ j : Nat, j ≤ l.length ∧ i = .int .i64 j ∧ Hid (∀ r ∈ l.take j, sumW r ≤ 200) ∧ Keep w wr) (fun i _ => l.length - (intOf i).toNat)
  case atStart => exact ⟨0, Nat.zero_le _, rfl, Lib.hid (by simp), Keep.refl w⟩
  case round =>
    obtain ⟨j, hj, rfl, hall, hk⟩ := hrel
    by_cases hjn : j < l.length
    rotate_left
    · have hjd : ¬ ((j : Int) < (l.length : Int)) := by omega
      have hal : Hid (∀ r ∈ l, sumW r ≤ 200) := Lib.hid (by have h := hall.out; rwa [List.take_of_length_le (by omega)] at h)
      clear hjn
      go_wp2
      exact bodyPost_ret (v := .bool true) (by simp [results, Try.results12, go_sem]) rfl (.inr ⟨rfl, ⟨h60.out, hal.out⟩, hk⟩)
    obtain ⟨b, off, rfl, x0, x1, x2⟩ := (hS.keep hk).elem j hjn
    have HT := Lib.hid (List.take_succ_eq_append_getElem hjn)
    generalize l[j] = r at *
    have hjl : (j : Int) < (l.length : Int) := by omega
    have s1 := size_str r.k
    have s2 := size_str r.v
    clear hS
    have hk2 : Keep w (wr.alloc (.cells #[.int .i64 r.t, .string ⟨r.k.toArray⟩, .string ⟨r.v.toArray⟩] 24)) := hk.trans' (Keep.alloc _ _)
    go_upto_region 6 with (fail)
    have hA := RwAt.new wr r
    generalize wr.alloc (.cells #[.int .i64 r.t, .string ⟨r.k.toArray⟩, .string ⟨r.v.toArray⟩] 24) = w3 at *
    generalize wr.heap.size = gq at *
    clear x0 x1 x2
    obtain ⟨e0, e1, e2⟩ := hA.cells
    obtain ⟨N, hN⟩ : ∃ N, Hid (N = sumW r) := ⟨_, Lib.hid rfl⟩
    have hNN : wrap64 ((r.k.length : Int) + (r.v.length : Int)) = N := hN.out.symm
    by_cases h100 : 200 < N
    · go_wp2
      exact bodyPost_ret (v := .bool false) (by simp [results, Try.results12, go_sem]) rfl ⟨false, rfl, (fun h => by cases h), hk2⟩
    · go_wp2
      go_roundw
      case rel => exact ⟨j + 1, by omega, by go_num, Lib.hid (fun x hx => by
        rw [HT.out] at hx
        rcases List.mem_append.1 hx with h | h
        · exact hall.out x h
        · rw [List.mem_singleton.1 h, ← hN.out]; omega), hk2⟩
      case measure => simp [intOf]; omega

/-- every slot is free or has a row -/
def Pg.RowsOk (p : Pg) : Prop := ∀ x ∈ p.slots, x = zB 40 ∨ ∃ r : Rw, r.right = true ∧ x = r.slot
theorem Pg.RowsOk.put {p : Pg} (h : p.RowsOk) (i : Nat) (r : Rw) (hr : r.right = true) : (p.put i r.slot).RowsOk := fun x hx => (List.mem_or_eq_of_mem_set hx).elim (h x) fun e => .inr ⟨r, hr, e⟩
/-- the slots' bytes, as strings -/
def Pg.strs (p : Pg) : List Value := (List.range 5).map fun (i : Nat) => strV (p.slot (i : Int))
theorem Pg.strs_put {p : Pg} (h : p.Ok) (i : Nat) (hi : i < 5) (r : Rw) (hr : r.right = true) : p.strs.set i (strV r.slot) = (p.put i r.slot).strs := by
  have hl := slot_length r hr
  refine List.ext_getElem (by simp [Pg.strs]) fun j h1 h2 => ?_
  have hj : j < 5 := by simpa [Pg.strs] using h2
  rw [List.getElem_set]
  simp only [Pg.strs, List.getElem_map, List.getElem_range]
  have hraw := Pg.put_raw h hi r.slot (j := j)
  by_cases e : i = j
  · subst e
    rw [if_pos rfl, Pg.slot_at hi (by rw [hraw, if_pos rfl]; exact r.slot_ne_zero), hraw, if_pos rfl]
  · rw [if_neg e]
    rw [if_neg (fun e2 => e e2.symm)] at hraw
    unfold Pg.slot
    rw [Int.toNat_natCast, hraw]
theorem Pg.set_row {p : Pg} (i : Nat) (hi : i < 5) (r : Rw) (hr : r.right = true) : Pg.may i r.slot = true ∧ p.set i r.slot = p.put i r.slot := by
  have hm : Pg.may i r.slot = true := decide_eq_true ⟨by omega, by omega, .inr (by rw [Rw.dec_slot r hr])⟩
  refine ⟨hm, ?_⟩
  unfold Pg.set
  rw [if_pos hm, if_neg (fun e => by have := slot_length r hr; rw [e] at this; cases this), Int.toNat_natCast]
theorem and_low (x : Int) (m : Nat) (k : Nat) (hm : m = 2 ^ k - 1) (hk : k ≤ 20) : ∃ c : Nat, c ≤ m ∧ Go.bits .and .i64 x (m : Int) = (c : Int) := by
  have hm2 : m < 1048576 := by
    have : 2 ^ k ≤ 2 ^ 20 := Nat.pow_le_pow_right (by omega) hk
    omega
  have e : Go.bits .and .i64 x (m : Int) = IntKind.i64.wrap ((((BitVec.ofInt 64 x) &&& (BitVec.ofInt 64 (m : Int))).toNat : Nat) : Int) := rfl
  have h1 : ((BitVec.ofInt 64 x) &&& (BitVec.ofInt 64 (m : Int))).toNat ≤ m := by
    rw [BitVec.toNat_and, BitVec.ofInt_natCast, BitVec.toNat_ofNat, Nat.mod_eq_of_lt (by omega)]
    exact Nat.and_le_right
  refine ⟨_, h1, ?_⟩
  rw [e, IntKind.wrap_i64]
  generalize ((BitVec.ofInt 64 x) &&& (BitVec.ofInt 64 (m : Int))).toNat = z at *
  omega
/-- what fill makes -/
structure Filled (w w' : World) (g gm : Nat) (p : Pg) (mark : Nat) (t n : Int) : Prop where
  at_ : PgAt w' g p
  strs : w'.heap[gm]? = some (.cells p.strs.toArray 9)
  rows : p.RowsOk
  m : p.mark = mark
  t : p.tenant = Go.bits .and .i64 t 65535
  n : p.number = Go.bits .and .i64 n 65535
  gw : w.heap.size ≤ g
  gmw : w.heap.size ≤ gm
  ne : g ≠ gm
  k : Keep w w'
theorem exec_buildM {o : Oper} {a : Act} {x y z : Operand} (ho : o.op = .build 36 #[(0, x), (1, y), (2, z)]) (m : Nat) (t n : Int) (hx : a.eval x = .int .u64 m) (hy : a.eval y = .int .i64 t) (hz : a.eval z = .int .i64 n) (w : World) : (execOp a.eval o).run Try.prog w = .ok (.value (.agg ((Pg.blank t n).withMark m).cells.toArray)) w := by
  have hr : (Instr.build 36 #[(0, .int .u64 m), (1, .int .i64 t), (2, .int .i64 n)]).run Try.prog w = .ok (.agg ((Pg.blank t n).withMark m).cells.toArray) w := run_build w _ _ _ (by kernel_rfl)
  unfold execOp
  simp only [ho, List.map_toArray, List.map_cons, List.map_nil, hx, hy, hz, Sem.run_bind, hr, Result.andThen_ok, Sem.run_pure]
theorem blank_rows (m : Nat) (t n : Int) : ((Pg.blank t n).withMark m).RowsOk := fun x hx => .inl (List.eq_of_mem_replicate hx)
theorem blank_strs (m : Nat) (t n : Int) : ((Pg.blank t n).withMark m).strs = List.replicate 5 (strV []) := by
  refine List.eq_replicate_iff.2 ⟨by simp [Pg.strs], fun x hx => ?_⟩
  obtain ⟨i, hi, rfl⟩ := List.mem_map.1 hx
  have hi := List.mem_range.1 hi
  have hok : ((Pg.blank t n).withMark 0).Ok := ⟨show 0 < 18446744073709551616 by decide, rfl, Pg.zero_ok.k⟩
  have : ((Pg.blank t n).withMark m).raw i = zB 40 := by
    have e : ((Pg.blank t n).withMark m).raw i = ((Pg.blank t n).withMark 0).raw i := rfl
    rw [e, Pg.raw_get (by rw [hok.n]; exact hi)]
    exact List.getElem_replicate _
  rw [Pg.slot_free this]
theorem elemStr : ElemOk Try.prog 29 9 (.string ⟨#[]⟩) 16 := ElemOk.of Try.underlying29 (by kernel_rfl) rfl
def noStrs : List Value := List.replicate 5 (strV [])
theorem exec_makeStrs {o : Oper} {a : Act} (ho : o.op = .makeSlice 29 (.const (.int .i64 5)) (.const (.int .i64 5))) (w : World) : (execOp a.eval o).run Try.prog w = .ok (.value (.slice (some ⟨w.heap.size, 0, none⟩) 5 5)) (w.alloc (.cells noStrs.toArray 9)) := by
  obtain ⟨i, hi, hz, hs, hb⟩ := elemStr.hi
  have hr := run_make (P := Try.prog) w 29 9 i (.string ⟨#[]⟩) elemStr.ht hi hz .i64 .i64 5 5 (by decide) (Int.le_refl _) (by rw [hb]; decide) (by decide)
  rw [hs] at hr
  have hc : madeCells (Value.string ⟨#[]⟩).cells (5 * 1) = noStrs.toArray := by
    apply Array.ext'
    apply List.ext_getElem
    · simp [madeCells, noStrs]
    · intro i h1 h2
      have e : noStrs.toArray.toList[i]'h2 = strV [] := by simp only [noStrs]; exact List.getElem_replicate _
      rw [e]
      simp [madeCells, Value.cells, Nat.mod_one, strV]
  have h5 : ((5 : Int).toNat) = 5 := rfl
  rw [h5, hc] at hr
  unfold execOp
  have e1 : a.eval (.const (.int .i64 5)) = .int .i64 5 := rfl
  simp only [ho, e1, Sem.run_bind, hr, Result.andThen_ok]
  rfl
set_option maxRecDepth 100000 in
set_option maxHeartbeats 4000000 in
theorem fill_any (v : Value) (l : List Rw) (mark : Nat) (t n : Int) (w : World) (hS : SlR w v l) (hmk : mark < 18446744073709551616) : Calls Try.prog 14 #[v, .int .u64 mark, .int .i64 t, .int .i64 n] w fun e w' => ∃ p g gm, e = .returned (.tuple #[.pointer (some ⟨g, 0, none⟩), .slice (some ⟨gm, 0, none⟩) 5 5]) ∧ Filled w w' g gm p mark t n := by
  obtain ⟨qa, qc, rfl, hmx, hcx⟩ := hS.form
  unfold maxLen at hmx
  go_enter Try.func14, Try.ntmps14
  go_upto_region 1 with (fail)
  refine wp_region_seq ?_
  refine seqW_pure rfl ?_
  go_big_quiet_step (fail)
  refine seqW_on ?_
  refine seqW_pure rfl ?_
  go_big_quiet_step (fail)
  refine seqW_on ?_
  refine seqW_pure rfl ?_
  go_big_quiet_step (fail)
  refine seqW_on ?_
  refine seqW_pure rfl ?_
  go_big_quiet_step (fail)
  refine seqW_on ?_
  refine seqW_pure rfl ?_
  go_big_quiet_step (fail)
  refine seqW_on ?_
  obtain ⟨T, hT⟩ : ∃ T, Go.bits .and .i64 t 65535 = T := ⟨_, rfl⟩
  obtain ⟨N, hN⟩ : ∃ N, Go.bits .and .i64 n 65535 = N := ⟨_, rfl⟩
  rw [hT, hN]
  have HT := Lib.hid hT.symm
  have HN := Lib.hid hN.symm
  clear hT hN
  refine seqW_gives (by kernel_rfl) ?_
  refine Gives.value (v := .agg ((Pg.blank T N).withMark mark).cells.toArray) (w' := w) (exec_buildM rfl mark T N rfl rfl rfl w) ?_
  simp only [Act.put, List.setIfInBounds_toArray, List.set_cons_zero, List.set_cons_succ]
  refine seqW_gives (by kernel_rfl) ?_
  refine Gives.boxBig _ rfl ((Pg.blank T N).withMark mark).cells rfl ?_
  have hok0 : ((Pg.blank T N).withMark mark).Ok := ⟨hmk, rfl, Pg.zero_ok.k⟩
  have hP : PgAt (w.alloc (.cells ((Pg.blank T N).withMark mark).cells.toArray 36)) w.heap.size ((Pg.blank T N).withMark mark) := ⟨heap_alloc_new w _, hok0⟩
  have k1 := Keep.alloc w (.cells ((Pg.blank T N).withMark mark).cells.toArray 36)
  have hro := blank_rows mark T N
  have hst : ((Pg.blank T N).withMark mark).strs = noStrs := blank_strs mark T N
  have hpm : ((Pg.blank T N).withMark mark).mark = mark := rfl
  have hpt : ((Pg.blank T N).withMark mark).tenant = T := rfl
  have hpn : ((Pg.blank T N).withMark mark).number = N := rfl
  generalize w.alloc (.cells ((Pg.blank T N).withMark mark).cells.toArray 36) = w1 at *
  obtain ⟨g, hge⟩ : ∃ g, g = w.heap.size := ⟨_, rfl⟩
  rw [← hge] at hP
  rw [← hge]
  have hgw : w.heap.size ≤ g := Nat.le_of_eq hge.symm
  clear hge hok0
  generalize (Pg.blank T N).withMark mark = p0 at *
  simp only [Act.put, List.setIfInBounds_toArray, List.set_cons_zero, List.set_cons_succ]
  refine seqW_pure rfl ?_
  go_big_quiet_step (fail)
  refine seqW_on ?_
  refine seqW_done ?_
  go_upto_region 2 with (fail)
  refine wp_region_seq ?_
  refine seqW_gives (by kernel_rfl) ?_
  refine Gives.value (v := .slice (some ⟨w1.heap.size, 0, none⟩) 5 5) (w' := w1.alloc (.cells noStrs.toArray 9)) (exec_makeStrs rfl w1) ?_
  have hM : (w1.alloc (.cells noStrs.toArray 9)).heap[w1.heap.size]? = some (.cells p0.strs.toArray 9) := by rw [hst]; exact heap_alloc_new w1 _
  have k2 := Keep.alloc w1 (.cells noStrs.toArray 9)
  have hP2 := hP.keep k2
  have kk2 := k1.trans' k2
  generalize w1.alloc (.cells noStrs.toArray 9) = w2 at *
  have hgm1 : w.heap.size ≤ w1.heap.size := k1.size
  have hgne : g ≠ w1.heap.size := fun e => by have := hP.lt; omega
  generalize w1.heap.size = gm at *
  clear hP k1 k2 hst
  simp only [Act.put, List.setIfInBounds_toArray, List.set_cons_zero, List.set_cons_succ]
  refine seqW_pure rfl ?_
  go_big_quiet_step (fail)
  refine seqW_on ?_
  refine seqW_done ?_
  go_wp2_with fail
  go_loopw [24] (fun z wr => ∃ (j : Nat) (p : Pg), j ≤ l.length ∧ z = .int .i64 j ∧ PgAt wr g p ∧ wr.heap[gm]? = some (.cells p.strs.toArray 9) ∧ p.RowsOk ∧ p.mark = mark ∧ p.tenant = T ∧ p.number = N ∧ Keep w wr) (fun z _ => l.length - (intOf z).toNat)
  case atStart => exact ⟨0, p0, Nat.zero_le _, rfl, hP2, hM, hro, hpm, hpt, hpn, kk2⟩
  case round =>
    obtain ⟨j, p, hj, rfl, hP, hM', hR, em, et, en, kk⟩ := hrel
    have EM := Lib.hid em
    have ET := Lib.hid et
    have EN := Lib.hid en
    clear hP2 hM hro hpm hpt hpn kk2 em et en
    by_cases hjn : j < l.length
    rotate_left
    · have hjd : ¬ ((j : Int) < (l.length : Int)) := by omega
      have HF : Filled w wr g gm p mark t n := ⟨hP, hM', hR, EM.out, ET.out.trans HT.out, EN.out.trans HN.out, hgw, hgm1, hgne, kk⟩
      clear hP hM' hR
      go_wp2
      exact bodyPost_ret (v := .tuple #[.pointer (some ⟨g, 0, none⟩), .slice (some ⟨gm, 0, none⟩) 5 5]) (by simp [results, Try.results14, go_sem]) rfl ⟨p, g, gm, rfl, HF⟩
    have hjd : (j : Int) < (l.length : Int) := by omega
    obtain ⟨b, off, rfl, x0, x1, x2⟩ := (hS.keep kk).elem j hjn
    generalize l[j] = r at *
    go_upto_region 6 with (fail)
    have hA := RwAt.new wr r
    have kA := Keep.alloc wr (.cells #[.int .i64 r.t, .string ⟨r.k.toArray⟩, .string ⟨r.v.toArray⟩] 24)
    have hPA := hP.keep kA
    have hMA := (kA.block gm (Array.getElem?_eq_some_iff.1 hM').1).trans hM'
    have kkA := kk.trans' kA
    generalize wr.alloc (.cells #[.int .i64 r.t, .string ⟨r.k.toArray⟩, .string ⟨r.v.toArray⟩] 24) = w3 at *
    generalize wr.heap.size = gq at *
    clear x0 x1 x2 hP hM' kk kA hj
    obtain ⟨e0, e1, e2⟩ := hA.cells
    by_cases h5 : j < 5
    rotate_left
    · have h5i : ¬ ((j : Int) < 5) := by omega
      go_wp2
      go_roundw
      case rel => exact ⟨j + 1, p, by omega, by go_num, hPA, hMA, hR, EM.out, ET.out, EN.out, kkA⟩
      case measure => simp [intOf]; omega
    have h5i : (j : Int) < 5 := by omega
    go_wp2_with fail
    refine (right_any r w3).mono ?_
    rintro e w4 ⟨rfl, k4⟩
    have hPB := hPA.keep k4
    have hMB := (k4.block gm (Array.getElem?_eq_some_iff.1 hMA).1).trans hMA
    have hB := RwAt.keep k4 hA
    have kkB := kkA.trans' k4
    clear hPA hMA hA kkA k4 e0 e1 e2
    cases hrr : r.right
    · go_wp2
      go_roundw
      case rel => exact ⟨j + 1, p, by omega, by go_num, hPB, hMB, hR, EM.out, ET.out, EN.out, kkB⟩
      case measure => simp [intOf]; omega
    have HRR := Lib.hid hrr
    clear hrr
    by_cases h3 : j % 3 = 2
    · have h3i : (j : Int) % 3 = 2 := by omega
      go_wp2
      go_roundw
      case rel => exact ⟨j + 1, p, by omega, by go_num, hPB, hMB, hR, EM.out, ET.out, EN.out, kkB⟩
      case measure => simp [intOf]; omega
    have h3i : ((j : Int) % 3 != 2) = true := by rw [bne_iff_ne]; omega
    obtain ⟨e0, e1, e2⟩ := hB.cells
    go_upto_region 7 with (fail)
    refine wp_region_seq ?_
    refine seqW_pure rfl ?_
    go_big_quiet_step (fail)
    refine seqW_on ?_
    refine seqW_pure rfl ?_
    go_big_quiet_step (fail)
    refine seqW_on ?_
    refine seqW_gives (by kernel_rfl) ?_
    refine Gives.value (v := r.val) (w' := w4) (by unfold Rw.val strV; go_simp) ?_
    simp only [Act.put, List.setIfInBounds_toArray, List.set_cons_zero, List.set_cons_succ]
    refine seqW_gives (by kernel_rfl) ?_
    refine Gives.call (by first | (go_simp; done) | (go_simp; rfl)) (encode_any r HRR.out w4) ?_
    rintro e w5 ⟨v5, rfl, hO5, k5⟩
    refine ⟨_, rfl, ?_⟩
    have hb5 := hO5.slB
    obtain ⟨a5, c5, rfl, -, -, -⟩ := hb5.form
    have hPC := hPB.keep k5
    have hMC := (k5.block gm (Array.getElem?_eq_some_iff.1 hMB).1).trans hMB
    have kkC := kkB.trans' k5
    clear hPB hMB kkB k5 hB e0 e1 e2 hO5
    simp only [Act.put, List.setIfInBounds_toArray, List.set_cons_zero, List.set_cons_succ]
    refine seqW_gives (by kernel_rfl) ?_
    refine Gives.toStr Try.underlying38 Try.underlying5 Try.underlying9 _ rfl rfl hb5 ?_
    simp only [Act.put, List.setIfInBounds_toArray, List.set_cons_zero, List.set_cons_succ]
    try simp only [strV]
    refine seqW_pure rfl ?_
    go_big_quiet_step (fail)
    refine seqW_on ?_
    have x0 : w5.cell? ⟨gm, j, none⟩ = some (strV (p.slot (j : Int))) := cell_of hMC j _ (by simp [Pg.strs, h5])
    unfold strV at x0
    have f0 := free_of hMC j
    have hMD : (w5.setCell ⟨gm, j, none⟩ (.string ⟨r.slot.toArray⟩)).heap[gm]? = some (.cells (p.put j r.slot).strs.toArray 9) := by rw [heap_set_same hMC, ← Pg.strs_put hPC.ok j h5 r HRR.out]; rfl
    have hPD := hPC.at (Below.heap_setCell w5 ⟨gm, j, none⟩ (.string ⟨r.slot.toArray⟩) g hgne)
    have kkD : Keep w (w5.setCell ⟨gm, j, none⟩ (.string ⟨r.slot.toArray⟩)) := Keep.setCell kkC hgm1 _
    refine seqW_gives (by kernel_rfl) ?_
    refine Gives.skip (w' := w5.setCell ⟨gm, j, none⟩ (.string ⟨r.slot.toArray⟩)) (by go_simp) ?_
    clear x0 f0 hMC hPC kkC hb5
    generalize w5.setCell ⟨gm, j, none⟩ (.string ⟨r.slot.toArray⟩) = w6 at *
    simp only [Act.put, List.setIfInBounds_toArray, List.set_cons_zero, List.set_cons_succ]
    refine seqW_done ?_
    have x0 : w6.cell? ⟨gm, j, none⟩ = some (strV ((p.put j r.slot).slot (j : Int))) := cell_of hMD j _ (by simp [Pg.strs, h5])
    have hpr : (p.put j r.slot).slot (j : Int) = r.slot := by
      have hraw := Pg.put_raw hPD.ok h5 r.slot (j := j)
      rw [if_pos rfl] at hraw
      rw [Pg.slot_at h5 (by rw [hraw]; exact r.slot_ne_zero), hraw]
    rw [hpr] at x0
    unfold strV at x0
    have hsr := Pg.set_row (p := p) j h5 r HRR.out
    have HSR := Lib.hid hsr
    clear hsr hpr
    go_wp2_with fail
    refine (set_any g p j r.slot w6 hPD (by rw [slot_length r HRR.out]; decide)).mono ?_
    rintro e w7 ⟨rfl, hP7, hb7⟩
    rw [HSR.out.2] at hP7
    have hM7 := (hb7.block gm (Array.getElem?_eq_some_iff.1 hMD).1 (fun e => hgne (by cases e; rfl))).trans hMD
    have kk7 : Keep w w7 := kkD.trans (But.below hb7 hgw kkD.size)
    have hR7 := hR.put j r HRR.out
    clear hMD hPD kkD hb7 x0 hR
    go_wp2
    go_roundw
    case rel => exact ⟨j + 1, _, by omega, by go_num, hP7, hM7, hR7, EM.out, ET.out, EN.out, kk7⟩
    case measure => simp [intOf]; omega
end Go.Proofs.Ytdnmddfnlkaahaa
