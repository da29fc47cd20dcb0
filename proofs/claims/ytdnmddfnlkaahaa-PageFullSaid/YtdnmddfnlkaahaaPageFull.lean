/- The walk of PageFull. -/
import Derived.Test.YtdnmddfnlkaahaaPageL
import Derived.Test.YtdnmddfnlkaahaaFillP
import Derived.Test.YtdnmddfnlkaahaaRowsI
namespace Go.Proofs.Ytdnmddfnlkaahaa
open Go Go.RowKit
attribute [local irreducible] Go.wpQuiet

attribute [local go_sem] Oper.semAt_some
def fullP (r : Rw) (k : Nat) : Pg := ⟨0, 0, 0, List.replicate k r.slot ++ List.replicate (5 - k) (zB 40)⟩
theorem fullP_ok (r : Rw) (hr : r.right = true) (k : Nat) (hk : k ≤ 5) : (fullP r k).Ok :=
  ⟨show (0 : Nat) < 18446744073709551616 by decide, by simp [fullP]; omega, fun s hs => by
    simp only [fullP, List.mem_append, List.mem_replicate] at hs
    rcases hs with ⟨-, rfl⟩ | ⟨-, rfl⟩
    · exact slot_length r hr
    · exact zB_length 40⟩
theorem fullP_zero (r : Rw) : fullP r 0 = Pg.zero := rfl
theorem fullP_raw (r : Rw) (k : Nat) (hk : k ≤ 5) (i : Nat) (hi : i < 5) : (fullP r k).raw i = if i < k then r.slot else zB 40 := by
  rw [Pg.raw_get (by simp [fullP]; omega)]
  simp only [fullP, List.getElem_append, List.length_replicate, List.getElem_replicate]
  split <;> rfl
theorem fullP_free (r : Rw) (k : Nat) (hk : k ≤ 5) : (fullP r k).free [] = if k < 5 then (k : Int) else -1 := by
  have h := fullP_raw r k hk
  have hz := r.slot_ne_zero
  have hf : ∀ i, i < 5 → (fullP r k).isFree i = decide (k ≤ i) := fun i hi => by
    unfold Pg.isFree
    rw [h i hi, Bool.eq_iff_iff, decide_eq_true_eq, decide_eq_true_eq]
    split
    · exact ⟨fun e => absurd e hz, fun e => by omega⟩
    · exact ⟨fun _ => by omega, fun _ => rfl⟩
  unfold Pg.free
  simp only [Pg.freeFrom, hf 0 (by decide), hf 1 (by decide), hf 2 (by decide), hf 3 (by decide), hf 4 (by decide)]
  rcases (show k = 0 ∨ k = 1 ∨ k = 2 ∨ k = 3 ∨ k = 4 ∨ k = 5 by omega) with rfl | rfl | rfl | rfl | rfl | rfl <;> simp
theorem fullP_put (r : Rw) (k : Nat) (hk : k < 5) : (fullP r k).put k r.slot = fullP r (k + 1) := by
  unfold fullP Pg.put
  congr 1
  refine List.ext_getElem (by simp; omega) fun i h1 h2 => ?_
  simp only [List.getElem_set, List.getElem_append, List.length_replicate, List.getElem_replicate]
  by_cases e : k = i
  · subst e; simp
  · rw [if_neg e]
    by_cases h : i < k
    · simp [h, Nat.lt_succ_of_lt h]
    · simp [h, show ¬ i < k + 1 by omega]
theorem fullP_rows (r : Rw) (hr : r.right = true) (k : Nat) (hk : k ≤ 5) : ((fullP r k).rowsTo 5).length = k := by
  have h : ∀ i, i < 5 → (Rw.dec ((fullP r k).raw i)).2 = if i < k then 0 else 5 := fun i hi => by
    rw [fullP_raw r k hk i hi]
    split
    · rw [Rw.dec_slot r hr]
    · exact dec_zeros
  have hs : ∀ m, m ≤ 5 → ((fullP r k).rowsTo m).length = min m k := by
    intro m
    induction m with
    | zero => intro _; simp [Pg.rowsTo]
    | succ m ih =>
      intro hm
      rw [Pg.rowsTo_succ, List.length_append, ih (by omega), h m (by omega)]
      by_cases e : m < k
      · rw [if_pos e, if_pos rfl]; simp; omega
      · rw [if_neg e, if_neg (by decide)]; simp; omega
  rw [hs 5 (Nat.le_refl _)]
  omega
set_option maxRecDepth 100000 in
set_option maxHeartbeats 8000000 in
theorem pageFull_any (r : Rw) (nn : Int) (w : World)  : Calls Try.prog 5 #[.agg #[.int .i64 r.t, .string ⟨r.k.toArray⟩, .string ⟨r.v.toArray⟩], .int .i64 nn] w fun e w' => e = .returned (.bool true) ∧ Keep w w' := by
  obtain ⟨c, hc, hce⟩ := and_low nn 7 3 rfl (by decide)
  have hce : Go.bits .and .i64 nn 7 = (c : Int) := hce
  have HC := Lib.hid hce
  clear hce
  refine (callsIn_wide (n := 8)).1 ?_
  refine callsIn_of_wp_marks Try.func5 rfl trivial ?_ rfl
  simp only [Try.ntmps5, List.size_toArray, List.length_cons, List.length_nil, Nat.reduceAdd, Nat.reduceSub, Array.replicate_succ, Array.replicate_zero, List.push_toArray, List.append_toArray, List.nil_append, List.cons_append]
  refine wpIn_wide.2 ?_
  go_upto_region 1 with (fail)
  have kb := Keep.alloc w (.cells #[.int .i64 r.t, .string ⟨r.k.toArray⟩, .string ⟨r.v.toArray⟩] 24)
  have hwho := heap_alloc_new w (.cells #[.int .i64 r.t, .string ⟨r.k.toArray⟩, .string ⟨r.v.toArray⟩] 24)
  have hgw : w.heap.size < (w.alloc (.cells #[.int .i64 r.t, .string ⟨r.k.toArray⟩, .string ⟨r.v.toArray⟩] 24)).heap.size := by simp
  generalize w.alloc (.cells #[.int .i64 r.t, .string ⟨r.k.toArray⟩, .string ⟨r.v.toArray⟩] 24) = w0 at *
  obtain ⟨gr, hge⟩ : ∃ x, x = w.heap.size := ⟨_, rfl⟩
  rw [← hge] at hwho hgw ⊢
  go_wp2_with fail
  refine (fit_any _).mono ?_
  rintro e w1 ⟨rfl, k1⟩
  have hwho := (k1.block gr hgw).trans hwho
  have k1 := kb.trans' k1
  have x0 : w1.cell? ⟨gr, 0, none⟩ = some (.int .i64 r.t) := cell_of hwho 0 _ rfl
  have x1 : w1.cell? ⟨gr, 1, none⟩ = some (.string ⟨r.k.toArray⟩) := cell_of hwho 1 _ rfl
  have x2 : w1.cell? ⟨gr, 2, none⟩ = some (.string ⟨r.v.toArray⟩) := cell_of hwho 2 _ rfl
  clear kb hgw hge
  go_wp2_with fail
  have hone : SlR (w1.alloc (.cells #[.int .i64 r.t, .string ⟨r.k.toArray⟩, .string ⟨r.v.toArray⟩] 24)) (.slice (some ⟨w1.heap.size, 0, none⟩) 1 1) [r] := SlC.laid (w := w1) 24 (0, 0) 3 r.cells rfl
  have ka := Keep.alloc w1 (.cells #[.int .i64 r.t, .string ⟨r.k.toArray⟩, .string ⟨r.v.toArray⟩] 24)
  refine (light_any _ [r] _ hone).mono ?_
  generalize w1.alloc (.cells #[.int .i64 r.t, .string ⟨r.k.toArray⟩, .string ⟨r.v.toArray⟩] 24) = w3 at *
  rintro e w4 ⟨bc, rfl, -, k4⟩
  have hk4 := ka.trans' k4
  have hwho := (hk4.block gr (Array.getElem?_eq_some_iff.1 hwho).1).trans hwho
  have kw4 := k1.trans' hk4
  clear hone ka k4 x0 x1 x2
  have x0 : w4.cell? ⟨gr, 0, none⟩ = some (.int .i64 r.t) := cell_of hwho 0 _ rfl
  have x1 : w4.cell? ⟨gr, 1, none⟩ = some (.string ⟨r.k.toArray⟩) := cell_of hwho 1 _ rfl
  have x2 : w4.cell? ⟨gr, 2, none⟩ = some (.string ⟨r.v.toArray⟩) := cell_of hwho 2 _ rfl
  cases bc
  · go_wp2
    exact ⟨_, results_tmp rfl _ _ _, rfl, kw4⟩
  go_wp2_with fail
  refine (right_any r w4).mono ?_
  rintro e w5 ⟨rfl, k5⟩
  have hwho := (k5.block gr (Array.getElem?_eq_some_iff.1 hwho).1).trans hwho
  have kw5 := kw4.trans' k5
  clear x0 x1 x2 k5 hk4 kw4 k1
  by_cases hr : r.right = true
  rotate_left
  · rw [Bool.not_eq_true] at hr
    rw [hr]
    go_wp2
    exact ⟨_, results_tmp rfl _ _ _, rfl, kw5⟩
  rw [hr]
  go_upto_region 5 with (fail)
  refine wp_region_seq ?_
  refine seqW_pure rfl ?_
  go_big_quiet_step (fail)
  refine seqW_on ?_
  refine seqW_gives (by kernel_rfl) ?_
  refine Gives.value (v := .int .i64 (c : Int)) (w' := w5) (by rw [← HC.out]; go_simp) ?_
  simp only [Act.put, List.setIfInBounds_toArray, List.set_cons_zero, List.set_cons_succ]
  refine seqW_pure rfl ?_
  go_big_quiet_step (fail)
  refine seqW_on ?_
  refine seqW_done ?_
  clear HC
  go_upto_region 6 with (fail)
  refine wp_region_seq ?_
  refine seqW_gives (by kernel_rfl) ?_
  refine Gives.allocBig bigP rfl ?_
  have hP : PgAt (w5.alloc (.cells Pg.zero.cells.toArray 36)) w5.heap.size (fullP r 0) := ⟨heap_alloc_new w5 _, Pg.zero_ok⟩
  have ka := Keep.alloc w5 (.cells Pg.zero.cells.toArray 36)
  obtain ⟨gp, hgp⟩ : ∃ x, x = w5.heap.size := ⟨_, rfl⟩
  rw [← hgp] at hP
  rw [← hgp]
  generalize w5.alloc (.cells Pg.zero.cells.toArray 36) = w6 at *
  simp only [Act.put, List.setIfInBounds_toArray, List.set_cons_zero, List.set_cons_succ]
  refine seqW_done ?_
  have hgr : gr < w5.heap.size := (Array.getElem?_eq_some_iff.1 hwho).1
  have hne : gp ≠ gr := by omega
  have hwho := (ka.block gr hgr).trans hwho
  have hgw : w.heap.size ≤ gp := by rw [hgp]; exact kw5.size
  have k6 := kw5.trans' ka
  have HE := Lib.hid (fun w => encode_any r hr w)
  clear hgp hgr ka kw5
  go_wp2_with fail
  go_loopw [24] (fun z wr => ∃ i : Nat, i ≤ c ∧ z = .int .i64 i ∧ PgAt wr gp (fullP r (min i 5)) ∧ wr.heap[gr]? = some (.cells #[.int .i64 r.t, .string ⟨r.k.toArray⟩, .string ⟨r.v.toArray⟩] 24) ∧ Keep w wr) (fun z _ => c - (intOf z).toNat)
  case atStart => exact ⟨0, Nat.zero_le _, rfl, hP, hwho, k6⟩
  case round =>
    obtain ⟨i, hi, rfl, hPr, hw, kr⟩ := hrel
    clear hP hwho k6
    by_cases hic : i < c
    rotate_left
    · have hid : ¬ ((i : Int) < (c : Int)) := by omega
      have e : i = c := by omega
      subst e
      clear HE
      obtain ⟨kk, hkk⟩ : ∃ kk, min i 5 = kk := ⟨_, rfl⟩
      have hk5 : kk ≤ 5 := by omega
      rw [hkk] at hPr
      have hmf : ∀ (fn : Fn) (first cap : Array Value) (w : World), (Instr.makeFunc fn first cap).run Try.prog w = .ok (.func fn first cap) w := fun _ _ _ _ => rfl
      go_wp2_with fail
      have hk0 := Keep.alloc wr (.cells #[.int .i64 0] 3)
      have hK := heap_alloc_new wr (.cells #[.int .i64 0] 3)
      have hsz : (wr.alloc (.cells #[.int .i64 0] 3)).heap.size = wr.heap.size + 1 := by simp
      have hPl := hPr.keep hk0
      have hgpl : gp < wr.heap.size := hPr.lt
      have kl := kr.trans' hk0
      have hlen := fullP_rows r hr kk hk5
      generalize wr.alloc (.cells #[.int .i64 0] 3) = wl at *
      generalize wr.heap.size = gK at *
      refine wpIn_wide.1 (wpIn_rangeFuncB2 (n := 8) rfl (by decide) (gf := 18) (fst := #[.pointer (some ⟨gp, 0, none⟩)]) rfl trivial (enters_of Try.func18 (by kernel_rfl) rfl) encR1 encR2 (n₀ := gK) (by omega) (rows_seq _ _ gp (fullP r kk) wl hPl hgpl)
        (fun pre W => W.heap[gK]? = some (.cells #[.int .i64 (pre.length : Int)] 3) ∧ Keep w W) (fun _ _ _ => False)
        (fun s A B h hb => ⟨(hb.block _ (by omega)).trans h.1, h.2.trans (hb.mono kl.size)⟩) (fun _ _ _ _ h _ => h) ⟨hK, kl⟩ ?_ ?_ (fun _ _ _ _ _ _ h _ => h.elim))
      · rintro l pre x post W hx - ⟨hc, hkW⟩
        have c0 : W.cell? ⟨gK, 0, none⟩ = some (.int .i64 (pre.length : Int)) := cell_of hc 0 _ rfl
        have f0 := free_of hc 0
        have hpl : pre.length < 5 := by have := congrArg List.length hx; rw [hlen, List.length_append, List.length_cons] at this; omega
        have hgw2 : w.heap.size ≤ gK := by omega
        clear hx hlen hK hPl hk0 kl hPr kr
        simp only [encR1, encR2, List.setIfInBounds_toArray, List.set_cons_zero, List.set_cons_succ]
        gi_wp2
        refine ⟨KeepsOthers.setCell _ _ _, (Below.refl _ W).setCell (p := ⟨gK, 0, none⟩) (Nat.le_refl _) _, ?_, Keep.setCell hkW hgw2 _⟩
        rw [heap_set_same hc, List.length_append]
        rfl
      · rintro D W hD ⟨hc, hkW⟩ hKD
        rw [hlen] at hc
        have c0 : W.cell? ⟨gK, 0, none⟩ = some (.int .i64 (kk : Int)) := cell_of hc 0 _ rfl
        have hDw : w.heap.size ≤ D := Nat.le_trans kl.size hD
        clear hlen hK hPl hk0 kl hPr kr hc
        by_cases h5i : i ≤ 5
        · obtain rfl : kk = i := by omega
          have h5j : (kk : Int) ≤ 5 := by omega
          go_wp2
          refine ⟨by simp, .inl ⟨_, _, rfl, run_takeDeferred hKD, ?_⟩⟩
          exact ⟨_, results_tmp rfl _ _ _, rfl, hkW.trans (belowK_b (w := w) (Nat.le_refl _) W D _ _ hDw hKD rfl rfl)⟩
        · obtain rfl : kk = 5 := by omega
          have h5j : ¬ (i : Int) ≤ 5 := by omega
          go_wp2
          refine ⟨by simp, .inl ⟨_, _, rfl, run_takeDeferred hKD, ?_⟩⟩
          exact ⟨_, results_tmp rfl _ _ _, rfl, hkW.trans (belowK_b (w := w) (Nat.le_refl _) W D _ _ hDw hKD rfl rfl)⟩
    have hid : (i : Int) < (c : Int) := by omega
    have hfree := fullP_free r (min i 5) (Nat.min_le_right _ _)
    have hok := fullP_ok r hr (min i 5) (Nat.min_le_right _ _)
    by_cases hi5 : i < 5
    · have hg5 : ¬ (5 : Int) ≤ (i : Int) := by omega
      have hg6 : (i : Int) < 5 := by omega
      rw [show min i 5 = i by omega] at hPr hfree hok
      rw [if_pos hi5] at hfree
      obtain ⟨may1, set1⟩ := Pg.set_row (p := fullP r i) i hi5 r hr
      rw [fullP_put r i hi5] at set1
      have HF := Lib.hid (fun w (h : PgAt w gp (fullP r i)) => hfree ▸ free_any gp (fullP r i) [] _ w h (SlI.nil w))
      have HS := Lib.hid (fun w (h : PgAt w gp (fullP r i)) => may1 ▸ set1 ▸ set_any gp (fullP r i) (i : Int) r.slot w h (by rw [slot_length r hr]; decide))
      clear may1 set1 hfree hok
      generalize r.slot = rs at HE HS
      go_wp2_with fail
      refine (HF.out wr hPr).mono ?_
      rintro e wx ⟨rfl, rfl⟩
      go_upto_region 16 with (fail)
      refine wp_region_seq ?_
      refine seqW_pure rfl ?_
      go_big_quiet_step (fail)
      refine seqW_on ?_
      refine seqW_gives (by kernel_rfl) ?_
      refine Gives.value (v := .agg #[.int .i64 r.t, .string ⟨r.k.toArray⟩, .string ⟨r.v.toArray⟩]) (w' := wr) (by have x0 := cell_of hw 0 _ rfl; have x1 := cell_of hw 1 _ rfl; have x2 := cell_of hw 2 _ rfl; go_simp) ?_
      simp only [Act.put, List.setIfInBounds_toArray, List.set_cons_zero, List.set_cons_succ]
      refine seqW_gives (by kernel_rfl) ?_
      refine Gives.call (by first | (go_simp; done) | (go_simp; rfl)) (HE.out wr) ?_
      rintro e w2 ⟨v2, rfl, hO, k2⟩
      refine ⟨_, rfl, ?_⟩
      have hs2 := hO.slB
      have hP2 := hPr.keep k2
      have hw2 := (k2.block gr (Array.getElem?_eq_some_iff.1 hw).1).trans hw
      have kk2 := kr.trans' k2
      clear hO k2 hPr hw kr
      simp only [Act.put, List.setIfInBounds_toArray, List.set_cons_zero, List.set_cons_succ]
      refine seqW_gives (by kernel_rfl) ?_
      refine Gives.toStr Try.underlying38 Try.underlying5 Try.underlying9 _ rfl rfl hs2 ?_
      simp only [Act.put, List.setIfInBounds_toArray, List.set_cons_zero, List.set_cons_succ]
      unfold strV
      refine seqW_gives (by kernel_rfl) ?_
      refine Gives.call (by first | (go_simp; done) | (go_simp; rfl)) (HS.out w2 hP2) ?_
      rintro e w3 ⟨rfl, hP3, hb3⟩
      refine ⟨_, rfl, ?_⟩
      have hw3 := (hb3.block gr (Array.getElem?_eq_some_iff.1 hw2).1 (fun e => hne (Option.some.inj e).symm)).trans hw2
      have kk3 : Keep w w3 := kk2.trans (But.below hb3 hgw kk2.size)
      clear hs2 hP2 hw2 kk2 hb3 HF HS
      simp only [Act.put, List.setIfInBounds_toArray, List.set_cons_zero, List.set_cons_succ]
      refine seqW_done ?_
      go_wp2
      go_roundw
      case rel => exact ⟨i + 1, by omega, by go_num, by rw [show min (i + 1) 5 = i + 1 by omega]; exact hP3, hw3, kk3⟩
      case measure => simp [intOf]; omega
    · have hg5 : (5 : Int) ≤ (i : Int) := by omega
      have hg6 : ¬ (i : Int) < 5 := by omega
      rw [show min i 5 = 5 by omega] at hPr hfree hok
      rw [if_neg (by decide)] at hfree
      have may1 : Pg.may (-1) r.slot = false := decide_eq_false (fun h => by omega)
      have set1 : (fullP r 5).set (-1) r.slot = fullP r 5 := if_neg (by rw [may1]; decide)
      have HF := Lib.hid (fun w (h : PgAt w gp (fullP r 5)) => hfree ▸ free_any gp (fullP r 5) [] _ w h (SlI.nil w))
      have HS := Lib.hid (fun w (h : PgAt w gp (fullP r 5)) => may1 ▸ set1 ▸ set_any gp (fullP r 5) (-1) r.slot w h (by rw [slot_length r hr]; decide))
      clear may1 set1 hfree hok
      generalize r.slot = rs at HE HS
      go_wp2_with fail
      refine (HF.out wr hPr).mono ?_
      rintro e wx ⟨rfl, rfl⟩
      go_upto_region 16 with (fail)
      refine wp_region_seq ?_
      refine seqW_pure rfl ?_
      go_big_quiet_step (fail)
      refine seqW_on ?_
      refine seqW_gives (by kernel_rfl) ?_
      refine Gives.value (v := .agg #[.int .i64 r.t, .string ⟨r.k.toArray⟩, .string ⟨r.v.toArray⟩]) (w' := wr) (by have x0 := cell_of hw 0 _ rfl; have x1 := cell_of hw 1 _ rfl; have x2 := cell_of hw 2 _ rfl; go_simp) ?_
      simp only [Act.put, List.setIfInBounds_toArray, List.set_cons_zero, List.set_cons_succ]
      refine seqW_gives (by kernel_rfl) ?_
      refine Gives.call (by first | (go_simp; done) | (go_simp; rfl)) (HE.out wr) ?_
      rintro e w2 ⟨v2, rfl, hO, k2⟩
      refine ⟨_, rfl, ?_⟩
      have hs2 := hO.slB
      have hP2 := hPr.keep k2
      have hw2 := (k2.block gr (Array.getElem?_eq_some_iff.1 hw).1).trans hw
      have kk2 := kr.trans' k2
      clear hO k2 hPr hw kr
      simp only [Act.put, List.setIfInBounds_toArray, List.set_cons_zero, List.set_cons_succ]
      refine seqW_gives (by kernel_rfl) ?_
      refine Gives.toStr Try.underlying38 Try.underlying5 Try.underlying9 _ rfl rfl hs2 ?_
      simp only [Act.put, List.setIfInBounds_toArray, List.set_cons_zero, List.set_cons_succ]
      unfold strV
      refine seqW_gives (by kernel_rfl) ?_
      refine Gives.call (by first | (go_simp; done) | (go_simp; rfl)) (HS.out w2 hP2) ?_
      rintro e w3 ⟨rfl, hP3, hb3⟩
      refine ⟨_, rfl, ?_⟩
      have hw3 := (hb3.block gr (Array.getElem?_eq_some_iff.1 hw2).1 (fun e => hne (Option.some.inj e).symm)).trans hw2
      have kk3 : Keep w w3 := kk2.trans (But.below hb3 hgw kk2.size)
      clear hs2 hP2 hw2 kk2 hb3 HF HS
      simp only [Act.put, List.setIfInBounds_toArray, List.set_cons_zero, List.set_cons_succ]
      refine seqW_done ?_
      go_wp2
      go_roundw
      case rel => exact ⟨i + 1, by omega, by go_num, by rw [show min (i + 1) 5 = 5 by omega]; exact hP3, hw3, kk3⟩
      case measure => simp [intOf]; omega
end Go.Proofs.Ytdnmddfnlkaahaa
