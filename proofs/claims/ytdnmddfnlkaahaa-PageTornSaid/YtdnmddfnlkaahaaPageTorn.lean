/- The walk of PageTorn. -/
import Derived.Test.YtdnmddfnlkaahaaPageL
import Derived.Test.YtdnmddfnlkaahaaFillP
import Derived.Test.YtdnmddfnlkaahaaCopy
namespace Go.Proofs.Ytdnmddfnlkaahaa
open Go Go.RowKit
attribute [local irreducible] Go.wpQuiet

theorem and_one (x : Nat) (h : x < 1048576) : Go.bits .and .i64 (x : Int) 1 = ((x % 2 : Nat) : Int) := by
  have e : Go.bits .and .i64 (x : Int) 1 = IntKind.i64.wrap ((((BitVec.ofInt 64 (x : Int)) &&& (BitVec.ofInt 64 ((1 : Nat) : Int))).toNat : Nat) : Int) := rfl
  have e2 : ((BitVec.ofInt 64 (x : Int)) &&& (BitVec.ofInt 64 ((1 : Nat) : Int))).toNat = x % 2 := by
    rw [BitVec.toNat_and, BitVec.ofInt_natCast, BitVec.ofInt_natCast, BitVec.toNat_ofNat, BitVec.toNat_ofNat, Nat.mod_eq_of_lt (by omega), Nat.mod_eq_of_lt (by decide), Nat.and_one_is_mod]
  rw [e, e2, IntKind.wrap_i64]
  omega
def patch (E F : List UInt8) (i : Nat) : List UInt8 := E.take (i * 64) ++ ((F.drop (i * 64)).take 64 ++ E.drop (i * 64 + 64))
theorem sliced_own (g c : Nat) (i : Nat) (hi : i < 4) (hc : 256 ≤ c) : sliced (some ⟨g, 0, none⟩) (i * 64) (i * 64 + 64) c 1 = .slice (some ⟨g, i * 64, none⟩) 64 (c - i * 64) := by
  unfold sliced
  rw [if_neg (by omega), show i * 64 + 64 - i * 64 = 64 by omega, Nat.mul_one]
  simp [Addr.add]
  omega
theorem patch_len {E F : List UInt8} (hE : E.length = 256) (hF : F.length = 256) (i : Nat) (hi : i < 4) : (patch E F i).length = 256 := by
  unfold patch
  rw [List.length_append, List.length_append, List.length_take, List.length_take, List.length_drop, List.length_drop, hE, hF]
  omega
theorem patch_at {E F : List UInt8} (hE : E.length = 256) (hF : F.length = 256) (i j : Nat) (hi : i < 4) (hj : j < 4) : ((patch E F i).drop (j * 64)).take 8 = if j = i then (F.drop (j * 64)).take 8 else (E.drop (j * 64)).take 8 := by
  have l1 : (E.take (i * 64)).length = i * 64 := by rw [List.length_take, hE]; omega
  have l2 : ((F.drop (i * 64)).take 64).length = 64 := by rw [List.length_take, List.length_drop, hF]; omega
  unfold patch
  rcases Nat.lt_trichotomy j i with h | h | h
  · rw [if_neg (by omega), List.drop_append_of_le_length (by omega), List.take_append_of_le_length (by rw [List.length_drop, l1]; omega), List.drop_take, List.take_take, Nat.min_eq_left (by omega)]
  · subst h
    rw [if_pos rfl, List.drop_append, List.drop_eq_nil_of_le (by omega), List.nil_append, l1, Nat.sub_self, List.drop_zero, List.take_append_of_le_length (by omega), List.take_take]
    rfl
  · rw [if_neg (by omega), List.drop_append, List.drop_eq_nil_of_le (by omega), List.nil_append, l1, List.drop_append, List.drop_eq_nil_of_le (by omega), List.nil_append, l2, List.drop_drop, show i * 64 + 64 + (j * 64 - i * 64 - 64) = j * 64 by omega]
theorem patch_splice {E F : List UInt8} (hF : F.length = 256) (i : Nat) (hi : i < 4) : splice (E.map B) (i * 64) ((((F.drop (i * 64)).take 64).map B).take 64) = (patch E F i).map B := by
  have l2 : ((F.drop (i * 64)).take 64).length = 64 := by rw [List.length_take, List.length_drop, hF]; omega
  rw [List.take_of_length_le (by rw [List.length_map, l2]; exact Nat.le_refl _)]
  unfold splice patch
  rw [List.length_map, l2]
  simp only [List.map_append, List.map_take, List.map_drop]
/-- a mask of four bits that has both kinds -/
theorem both_bits (M : Nat) (h1 : 1 ≤ M) (h2 : M ≤ 14) : (∃ i, i < 4 ∧ M / 2 ^ i % 2 = 1) ∧ (∃ j, j < 4 ∧ M / 2 ^ j % 2 ≠ 1) := by
  have : ∀ M : Fin 15, 1 ≤ M.val → (∃ i : Fin 4, M.val / 2 ^ i.val % 2 = 1) ∧ (∃ j : Fin 4, M.val / 2 ^ j.val % 2 ≠ 1) := by decide
  obtain ⟨⟨i, hi⟩, ⟨j, hj⟩⟩ := this ⟨M, by omega⟩ h1
  exact ⟨⟨i.val, i.isLt, hi⟩, ⟨j.val, j.isLt, hj⟩⟩
set_option maxRecDepth 100000 in
set_option maxHeartbeats 8000000 in
theorem pageTorn_any (v u : Value) (l k : List Rw) (mask : Int) (w : World) (hS : SlR w v l) (hT : SlR w u k) : Calls Try.prog 9 #[v, u, .int .i64 mask] w fun e w' => e = .returned (.bool true) ∧ Keep w w' := by
  obtain ⟨va, vc, rfl, -, -⟩ := hS.form
  obtain ⟨ua, uc, rfl, -, -⟩ := hT.form
  obtain ⟨c1, hc1, hce1⟩ := and_low mask 1 1 rfl (by decide)
  obtain ⟨c15, hc15, hce15⟩ := and_low mask 15 4 rfl (by decide)
  have hce1 : Go.bits .and .i64 mask 1 = (c1 : Int) := hce1
  have hce15 : Go.bits .and .i64 mask 15 = (c15 : Int) := hce15
  obtain ⟨m2, hm2⟩ : ∃ m2 : Nat, m2 = 8 + c1 := ⟨_, rfl⟩
  have hm2l : m2 < 18446744073709551616 := by omega
  have HC1 := Lib.hid hce1
  have HC15 := Lib.hid hce15
  clear hce1 hce15
  go_enter Try.func9, Try.ntmps9
  go_wp2_with fail
  refine (fit_any _).mono ?_
  rintro e w1 ⟨rfl, k1⟩
  go_wp2_with fail
  refine (light_any _ l w1 (hS.keep k1)).mono ?_
  rintro e w2 ⟨bb, rfl, -, kw2⟩
  have kw2 := k1.trans' kw2
  cases bb
  · go_wp2
    go_ret
    exact ⟨rfl, kw2⟩
  go_wp2_with fail
  refine (light_any _ k w2 (hT.keep kw2)).mono ?_
  rintro e w3 ⟨bc, rfl, -, kw3⟩
  have kw3 := kw2.trans' kw3
  cases bc
  · go_wp2
    go_ret
    exact ⟨rfl, kw3⟩
  go_wp2_with fail
  refine (fill_any _ l 7 (1) (2) w3 (hS.keep kw3) (by first | assumption | decide)).mono ?_
  rintro e w4 ⟨p, g, gm, rfl, H⟩
  have htp : p.tenant = 1 := H.t.trans (by decide)
  have hnp : p.number = 2 := H.n.trans (by decide)
  have hP := H.at_
  have hpok := hP.ok
  have k4 := kw3.trans' H.k
  have hpm := H.m
  clear H
  go_upto_region 6 with (fail)
  refine wp_region_seq ?_
  refine seqW_pure rfl ?_
  go_big_quiet_step (fail)
  refine seqW_on ?_
  refine seqW_pure rfl ?_
  go_big_quiet_step (fail)
  refine seqW_on ?_
  refine seqW_gives (by kernel_rfl) ?_
  refine Gives.value (v := .int .i64 (c1 : Int)) (w' := w4) (by rw [← HC1.out]; go_simp) ?_
  simp only [Act.put, List.setIfInBounds_toArray, List.set_cons_zero, List.set_cons_succ]
  refine seqW_gives (by kernel_rfl) ?_
  refine Gives.value (v := .int .i64 (m2 : Int)) (w' := w4) (by rcases (show c1 = 0 ∨ c1 = 1 by omega) with rfl | rfl <;> subst hm2 <;> go_simp <;> decide) ?_
  simp only [Act.put, List.setIfInBounds_toArray, List.set_cons_zero, List.set_cons_succ]
  refine seqW_gives (by kernel_rfl) ?_
  refine Gives.value (v := .int .u64 (m2 : Int)) (w' := w4) (by rcases (show c1 = 0 ∨ c1 = 1 by omega) with rfl | rfl <;> subst hm2 <;> go_simp <;> decide) ?_
  simp only [Act.put, List.setIfInBounds_toArray, List.set_cons_zero, List.set_cons_succ]
  refine seqW_gives (by kernel_rfl) ?_
  refine Gives.call (by first | (go_simp; done) | (go_simp; rfl)) (fill_any _ k m2 1 2 w4 (hT.keep k4) hm2l) ?_
  rintro e w5 ⟨q, gq, gmq, rfl, H⟩
  refine ⟨_, rfl, ?_⟩
  simp only [Act.put, List.setIfInBounds_toArray, List.set_cons_zero, List.set_cons_succ]
  refine seqW_pure rfl ?_
  go_big_quiet_step (fail)
  refine seqW_on ?_
  refine seqW_pure rfl ?_
  go_big_quiet_step (fail)
  refine seqW_on ?_
  refine seqW_pure rfl ?_
  go_big_quiet_step (fail)
  refine seqW_on ?_
  refine seqW_pure rfl ?_
  go_big_quiet_step (fail)
  refine seqW_on ?_
  refine seqW_pure rfl ?_
  go_big_quiet_step (fail)
  refine seqW_on ?_
  refine seqW_done ?_
  have htq : q.tenant = 1 := H.t.trans (by decide)
  have hnq : q.number = 2 := H.n.trans (by decide)
  have hQ := H.at_
  have hqok := hQ.ok
  have k5 := k4.trans' H.k
  have hqm : q.mark ≠ 7 := by rw [H.m]; omega
  have hP5 := hP.keep H.k
  have hgl : g ≠ gq := fun e => by have := H.gw; have := hP.lt; omega
  have hgq : w.heap.size ≤ gq := Nat.le_trans k4.size H.gw
  clear H hP k4 hm2
  go_upto_if 42 with (fail)
  go_cut [] from 43 to 45 (fun w' => ∃ q' : Pg, PgAt w' gq q' ∧ q'.mark ≠ 7 ∧ q'.tenant = 1 ∧ q'.number = 2 ∧ PgAt w' g p ∧ Keep w w')
  case first =>
    as_aux_lemma =>
      have c0 : w5.cell? ⟨gq, 0, none⟩ = _ := hQ.heads.1
      have f0 := free_of hQ.h 0
      by_cases hz : 0 < Go.bits .and .i64 mask 32
      · go_wp2
        go_meet
        case rel => exact ⟨q.withMark 0, hQ.mark 0 (by decide), (show (0 : Nat) ≠ 7 by decide), htq, hnq, hP5.but (But.setCell w5 gq 0 _) hgl, Keep.setCell k5 hgq _⟩
      · go_wp2
        go_meet
        case rel => exact ⟨q, hQ, hqm, htq, hnq, hP5, k5⟩
  obtain ⟨q', hQ', hqm', htq', hnq', hP', k6⟩ := hcut
  clear hQ hqm hP5 htq hnq hqok k5 hgq
  generalize wc = w6 at *
  have hqok' := hQ'.ok
  go_upto_region 9 with (fail)
  refine wp_region_ord' [none, some (oV (.pointer (some ⟨g, 0, none⟩))), some (oV (.agg p.cells.toArray)), some (oOwn w6.heap.size 5 (p.enc.map B)), none, some (oV (.pointer (some ⟨gq, 0, none⟩))), some (oV (.agg q'.cells.toArray)), some (oOwn w6.heap.size 5 (q'.enc.map B)), none, none]
    #[0, 0, 0, 0, 0, 0, 0, 0, 0, 0] (w6.heap.size) (fun w' => Keep w6 w') (by kernel_rfl) (by kernel_rfl) (by kernel_rfl) ((Keep.refl w6).drew) ?_
  refine ordT_pure rfl ?_
  go_big_quiet_step (fail)
  refine ordT_on ?_
  refine ordT_same (by kernel_rfl) (fun w2 hC => ?_) ?_
  · go_simp
  simp only [Act.put, List.setIfInBounds_toArray, List.set_cons_zero, List.set_cons_succ]
  refine ordT_same (by kernel_rfl) (fun w2 hC => ?_) ?_
  · exact exec_loadBig bigP _ rfl rfl w2 p.cells hP'.ok.cells (fun j v hj => cell_of (hP'.keep hC).h _ v (by rw [Nat.zero_add]; exact hj))
  simp only [Act.put, List.setIfInBounds_toArray, List.set_cons_zero, List.set_cons_succ]
  refine ordT_call (by kernel_rfl) keepK (fun w2 own hC hF => ?_) ?_
  · refine ⟨_, _, by first | (go_simp; done) | (go_simp; rfl), (pencode_any p hP'.ok (by rw [htp]; decide) (by rw [hnp]; decide) w2).mono ?_⟩
    rintro e w' ⟨v, rfl, hO, hk⟩
    exact ⟨v, rfl, hk, fun S hS => ⟨hO.mono hC.size, Own.inOf hO fun g hg => hS g (.inr (World.ownsRow.lt hO g hg).1)⟩⟩
  rintro x3 wx3 ownx3 hCx3 hx3
  obtain ⟨gx3, cx3, rfl, -, -⟩ := hx3.1.head (by rw [List.length_map, hP'.ok.enc]; decide)
  rw [List.length_map, hP'.ok.enc]
  simp only [Act.put, List.setIfInBounds_toArray, List.set_cons_zero, List.set_cons_succ]
  refine ordT_pure rfl ?_
  go_big_quiet_step (fail)
  refine ordT_on ?_
  refine ordT_same (by kernel_rfl) (fun w2 hC => ?_) ?_
  · go_simp
  simp only [Act.put, List.setIfInBounds_toArray, List.set_cons_zero, List.set_cons_succ]
  refine ordT_same (by kernel_rfl) (fun w2 hC => ?_) ?_
  · exact exec_loadBig bigP _ rfl rfl w2 q'.cells hQ'.ok.cells (fun j v hj => cell_of (hQ'.keep hC).h _ v (by rw [Nat.zero_add]; exact hj))
  simp only [Act.put, List.setIfInBounds_toArray, List.set_cons_zero, List.set_cons_succ]
  refine ordT_call (by kernel_rfl) keepK (fun w2 own hC hF => ?_) ?_
  · refine ⟨_, _, by first | (go_simp; done) | (go_simp; rfl), (pencode_any q' hQ'.ok (by rw [htq']; decide) (by rw [hnq']; decide) w2).mono ?_⟩
    rintro e w' ⟨v, rfl, hO, hk⟩
    exact ⟨v, rfl, hk, fun S hS => ⟨hO.mono hC.size, Own.inOf hO fun g hg => hS g (.inr (World.ownsRow.lt hO g hg).1)⟩⟩
  rintro x7 wx7 ownx7 hCx7 hx7
  obtain ⟨gx7, cx7, rfl, -, -⟩ := hx7.1.head (by rw [List.length_map, hQ'.ok.enc]; decide)
  rw [List.length_map, hQ'.ok.enc]
  simp only [Act.put, List.setIfInBounds_toArray, List.set_cons_zero, List.set_cons_succ]
  refine ordT_pure rfl ?_
  go_big_quiet_step (fail)
  refine ordT_on ?_
  refine ordT_pure rfl ?_
  go_big_quiet_step (fail)
  refine ordT_on ?_
  refine ordT_done fun w7 own hC hF => ?_
  obtain ⟨hOa, hIa⟩ := (((((hF 3).2 rfl).2 rfl).2 rfl).1 rfl)
  obtain ⟨hOb, hIb⟩ := ((hF 7).1 rfl)
  have k7 := k6.trans' hC
  clear hF
  have a3 : gx3 < w6.heap.size ∨ own gx3 = 3 := hIa ⟨gx3, 0, none⟩ 256 cx3 rfl
  have a7 : gx7 < w6.heap.size ∨ own gx7 = 7 := hIb ⟨gx7, 0, none⟩ 256 cx7 rfl
  have n3 : w6.heap.size ≤ gx3 := (World.ownsRow.lt hOa gx3 rfl).1
  have n7 : w6.heap.size ≤ gx7 := (World.ownsRow.lt hOb gx7 rfl).1
  have hne : gx7 ≠ gx3 := fun e => by
    subst e
    rcases a3 with a3 | a3
    · omega
    · rcases a7 with a7 | a7
      · omega
      · omega
  have hga : w.heap.size ≤ gx3 := Nat.le_trans k6.size n3
  replace hOa := hOa.mono k6.size
  replace hOb := hOb.mono k6.size
  have hca : 256 ≤ cx3 := by
    obtain ⟨_, _, e, -, hh, -⟩ := hOa.slB.form
    rw [hpok.enc] at hh
    simp only [Value.slice.injEq] at e
    omega
  have hcb : 256 ≤ cx7 := by
    obtain ⟨_, _, e, -, hh, -⟩ := hOb.slB.form
    rw [hqok'.enc] at hh
    simp only [Value.slice.injEq] at e
    omega
  have HE : ∀ j, j < 4 → Pk.num ((p.enc.drop (j * 64)).take 8) = 7 := fun j hj => (Pg.enc_mark hpok j hj).trans hpm
  have HF := Lib.hid (fun j (hj : j < 4) => Pg.enc_mark hqok' j hj)
  have hel := hpok.enc
  have hfl := hqok'.enc
  generalize q'.enc = F at *
  generalize q'.mark = mq at *
  generalize p.enc = E0 at *
  clear hIa hIb a3 a7 n3 n7 hC k6 hP' hQ' hqok' hpok hpm htq' hnq' htp hnp hgl
  obtain ⟨M, hM⟩ : ∃ M, M = c15 % 14 + 1 := ⟨_, rfl⟩
  have hM1 : 1 ≤ M := by omega
  have hM2 : M ≤ 14 := by omega
  have HB := Lib.hid (both_bits M hM1 hM2)
  go_upto_region 10 with (fail)
  refine wp_region_seq ?_
  refine seqW_pure rfl ?_
  go_big_quiet_step (fail)
  refine seqW_on ?_
  refine seqW_gives (by kernel_rfl) ?_
  refine Gives.value (v := .int .i64 (c15 : Int)) (w' := w7) (by rw [← HC15.out]; go_simp) ?_
  simp only [Act.put, List.setIfInBounds_toArray, List.set_cons_zero, List.set_cons_succ]
  refine seqW_gives (by kernel_rfl) ?_
  refine Gives.value (v := .int .i64 ((c15 % 14 : Nat) : Int)) (w' := w7) (by go_simp; rw [Int.tmod_eq_emod_of_nonneg (by omega)]) ?_
  simp only [Act.put, List.setIfInBounds_toArray, List.set_cons_zero, List.set_cons_succ]
  refine seqW_gives (by kernel_rfl) ?_
  refine Gives.value (v := .int .i64 (M : Int)) (w' := w7) (by rw [hM]; go_simp; rw [IntKind.wrap_i64]; omega) ?_
  simp only [Act.put, List.setIfInBounds_toArray, List.set_cons_zero, List.set_cons_succ]
  refine seqW_pure rfl ?_
  go_big_quiet_step (fail)
  refine seqW_on ?_
  refine seqW_done ?_
  clear hM HC15
  go_wp2_with fail
  go_loopw [58] (fun z wr => ∃ (i : Nat) (E : List UInt8), i ≤ 4 ∧ z = .int .i64 i ∧ E.length = 256 ∧ Own wr w.heap.size 5 (.slice (some ⟨gx3, 0, none⟩) 256 cx3) (E.map B) ∧ Own wr w.heap.size 5 (.slice (some ⟨gx7, 0, none⟩) 256 cx7) (F.map B) ∧ RowKit.Hid (∀ j, j < 4 → Pk.num ((E.drop (j * 64)).take 8) = if j < i ∧ M / 2 ^ j % 2 = 1 then mq else 7) ∧ Keep w wr) (fun z _ => 4 - (intOf z).toNat)
  case atStart => exact ⟨0, E0, by decide, rfl, hel, hOa, hOb, Lib.hid (fun j hj => by rw [if_neg (by omega)]; exact HE j hj), k7⟩
  case round =>
    obtain ⟨i, E, hi, rfl, hEl, hA, hB, HX, kr⟩ := hrel
    clear hOa hOb k7 hel HE
    by_cases hi4 : i < 4
    rotate_left
    · have hid : ¬ ((i : Int) < 4) := by omega
      have hD : Pg.dec E 1 2 = (Pg.zero, 11) := by
        obtain ⟨⟨i1, hi1, hb1⟩, ⟨j1, hj1, hb2⟩⟩ := HB.out
        refine Pg.dec_torn E 1 2 i1 j1 hi1 hj1 ?_
        rw [HX.out i1 hi1, HX.out j1 hj1, if_pos ⟨by omega, hb1⟩, if_neg (fun h => hb2 h.2)]
        exact hqm'
      have HDD := Lib.hid hD
      clear hD
      have hbE := hA.slB
      go_upto_region 17 with (fail)
      refine wp_region_seq ?_
      refine seqW_pure rfl ?_
      go_big_quiet_step (fail)
      refine seqW_on ?_
      refine seqW_gives (by kernel_rfl) ?_
      refine Gives.call (by first | (go_simp; done) | (go_simp; rfl)) (pdecode_any _ (E) 1 2 wr hbE (by rw [hEl]; decide) (by decide) (by decide)) ?_
      rintro e wd ⟨rfl, kwd⟩
      refine ⟨_, rfl, ?_⟩
      have hfitD := Pg.dec_fit (E) 1 2
      obtain ⟨D, hD⟩ : ∃ x, Pg.dec (E) 1 2 = x := ⟨_, rfl⟩
      rw [hD] at hfitD
      rw [hD]
      have HD := Lib.hid hD
      clear hD
      have hvD : D.1.val = .agg D.1.cells.toArray := rfl
      rw [hvD]
      clear hvD
      simp only [Act.put, List.setIfInBounds_toArray, List.set_cons_zero, List.set_cons_succ]
      refine seqW_pure rfl ?_
      go_big_quiet_step (fail)
      refine seqW_on ?_
      refine seqW_pure rfl ?_
      go_big_quiet_step (fail)
      refine seqW_on ?_
      refine seqW_pure rfl ?_
      go_big_quiet_step (fail)
      refine seqW_on ?_
      refine seqW_gives (by kernel_rfl) ?_
      refine Gives.allocBig bigP rfl ?_
      have hzgz : PgAt (wd.alloc (.cells Pg.zero.cells.toArray 36)) wd.heap.size Pg.zero := ⟨heap_alloc_new wd _, Pg.zero_ok⟩
      have kagz := Keep.alloc wd (.cells Pg.zero.cells.toArray 36)
      obtain ⟨gz, hegz⟩ : ∃ x, x = wd.heap.size := ⟨_, rfl⟩
      rw [← hegz] at hzgz
      rw [← hegz]
      generalize wd.alloc (.cells Pg.zero.cells.toArray 36) = wagz at *
      have hlgz : wd.heap.size ≤ gz := Nat.le_of_eq hegz.symm
      clear hegz
      simp only [Act.put, List.setIfInBounds_toArray, List.set_cons_zero, List.set_cons_succ]
      refine seqW_gives (by kernel_rfl) ?_
      refine Gives.storeBig bigP _ _ rfl (g := gz) (off := 0) rfl (D).1.cells rfl hzgz.h hfitD.cells (by rw [List.size_toArray, hzgz.ok.cells]; exact Nat.le_refl _) (Pg.cells_one _) ?_
      have hpgz := hzgz.over hfitD
      have hbgz := row_but wagz gz (Pg.zero.cells.toArray.toList.take 0 ++ (D).1.cells ++ Pg.zero.cells.toArray.toList.drop (0 + 203)).toArray
      generalize wagz.setRow gz (Pg.zero.cells.toArray.toList.take 0 ++ (D).1.cells ++ Pg.zero.cells.toArray.toList.drop (0 + 203)).toArray = wz at *
      have kwz : Keep wd wz := kagz.trans (But.below hbgz hlgz kagz.size)
      clear hzgz kagz hbgz
      simp only [Act.put, List.setIfInBounds_toArray, List.set_cons_zero, List.set_cons_succ]
      refine seqW_pure rfl ?_
      go_big_quiet_step (fail)
      refine seqW_on ?_
      refine seqW_done ?_
      have hZ : D = (Pg.zero, 11) := HD.out.symm.trans HDD.out
      subst hZ
      have kz := (kr.trans' kwd).trans' kwz
      clear hpgz hfitD kwd kwz hbE hA hB HD HDD
      go_wp2
      go_ret
      exact ⟨rfl, kz⟩
    have hid : (i : Int) < 4 := by omega
    go_upto_region 14 with (fail)
    refine wp_region_seq ?_
    refine seqW_pure rfl ?_
    go_big_quiet_step (fail)
    refine seqW_on ?_
    refine seqW_pure rfl ?_
    go_big_quiet_step (fail)
    refine seqW_on ?_
    refine seqW_gives (by kernel_rfl) ?_
    refine Gives.value (v := .int .i64 ((M / 2 ^ i : Nat) : Int)) (w' := wr) (by rcases (show i = 0 ∨ i = 1 ∨ i = 2 ∨ i = 3 by omega) with rfl | rfl | rfl | rfl <;> go_simp) ?_
    simp only [Act.put, List.setIfInBounds_toArray, List.set_cons_zero, List.set_cons_succ]
    obtain ⟨bt, hbt⟩ : ∃ x, M / 2 ^ i % 2 = x := ⟨_, rfl⟩
    have hba := and_one (M / 2 ^ i) (by have := Nat.div_le_self M (2 ^ i); omega)
    rw [hbt] at hba
    refine seqW_gives (by kernel_rfl) ?_
    refine Gives.value (v := .int .i64 (bt : Int)) (w' := wr) (by rw [← hba]; go_simp) ?_
    simp only [Act.put, List.setIfInBounds_toArray, List.set_cons_zero, List.set_cons_succ]
    refine seqW_pure rfl ?_
    go_big_quiet_step (fail)
    refine seqW_on ?_
    refine seqW_done ?_
    clear hba
    by_cases hb1 : bt = 1
    rotate_left
    · have hbi : ¬ ((bt : Int) = 1) := by omega
      have HX8 : ∀ j, j < 4 → Pk.num ((E.drop (j * 64)).take 8) = if j < i + 1 ∧ M / 2 ^ j % 2 = 1 then mq else 7 := fun j hj => by
        rw [HX.out j hj]
        have e : (j < i ∧ M / 2 ^ j % 2 = 1) = (j < i + 1 ∧ M / 2 ^ j % 2 = 1) := by
          apply propext
          constructor
          · exact fun h => ⟨by omega, h.2⟩
          · refine fun h => ⟨?_, h.2⟩
            by_cases hji : j = i
            · subst hji
              exact absurd (hbt.symm.trans h.2) hb1
            · omega
        simp only [e]
      have HX9 := Lib.hid HX8
      clear HX8 HX
      go_wp2
      go_roundw
      case rel => exact ⟨i + 1, E, by omega, by go_num, hEl, hA, hB, HX9, kr⟩
      case measure => simp [intOf]; omega
    have hbi : (bt : Int) = 1 := by omega
    have i1 : (64 : Int) * (i : Int) ≤ 64 * (i : Int) + 64 := by omega
    have i2 : (64 : Int) * (i : Int) + 64 ≤ (cx3 : Int) := by omega
    have i2' : (64 : Int) * (i : Int) + 64 ≤ (cx7 : Int) := by omega
    have i3 : (0 : Int) ≤ 64 * (i : Int) := by omega
    have hcut := hB.slB.cut (i * 64) (i * 64 + 64) (by omega) (by omega)
    rw [show i * 64 + 64 - i * 64 = 64 by omega, sliced_own gx7 cx7 i hi4 hcb] at hcut
    have hs3 := sliced_own gx3 cx3 i hi4 hca
    have hs7 := sliced_own gx7 cx7 i hi4 hcb
    have HSP := Lib.hid (patch_splice (E := E) hfl i hi4)
    go_upto_region 15 with (fail)
    refine wp_region_dag_tail (C := fun w' => Keep wr w') (R := Keep) 14 [none, none, none, none, none, none, some (tV (.slice (some ⟨gx3, i * 64, none⟩) 64 (cx3 - i * 64))), none, none, none, none, none, none, some (tV (.slice (some ⟨gx7, i * 64, none⟩) 64 (cx7 - i * 64)))] (by kernel_rfl) (by kernel_rfl) (by kernel_rfl) (Keep.refl wr).drew ?_
    refine dagT_pure rfl ?_
    go_big_quiet_step (fail)
    refine dagT_on ?_
    refine dagT_pure rfl ?_
    go_big_quiet_step (fail)
    refine dagT_on ?_
    refine dagT_pure rfl ?_
    go_big_quiet_step (fail)
    refine dagT_on ?_
    refine dagT_pure rfl ?_
    go_big_quiet_step (fail)
    refine dagT_on ?_
    refine dagT_pure rfl ?_
    go_big_quiet_step (fail)
    refine dagT_on ?_
    refine dagT_pure rfl ?_
    go_big_quiet_step (fail)
    refine dagT_on ?_
    refine dagT_told (by kernel_rfl) ?_ ?_
    · intro w2 hC hF
      exact Gives.value (v := .slice (some ⟨gx3, i * 64, none⟩) 64 (cx3 - i * 64)) (w' := w2) (by refine (exec_cut elemB _ _ _ rfl rfl (64 * (i : Int)) (64 * (i : Int) + 64) rfl rfl i3 i1 i2 w2).trans ?_; rw [show (64 * (i : Int)).toNat = i * 64 by omega, show (64 * (i : Int) + 64).toNat = i * 64 + 64 by omega, hs3]) ⟨hC, Keep.refl _, rfl⟩
    intro vv w2 hC hF hvv
    clear hC hF
    obtain rfl := hvv
    simp only [Act.put, List.setIfInBounds_toArray, List.set_cons_zero, List.set_cons_succ]
    refine dagT_pure rfl ?_
    go_big_quiet_step (fail)
    refine dagT_on ?_
    refine dagT_pure rfl ?_
    go_big_quiet_step (fail)
    refine dagT_on ?_
    refine dagT_pure rfl ?_
    go_big_quiet_step (fail)
    refine dagT_on ?_
    refine dagT_pure rfl ?_
    go_big_quiet_step (fail)
    refine dagT_on ?_
    refine dagT_pure rfl ?_
    go_big_quiet_step (fail)
    refine dagT_on ?_
    refine dagT_pure rfl ?_
    go_big_quiet_step (fail)
    refine dagT_on ?_
    refine dagT_told (by kernel_rfl) ?_ ?_
    · intro w2 hC hF
      exact Gives.value (v := .slice (some ⟨gx7, i * 64, none⟩) 64 (cx7 - i * 64)) (w' := w2) (by refine (exec_cut elemB _ _ _ rfl rfl (64 * (i : Int)) (64 * (i : Int) + 64) rfl rfl i3 i1 i2' w2).trans ?_; rw [show (64 * (i : Int)).toNat = i * 64 by omega, show (64 * (i : Int) + 64).toNat = i * 64 + 64 by omega, hs7]) ⟨hC, Keep.refl _, rfl⟩
    intro vv w2 hC hF hvv
    clear hC hF
    obtain rfl := hvv
    simp only [Act.put, List.setIfInBounds_toArray, List.set_cons_zero, List.set_cons_succ]
    refine dagT_done fun w2 hC hF => ?_
    have kE := hC
    clear hF hC
    refine seqW_gives (by kernel_rfl) ?_
    have hA2 := hA.keep kE
    have hB2 := hB.keep kE
    have kr2 := kr.trans' kE
    refine Gives.copyB elemB _ _ rfl (base := w.heap.size) (g := gx3) (n := 256) (cap := cx3) (off := i * 64) (dLen := 64) (dCap := cx3 - i * 64) (xs := E.map B) (ys := ((F.drop (i * 64)).take 64).map B) (u := .slice (some ⟨gx7, i * 64, none⟩) 64 (cx7 - i * 64)) (fun _ => rfl) ⟨_, rfl⟩ rfl (hcut.keep kE) (fun y hy => by obtain ⟨b, -, rfl⟩ := List.mem_map.1 hy; rfl) hA2 (by omega) ?_
    intro w8 hO8 hb8 hz8
    rw [HSP.out] at hO8
    have k8 : Keep w w8 := kr2.trans (But.below hb8 hga kr2.size)
    have hB8 := (hB2.lasts (S := fun b => b ≠ gx3) (S' := fun b => b ≠ gx3) (fun a n c e => by simp only [Value.slice.injEq, Option.some.injEq] at e; rw [← e.1]; exact hne) (fun b hb hn => ⟨hn, hb8.block b hb (fun e => hn (by simp only [Option.some.injEq] at e; omega))⟩)).1
    have hpl := patch_len hEl hfl i hi4
    have HX8 : ∀ j, j < 4 → Pk.num (((patch E F i).drop (j * 64)).take 8) = if j < i + 1 ∧ M / 2 ^ j % 2 = 1 then mq else 7 := fun j hj => by
      rw [patch_at hEl hfl i j hi4 hj]
      by_cases hji : j = i
      · subst hji
        rw [if_pos rfl, if_pos ⟨by omega, by omega⟩, HF.out j hj]
      · rw [if_neg hji, HX.out j hj]
        have e : (j < i ∧ M / 2 ^ j % 2 = 1) = (j < i + 1 ∧ M / 2 ^ j % 2 = 1) := by
          apply propext
          constructor
          · exact fun h => ⟨by omega, h.2⟩
          · exact fun h => ⟨by omega, h.2⟩
        simp only [e]
    have HX9 := Lib.hid HX8
    clear HX8 HX hA2 hB2 hA hB hb8 hz8 kE kr2 hcut hs3 hs7 HSP
    generalize patch E F i = E2 at *
    simp only [Act.put, List.setIfInBounds_toArray, List.set_cons_zero, List.set_cons_succ]
    refine seqW_done ?_
    go_wp2
    go_roundw
    case rel => exact ⟨i + 1, E2, by omega, by go_num, hpl, hO8, hB8, HX9, k8⟩
    case measure => simp [intOf]; omega
end Go.Proofs.Ytdnmddfnlkaahaa
