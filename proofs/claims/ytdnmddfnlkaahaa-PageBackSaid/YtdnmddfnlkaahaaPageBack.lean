/- The walk of PageBack. -/
import Derived.Test.YtdnmddfnlkaahaaPageL
import Derived.Test.YtdnmddfnlkaahaaFillP
namespace Go.Proofs.Ytdnmddfnlkaahaa
open Go Go.RowKit
attribute [local irreducible] Go.wpQuiet

theorem Pg.str_at {p : Pg} {w : World} {gm : Nat} (h : w.heap[gm]? = some (.cells p.strs.toArray 9)) (i : Nat) (hi : i < 5) : w.cell? ⟨gm, i, none⟩ = some (strV (p.slot (i : Int))) :=
  cell_of h i _ (by simp [Pg.strs, hi])
set_option maxRecDepth 100000 in
set_option maxHeartbeats 8000000 in
theorem pageBack_any (v : Value) (l : List Rw) (mark : Nat) (wa wb : Int) (w : World) (hS : SlR w v l) (hmk : mark < 18446744073709551616) : Calls Try.prog 8 #[v, .int .u64 mark, .agg #[.int .i64 wa, .int .i64 wb]] w fun e w' => e = .returned (.bool true) ∧ Keep w w' := by
  obtain ⟨va, vc, rfl, -, -⟩ := hS.form
  obtain ⟨mk, hmk0, hmk1, hmke⟩ := or_one mark hmk
  have HME := Lib.hid hmke
  clear hmke
  go_enter Try.func8, Try.ntmps8
  go_upto_region 1 with (fail)
  have kb := Keep.alloc w (.cells #[.int .i64 wa, .int .i64 wb] 50)
  have hwho := heap_alloc_new w (.cells #[.int .i64 wa, .int .i64 wb] 50)
  have hgw : w.heap.size < (w.alloc (.cells #[.int .i64 wa, .int .i64 wb] 50)).heap.size := by simp
  generalize w.alloc (.cells #[.int .i64 wa, .int .i64 wb] 50) = w0 at *
  obtain ⟨gw, hge⟩ : ∃ x, x = w.heap.size := ⟨_, rfl⟩
  rw [← hge] at hwho hgw ⊢
  clear hge
  go_wp2_with fail
  refine (fit_any _).mono ?_
  rintro e w1 ⟨rfl, k1⟩
  have hwho := (k1.block gw hgw).trans hwho
  have hgw := Nat.lt_of_lt_of_le hgw k1.size
  have k1 := kb.trans' k1
  clear kb
  go_wp2_with fail
  refine (light_any _ l w1 (hS.keep k1)).mono ?_
  rintro e w2 ⟨bb, rfl, -, kw2⟩
  have kw2' := kw2
  have kw2 := k1.trans' kw2
  have hwho := (kw2'.block gw hgw).trans hwho
  clear kw2'
  cases bb
  · go_wp2
    go_ret
    exact ⟨rfl, kw2⟩
  go_upto_region 6 with (fail)
  rw [HME.out]
  have x0 : w2.cell? ⟨gw, 0, none⟩ = _ := cell_of_row w2 gw 0 _ _ _ hwho
  have x1 : w2.cell? ⟨gw, 1, none⟩ = _ := cell_of_row w2 gw 1 _ _ _ hwho
  simp only [List.getElem?_toArray, List.getElem?_cons_zero, List.getElem?_cons_succ] at x0 x1
  go_wp2_with fail
  refine (fill_any _ l mk (wa) (wb) w2 (hS.keep kw2) (by first | assumption | decide)).mono ?_
  rintro e w3 ⟨p, g, gm, rfl, H⟩
  clear x0 x1 hwho hgw
  have hP := H.at_
  have k3 := kw2.trans' H.k
  have hpok := hP.ok
  have hst := H.strs
  have hro := H.rows
  have hmkp : p.mark ≠ 0 := by rw [H.m]; exact hmk0
  have HMK := Lib.hid H.m
  obtain ⟨ct, hct, hcte⟩ := and_low wa 65535 16 rfl (by decide)
  obtain ⟨cn_, hcn, hcne⟩ := and_low wb 65535 16 rfl (by decide)
  have htp0 : p.tenant = (ct : Int) := H.t.trans hcte
  have hnp0 : p.number = (cn_ : Int) := H.n.trans hcne
  clear H hcte hcne
  have htr : 0 ≤ p.tenant ∧ p.tenant < 65536 := by omega
  have hnr : 0 ≤ p.number ∧ p.number < 65536 := by omega
  obtain ⟨xt, hxt1, hxt2, hxt3⟩ := xor_one ct (by omega)
  obtain ⟨xn, hxn1, hxn2, hxn3⟩ := xor_one cn_ (by omega)
  have D1 := Lib.hid (Pg.dec_enc hpok hmkp hro htr hnr)
  have D2 := Lib.hid (Pg.dec_other hpok hmkp htr hnr xt p.number (.inl (by rw [htp0]; omega)))
  have D3 := Lib.hid (Pg.dec_other hpok hmkp htr hnr p.tenant xn (.inr (by rw [hnp0]; omega)))
  rw [htp0, hnp0] at D1
  rw [hnp0] at D2
  rw [htp0] at D3
  have HX1 := Lib.hid hxt3
  have HX2 := Lib.hid hxn3
  clear hxt1 hxt3 hxn1 hxn3
  go_upto_region 7 with (fail)
  refine wp_region_seq ?_
  refine seqW_pure rfl ?_
  go_big_quiet_step (fail)
  refine seqW_on ?_
  refine seqW_gives (by kernel_rfl) ?_
  refine Gives.value (v := .pointer (some ⟨g, 0, none⟩)) (w' := w3) (by go_simp) ?_
  simp only [Act.put, List.setIfInBounds_toArray, List.set_cons_zero, List.set_cons_succ]
  refine seqW_gives (by kernel_rfl) ?_
  refine Gives.loadBig bigP _ rfl (g := g) (off := 0) rfl p.cells hP.ok.cells (fun j v hj => cell_of hP.h _ v (by rw [Nat.zero_add]; exact hj)) ?_
  simp only [Act.put, List.setIfInBounds_toArray, List.set_cons_zero, List.set_cons_succ]
  refine seqW_gives (by kernel_rfl) ?_
  refine Gives.call (by first | (go_simp; done) | (go_simp; rfl)) (pencode_any p hP.ok htr hnr w3) ?_
  rintro e w4 ⟨v4, rfl, hOw4, kw4⟩
  refine ⟨_, rfl, ?_⟩
  simp only [Act.put, List.setIfInBounds_toArray, List.set_cons_zero, List.set_cons_succ]
  refine seqW_pure rfl ?_
  go_big_quiet_step (fail)
  refine seqW_on ?_
  refine seqW_done ?_
  have k4 := k3.trans' kw4
  have hb4 := hOw4.slB
  have hel := hpok.enc
  obtain ⟨a4, c4, rfl, -, hc4, -⟩ := hb4.form
  rw [hel] at hb4 hc4 ⊢
  have hP4 := hP.keep kw4
  have hs4 := (kw4.block gm (Array.getElem?_eq_some_iff.1 hst).1).trans hst
  have D4 := Lib.hid (Pg.dec_size (p.enc.take 255) ct cn_ (by rw [List.length_take, hel]; decide))
  clear hOw4 hP kw4 k3 hst hmkp
  have hP := hP4
  have hs := hs4
  have hb := hb4
  have kk := k4
  have z1 : w4.cell? ⟨g, 1, none⟩ = some (.int .i64 (ct : Int)) := by rw [← htp0]; exact hP4.heads.2.1
  have z2 : w4.cell? ⟨g, 2, none⟩ = some (.int .i64 (cn_ : Int)) := by rw [← hnp0]; exact hP4.heads.2.2
  clear hP4 hs4 hb4 k4
  go_upto_region 8 with (fail)
  refine K.wp_region_ord' [none, none, some (fun _ => (oV (.pointer (some ⟨g, 0, none⟩)))), none, some (fun _ => (oV (.int .i64 (ct : Int)))), none, some (fun _ => (oV (.pointer (some ⟨g, 0, none⟩)))), none, some (fun _ => (oV (.int .i64 (cn_ : Int)))), some (fun _ => (oV (.tuple #[.agg p.cells.toArray, .int .i64 0]))), none, none, none, some (fun _ => (oAt w4.heap.size (.cells Pg.zero.cells.toArray 36))), some (oFill w4.heap.size 36), none]
    #[0, 0, 0, 0, 0, 0, 0, 0, 0, 0, 0, 0, 0, 0, 8192, 0] (w4.heap.size) (fun w' => Keep w4 w') (by kernel_rfl) (by kernel_rfl) (by kernel_rfl) ((Keep.refl w4).drew) ?_
  refine K.ordT_pure rfl ?_
  go_big_quiet_step (fail)
  refine K.ordT_on ?_
  refine K.ordT_pure rfl ?_
  go_big_quiet_step (fail)
  refine K.ordT_on ?_
  refine K.ordT_same (by kernel_rfl) (fun w2 hC => ?_) ?_
  · go_simp
  simp only [Act.put, List.setIfInBounds_toArray, List.set_cons_zero, List.set_cons_succ]
  refine K.ordT_pure rfl ?_
  go_big_quiet_step (fail)
  refine K.ordT_on ?_
  refine K.ordT_same (by kernel_rfl) (fun w2 hC => ?_) ?_
  · have zz := hC.cellk z1
    go_simp
  simp only [Act.put, List.setIfInBounds_toArray, List.set_cons_zero, List.set_cons_succ]
  refine K.ordT_pure rfl ?_
  go_big_quiet_step (fail)
  refine K.ordT_on ?_
  refine K.ordT_same (by kernel_rfl) (fun w2 hC => ?_) ?_
  · go_simp
  simp only [Act.put, List.setIfInBounds_toArray, List.set_cons_zero, List.set_cons_succ]
  refine K.ordT_pure rfl ?_
  go_big_quiet_step (fail)
  refine K.ordT_on ?_
  refine K.ordT_same (by kernel_rfl) (fun w2 hC => ?_) ?_
  · have zz := hC.cellk z2
    go_simp
  simp only [Act.put, List.setIfInBounds_toArray, List.set_cons_zero, List.set_cons_succ]
  refine K.ordT_callV (by kernel_rfl) keepK (fun w2 own hC hF => ?_) ?_
  · refine ⟨_, _, by first | (go_simp; done) | (go_simp; rfl), (pdecode_any _ p.enc ct cn_ w2 (hb.keep hC) (by first | (rw [hel]; decide) | (rw [List.length_take, hel]; decide)) (by omega) (by omega)).mono ?_⟩
    rintro e w' ⟨rfl, hk⟩
    rw [D1.out]
    exact ⟨rfl, hk⟩
  simp only [Act.put, List.setIfInBounds_toArray, List.set_cons_zero, List.set_cons_succ]
  refine K.ordT_pure rfl ?_
  go_big_quiet_step (fail)
  refine K.ordT_on ?_
  refine K.ordT_pure rfl ?_
  go_big_quiet_step (fail)
  refine K.ordT_on ?_
  refine K.ordT_pure rfl ?_
  go_big_quiet_step (fail)
  refine K.ordT_on ?_
  refine K.ordT_laid (fun w2 => .pointer (some ⟨w2.heap.size, 0, none⟩)) (.cells Pg.zero.cells.toArray 36) (by kernel_rfl) keepK (fun w2 hC => exec_allocBig bigP w2 rfl) (fun w2 own hC hF S hS => ?_) ?_
  · exact ⟨_, rfl, hC.size, hS _ (.inr (Nat.le_refl _)), heap_alloc_new _ _⟩
  rintro xp wxp ownxp - hxp
  obtain ⟨gz, rfl, nxp, -, -⟩ := hxp
  simp only [Act.put, List.setIfInBounds_toArray, List.set_cons_zero, List.set_cons_succ]
  refine K.ordT_fill [.pointer (some ⟨gz, 0, none⟩), .agg p.cells.toArray] rfl (by kernel_rfl) (told_fillBig bigP _ _ rfl gz 36 p.cells (cur := Pg.zero.cells.toArray) rfl rfl hpok.cells (by rw [List.size_toArray]; exact Pg.zero_ok.cells) (Pg.cells_one _) keepG fun w2 own hC hF => ?_) fun _ => ?_
  · obtain ⟨g', e', h1, h2, h3⟩ := ((hF 13 rfl).1 rfl)
    simp only [Value.pointer.injEq, Option.some.injEq, Addr.mk.injEq, and_true] at e'
    subst e'
    exact at_con h1 h2 h3 rfl
  simp only [Act.put, List.setIfInBounds_toArray, List.set_cons_zero, List.set_cons_succ]
  refine K.ordT_pure rfl ?_
  go_big_quiet_step (fail)
  refine K.ordT_on ?_
  refine K.ordT_done fun w5 own hC hF => ?_
  have kN := hC
  have hq1 : PgAt w5 gz p := ⟨(((hF 14).1 rfl) gz _ rfl).2.2, hpok⟩
  clear hF hC
  have hP := hP.keep kN
  have hs := (kN.block gm (Array.getElem?_eq_some_iff.1 hs).1).trans hs
  have hb := hb.keep kN
  have kk := kk.trans' kN
  have z1 := kN.cellk z1
  have z2 := kN.cellk z2
  clear kN
  generalize hgq : gz = gq at hq1 ⊢
  clear hgq
  go_upto_region 9 with (fail)
  refine K.wp_region_ord' [none, none, some (fun _ => (oV (.pointer (some ⟨g, 0, none⟩)))), none, some (fun _ => (oV (.int .i64 (ct : Int)))), some (fun _ => (oV (.int .i64 (xt : Int)))), none, some (fun _ => (oV (.pointer (some ⟨g, 0, none⟩)))), none, some (fun _ => (oV (.int .i64 (cn_ : Int)))), some (fun _ => (oV (.tuple #[.agg Pg.zero.cells.toArray, .int .i64 11]))), none, none, none, some (fun _ => (oAt w5.heap.size (.cells Pg.zero.cells.toArray 36))), some (oFill w5.heap.size 36), none]
    #[0, 0, 0, 0, 0, 0, 0, 0, 0, 0, 0, 0, 0, 0, 0, 16384, 0] (w5.heap.size) (fun w' => Keep w5 w') (by kernel_rfl) (by kernel_rfl) (by kernel_rfl) ((Keep.refl w5).drew) ?_
  refine K.ordT_pure rfl ?_
  go_big_quiet_step (fail)
  refine K.ordT_on ?_
  refine K.ordT_pure rfl ?_
  go_big_quiet_step (fail)
  refine K.ordT_on ?_
  refine K.ordT_same (by kernel_rfl) (fun w2 hC => ?_) ?_
  · go_simp
  simp only [Act.put, List.setIfInBounds_toArray, List.set_cons_zero, List.set_cons_succ]
  refine K.ordT_pure rfl ?_
  go_big_quiet_step (fail)
  refine K.ordT_on ?_
  refine K.ordT_same (by kernel_rfl) (fun w2 hC => ?_) ?_
  · have zz := hC.cellk z1
    go_simp
  simp only [Act.put, List.setIfInBounds_toArray, List.set_cons_zero, List.set_cons_succ]
  refine K.ordT_same (by kernel_rfl) (fun w2 hC => ?_) ?_
  · rw [← HX1.out]
    go_simp
  simp only [Act.put, List.setIfInBounds_toArray, List.set_cons_zero, List.set_cons_succ]
  refine K.ordT_pure rfl ?_
  go_big_quiet_step (fail)
  refine K.ordT_on ?_
  refine K.ordT_same (by kernel_rfl) (fun w2 hC => ?_) ?_
  · go_simp
  simp only [Act.put, List.setIfInBounds_toArray, List.set_cons_zero, List.set_cons_succ]
  refine K.ordT_pure rfl ?_
  go_big_quiet_step (fail)
  refine K.ordT_on ?_
  refine K.ordT_same (by kernel_rfl) (fun w2 hC => ?_) ?_
  · have zz := hC.cellk z2
    go_simp
  simp only [Act.put, List.setIfInBounds_toArray, List.set_cons_zero, List.set_cons_succ]
  refine K.ordT_callV (by kernel_rfl) keepK (fun w2 own hC hF => ?_) ?_
  · refine ⟨_, _, by first | (go_simp; done) | (go_simp; rfl), (pdecode_any _ p.enc xt cn_ w2 (hb.keep hC) (by first | (rw [hel]; decide) | (rw [List.length_take, hel]; decide)) (by omega) (by omega)).mono ?_⟩
    rintro e w' ⟨rfl, hk⟩
    rw [D2.out]
    exact ⟨rfl, hk⟩
  simp only [Act.put, List.setIfInBounds_toArray, List.set_cons_zero, List.set_cons_succ]
  refine K.ordT_pure rfl ?_
  go_big_quiet_step (fail)
  refine K.ordT_on ?_
  refine K.ordT_pure rfl ?_
  go_big_quiet_step (fail)
  refine K.ordT_on ?_
  refine K.ordT_pure rfl ?_
  go_big_quiet_step (fail)
  refine K.ordT_on ?_
  refine K.ordT_laid (fun w2 => .pointer (some ⟨w2.heap.size, 0, none⟩)) (.cells Pg.zero.cells.toArray 36) (by kernel_rfl) keepK (fun w2 hC => exec_allocBig bigP w2 rfl) (fun w2 own hC hF S hS => ?_) ?_
  · exact ⟨_, rfl, hC.size, hS _ (.inr (Nat.le_refl _)), heap_alloc_new _ _⟩
  rintro xp wxp ownxp - hxp
  obtain ⟨gz, rfl, nxp, -, -⟩ := hxp
  simp only [Act.put, List.setIfInBounds_toArray, List.set_cons_zero, List.set_cons_succ]
  refine K.ordT_fill [.pointer (some ⟨gz, 0, none⟩), .agg Pg.zero.cells.toArray] rfl (by kernel_rfl) (told_fillBig bigP _ _ rfl gz 36 Pg.zero.cells (cur := Pg.zero.cells.toArray) rfl rfl Pg.zero_ok.cells (by rw [List.size_toArray]; exact Pg.zero_ok.cells) (Pg.cells_one _) keepG fun w2 own hC hF => ?_) fun _ => ?_
  · obtain ⟨g', e', h1, h2, h3⟩ := ((hF 14 rfl).1 rfl)
    simp only [Value.pointer.injEq, Option.some.injEq, Addr.mk.injEq, and_true] at e'
    subst e'
    exact at_con h1 h2 h3 rfl
  simp only [Act.put, List.setIfInBounds_toArray, List.set_cons_zero, List.set_cons_succ]
  refine K.ordT_pure rfl ?_
  go_big_quiet_step (fail)
  refine K.ordT_on ?_
  refine K.ordT_done fun w6 own hC hF => ?_
  have kN := hC
  have hq2 : PgAt w6 gz Pg.zero := ⟨(((hF 15).1 rfl) gz _ rfl).2.2, Pg.zero_ok⟩
  clear hF hC
  have hP := hP.keep kN
  have hs := (kN.block gm (Array.getElem?_eq_some_iff.1 hs).1).trans hs
  have hb := hb.keep kN
  have kk := kk.trans' kN
  have z1 := kN.cellk z1
  have z2 := kN.cellk z2
  have hq1 := hq1.keep kN
  clear kN hq2
  go_upto_region 10 with (fail)
  refine K.wp_region_ord' [none, none, some (fun _ => (oV (.pointer (some ⟨g, 0, none⟩)))), none, some (fun _ => (oV (.int .i64 (ct : Int)))), none, some (fun _ => (oV (.pointer (some ⟨g, 0, none⟩)))), none, some (fun _ => (oV (.int .i64 (cn_ : Int)))), some (fun _ => (oV (.int .i64 (xn : Int)))), some (fun _ => (oV (.tuple #[.agg Pg.zero.cells.toArray, .int .i64 11]))), none, none, none, some (fun _ => (oAt w6.heap.size (.cells Pg.zero.cells.toArray 36))), some (oFill w6.heap.size 36), none]
    #[0, 0, 0, 0, 0, 0, 0, 0, 0, 0, 0, 0, 0, 0, 0, 16384, 0] (w6.heap.size) (fun w' => Keep w6 w') (by kernel_rfl) (by kernel_rfl) (by kernel_rfl) ((Keep.refl w6).drew) ?_
  refine K.ordT_pure rfl ?_
  go_big_quiet_step (fail)
  refine K.ordT_on ?_
  refine K.ordT_pure rfl ?_
  go_big_quiet_step (fail)
  refine K.ordT_on ?_
  refine K.ordT_same (by kernel_rfl) (fun w2 hC => ?_) ?_
  · go_simp
  simp only [Act.put, List.setIfInBounds_toArray, List.set_cons_zero, List.set_cons_succ]
  refine K.ordT_pure rfl ?_
  go_big_quiet_step (fail)
  refine K.ordT_on ?_
  refine K.ordT_same (by kernel_rfl) (fun w2 hC => ?_) ?_
  · have zz := hC.cellk z1
    go_simp
  simp only [Act.put, List.setIfInBounds_toArray, List.set_cons_zero, List.set_cons_succ]
  refine K.ordT_pure rfl ?_
  go_big_quiet_step (fail)
  refine K.ordT_on ?_
  refine K.ordT_same (by kernel_rfl) (fun w2 hC => ?_) ?_
  · go_simp
  simp only [Act.put, List.setIfInBounds_toArray, List.set_cons_zero, List.set_cons_succ]
  refine K.ordT_pure rfl ?_
  go_big_quiet_step (fail)
  refine K.ordT_on ?_
  refine K.ordT_same (by kernel_rfl) (fun w2 hC => ?_) ?_
  · have zz := hC.cellk z2
    go_simp
  simp only [Act.put, List.setIfInBounds_toArray, List.set_cons_zero, List.set_cons_succ]
  refine K.ordT_same (by kernel_rfl) (fun w2 hC => ?_) ?_
  · rw [← HX2.out]
    go_simp
  simp only [Act.put, List.setIfInBounds_toArray, List.set_cons_zero, List.set_cons_succ]
  refine K.ordT_callV (by kernel_rfl) keepK (fun w2 own hC hF => ?_) ?_
  · refine ⟨_, _, by first | (go_simp; done) | (go_simp; rfl), (pdecode_any _ p.enc ct xn w2 (hb.keep hC) (by first | (rw [hel]; decide) | (rw [List.length_take, hel]; decide)) (by omega) (by omega)).mono ?_⟩
    rintro e w' ⟨rfl, hk⟩
    rw [D3.out]
    exact ⟨rfl, hk⟩
  simp only [Act.put, List.setIfInBounds_toArray, List.set_cons_zero, List.set_cons_succ]
  refine K.ordT_pure rfl ?_
  go_big_quiet_step (fail)
  refine K.ordT_on ?_
  refine K.ordT_pure rfl ?_
  go_big_quiet_step (fail)
  refine K.ordT_on ?_
  refine K.ordT_pure rfl ?_
  go_big_quiet_step (fail)
  refine K.ordT_on ?_
  refine K.ordT_laid (fun w2 => .pointer (some ⟨w2.heap.size, 0, none⟩)) (.cells Pg.zero.cells.toArray 36) (by kernel_rfl) keepK (fun w2 hC => exec_allocBig bigP w2 rfl) (fun w2 own hC hF S hS => ?_) ?_
  · exact ⟨_, rfl, hC.size, hS _ (.inr (Nat.le_refl _)), heap_alloc_new _ _⟩
  rintro xp wxp ownxp - hxp
  obtain ⟨gz, rfl, nxp, -, -⟩ := hxp
  simp only [Act.put, List.setIfInBounds_toArray, List.set_cons_zero, List.set_cons_succ]
  refine K.ordT_fill [.pointer (some ⟨gz, 0, none⟩), .agg Pg.zero.cells.toArray] rfl (by kernel_rfl) (told_fillBig bigP _ _ rfl gz 36 Pg.zero.cells (cur := Pg.zero.cells.toArray) rfl rfl Pg.zero_ok.cells (by rw [List.size_toArray]; exact Pg.zero_ok.cells) (Pg.cells_one _) keepG fun w2 own hC hF => ?_) fun _ => ?_
  · obtain ⟨g', e', h1, h2, h3⟩ := ((hF 14 rfl).1 rfl)
    simp only [Value.pointer.injEq, Option.some.injEq, Addr.mk.injEq, and_true] at e'
    subst e'
    exact at_con h1 h2 h3 rfl
  simp only [Act.put, List.setIfInBounds_toArray, List.set_cons_zero, List.set_cons_succ]
  refine K.ordT_pure rfl ?_
  go_big_quiet_step (fail)
  refine K.ordT_on ?_
  refine K.ordT_done fun w7 own hC hF => ?_
  have kN := hC
  have hq3 : PgAt w7 gz Pg.zero := ⟨(((hF 15).1 rfl) gz _ rfl).2.2, Pg.zero_ok⟩
  clear hF hC
  have hP := hP.keep kN
  have hs := (kN.block gm (Array.getElem?_eq_some_iff.1 hs).1).trans hs
  have hb := hb.keep kN
  have kk := kk.trans' kN
  have z1 := kN.cellk z1
  have z2 := kN.cellk z2
  have hq1 := hq1.keep kN
  clear kN hq3
  have hb255 : SlB w7 (.slice a4 255 c4) (p.enc.take 255) := SlB.first hb 255 (by decide)
  go_upto_region 11 with (fail)
  refine K.wp_region_ord' [none, none, none, some (fun _ => (oV (.pointer (some ⟨g, 0, none⟩)))), none, some (fun _ => (oV (.int .i64 (ct : Int)))), none, some (fun _ => (oV (.pointer (some ⟨g, 0, none⟩)))), none, some (fun _ => (oV (.int .i64 (cn_ : Int)))), some (fun _ => (oV (.tuple #[.agg Pg.zero.cells.toArray, .int .i64 11]))), none, none, none, some (fun _ => (oAt w7.heap.size (.cells Pg.zero.cells.toArray 36))), some (oFill w7.heap.size 36), none]
    #[0, 0, 0, 0, 0, 0, 0, 0, 0, 0, 0, 0, 0, 0, 0, 16384, 0] (w7.heap.size) (fun w' => Keep w7 w') (by kernel_rfl) (by kernel_rfl) (by kernel_rfl) ((Keep.refl w7).drew) ?_
  refine K.ordT_pure rfl ?_
  go_big_quiet_step (fail)
  refine K.ordT_on ?_
  refine K.ordT_pure rfl ?_
  go_big_quiet_step (fail)
  refine K.ordT_on ?_
  refine K.ordT_pure rfl ?_
  go_big_quiet_step (fail)
  refine K.ordT_on ?_
  refine K.ordT_same (by kernel_rfl) (fun w2 hC => ?_) ?_
  · go_simp
  simp only [Act.put, List.setIfInBounds_toArray, List.set_cons_zero, List.set_cons_succ]
  refine K.ordT_pure rfl ?_
  go_big_quiet_step (fail)
  refine K.ordT_on ?_
  refine K.ordT_same (by kernel_rfl) (fun w2 hC => ?_) ?_
  · have zz := hC.cellk z1
    go_simp
  simp only [Act.put, List.setIfInBounds_toArray, List.set_cons_zero, List.set_cons_succ]
  refine K.ordT_pure rfl ?_
  go_big_quiet_step (fail)
  refine K.ordT_on ?_
  refine K.ordT_same (by kernel_rfl) (fun w2 hC => ?_) ?_
  · go_simp
  simp only [Act.put, List.setIfInBounds_toArray, List.set_cons_zero, List.set_cons_succ]
  refine K.ordT_pure rfl ?_
  go_big_quiet_step (fail)
  refine K.ordT_on ?_
  refine K.ordT_same (by kernel_rfl) (fun w2 hC => ?_) ?_
  · have zz := hC.cellk z2
    go_simp
  simp only [Act.put, List.setIfInBounds_toArray, List.set_cons_zero, List.set_cons_succ]
  refine K.ordT_callV (by kernel_rfl) keepK (fun w2 own hC hF => ?_) ?_
  · refine ⟨_, _, by first | (go_simp; done) | (go_simp; rfl), (pdecode_any _ (p.enc.take 255) ct cn_ w2 (hb255.keep hC) (by first | (rw [hel]; decide) | (rw [List.length_take, hel]; decide)) (by omega) (by omega)).mono ?_⟩
    rintro e w' ⟨rfl, hk⟩
    rw [D4.out]
    exact ⟨rfl, hk⟩
  simp only [Act.put, List.setIfInBounds_toArray, List.set_cons_zero, List.set_cons_succ]
  refine K.ordT_pure rfl ?_
  go_big_quiet_step (fail)
  refine K.ordT_on ?_
  refine K.ordT_pure rfl ?_
  go_big_quiet_step (fail)
  refine K.ordT_on ?_
  refine K.ordT_pure rfl ?_
  go_big_quiet_step (fail)
  refine K.ordT_on ?_
  refine K.ordT_laid (fun w2 => .pointer (some ⟨w2.heap.size, 0, none⟩)) (.cells Pg.zero.cells.toArray 36) (by kernel_rfl) keepK (fun w2 hC => exec_allocBig bigP w2 rfl) (fun w2 own hC hF S hS => ?_) ?_
  · exact ⟨_, rfl, hC.size, hS _ (.inr (Nat.le_refl _)), heap_alloc_new _ _⟩
  rintro xp wxp ownxp - hxp
  obtain ⟨gz, rfl, nxp, -, -⟩ := hxp
  simp only [Act.put, List.setIfInBounds_toArray, List.set_cons_zero, List.set_cons_succ]
  refine K.ordT_fill [.pointer (some ⟨gz, 0, none⟩), .agg Pg.zero.cells.toArray] rfl (by kernel_rfl) (told_fillBig bigP _ _ rfl gz 36 Pg.zero.cells (cur := Pg.zero.cells.toArray) rfl rfl Pg.zero_ok.cells (by rw [List.size_toArray]; exact Pg.zero_ok.cells) (Pg.cells_one _) keepG fun w2 own hC hF => ?_) fun _ => ?_
  · obtain ⟨g', e', h1, h2, h3⟩ := ((hF 14 rfl).1 rfl)
    simp only [Value.pointer.injEq, Option.some.injEq, Addr.mk.injEq, and_true] at e'
    subst e'
    exact at_con h1 h2 h3 rfl
  simp only [Act.put, List.setIfInBounds_toArray, List.set_cons_zero, List.set_cons_succ]
  refine K.ordT_pure rfl ?_
  go_big_quiet_step (fail)
  refine K.ordT_on ?_
  refine K.ordT_done fun w8 own hC hF => ?_
  have kN := hC
  have hq4 : PgAt w8 gz Pg.zero := ⟨(((hF 15).1 rfl) gz _ rfl).2.2, Pg.zero_ok⟩
  clear hF hC
  have hP := hP.keep kN
  have hs := (kN.block gm (Array.getElem?_eq_some_iff.1 hs).1).trans hs
  have hb := hb.keep kN
  have kk := kk.trans' kN
  have z1 := kN.cellk z1
  have z2 := kN.cellk z2
  have hq1 := hq1.keep kN
  clear kN hq4
  have z0 : w8.cell? ⟨gq, 0, none⟩ = some (.int .u64 mk) := by rw [← HMK.out]; exact hq1.heads.1
  clear z1 z2 hb hb255 D1 D2 D3 D4 HX1 HX2
  go_upto_region 12 with (fail)
  refine wp_region_ord' [none, none, none, none, none, none, none, none, none, none, none, none, none, none, none, none, none, none, none, none, some (oV (.agg p.cells.toArray)), none, some (oV (.pointer (some ⟨g, 0, none⟩))), some (oV (.agg p.cells.toArray)), some (oV (.bool false)), none, none, none, some (oV (.int .u64 mk)), none, none, none]
    #[0, 0, 0, 0, 0, 0, 0, 0, 0, 0, 0, 0, 0, 0, 0, 0, 0, 0, 0, 0, 0, 0, 0, 0, 0, 0, 0, 0, 0, 0, 0, 0] (w8.heap.size) (fun w' => Keep w8 w') (by kernel_rfl) (by kernel_rfl) (by kernel_rfl) ((Keep.refl w8).drew) ?_
  refine ordT_pure rfl ?_
  go_big_quiet_step (fail)
  refine ordT_on ?_
  refine ordT_pure rfl ?_
  go_big_quiet_step (fail)
  refine ordT_on ?_
  refine ordT_pure rfl ?_
  go_big_quiet_step (fail)
  refine ordT_on ?_
  refine ordT_pure rfl ?_
  go_big_quiet_step (fail)
  refine ordT_on ?_
  refine ordT_pure rfl ?_
  go_big_quiet_step (fail)
  refine ordT_on ?_
  refine ordT_pure rfl ?_
  go_big_quiet_step (fail)
  refine ordT_on ?_
  refine ordT_pure rfl ?_
  go_big_quiet_step (fail)
  refine ordT_on ?_
  refine ordT_pure rfl ?_
  go_big_quiet_step (fail)
  refine ordT_on ?_
  refine ordT_pure rfl ?_
  go_big_quiet_step (fail)
  refine ordT_on ?_
  refine ordT_pure rfl ?_
  go_big_quiet_step (fail)
  refine ordT_on ?_
  refine ordT_pure rfl ?_
  go_big_quiet_step (fail)
  refine ordT_on ?_
  refine ordT_pure rfl ?_
  go_big_quiet_step (fail)
  refine ordT_on ?_
  refine ordT_pure rfl ?_
  go_big_quiet_step (fail)
  refine ordT_on ?_
  refine ordT_pure rfl ?_
  go_big_quiet_step (fail)
  refine ordT_on ?_
  refine ordT_pure rfl ?_
  go_big_quiet_step (fail)
  refine ordT_on ?_
  refine ordT_pure rfl ?_
  go_big_quiet_step (fail)
  refine ordT_on ?_
  refine ordT_pure rfl ?_
  go_big_quiet_step (fail)
  refine ordT_on ?_
  refine ordT_pure rfl ?_
  go_big_quiet_step (fail)
  refine ordT_on ?_
  refine ordT_pure rfl ?_
  go_big_quiet_step (fail)
  refine ordT_on ?_
  refine ordT_pure rfl ?_
  go_big_quiet_step (fail)
  refine ordT_on ?_
  refine ordT_same (by kernel_rfl) (fun w2 hC => ?_) ?_
  · exact exec_loadBig bigP _ rfl rfl w2 p.cells hpok.cells (fun j v hj => cell_of (hq1.keep hC).h _ v (by rw [Nat.zero_add]; exact hj))
  simp only [Act.put, List.setIfInBounds_toArray, List.set_cons_zero, List.set_cons_succ]
  refine ordT_pure rfl ?_
  go_big_quiet_step (fail)
  refine ordT_on ?_
  refine ordT_same (by kernel_rfl) (fun w2 hC => ?_) ?_
  · go_simp
  simp only [Act.put, List.setIfInBounds_toArray, List.set_cons_zero, List.set_cons_succ]
  refine ordT_same (by kernel_rfl) (fun w2 hC => ?_) ?_
  · exact exec_loadBig bigP _ rfl rfl w2 p.cells hpok.cells (fun j v hj => cell_of (hP.keep hC).h _ v (by rw [Nat.zero_add]; exact hj))
  simp only [Act.put, List.setIfInBounds_toArray, List.set_cons_zero, List.set_cons_succ]
  refine ordT_same (by kernel_rfl) (fun w2 hC => ?_) ?_
  · refine (exec_neq_page (p := p) (q := p) _ _ rfl rfl rfl hpok hpok w2).trans ?_
    rw [decide_eq_true rfl]
    rfl
  simp only [Act.put, List.setIfInBounds_toArray, List.set_cons_zero, List.set_cons_succ]
  refine ordT_pure rfl ?_
  go_big_quiet_step (fail)
  refine ordT_on ?_
  refine ordT_pure rfl ?_
  go_big_quiet_step (fail)
  refine ordT_on ?_
  refine ordT_pure rfl ?_
  go_big_quiet_step (fail)
  refine ordT_on ?_
  refine ordT_same (by kernel_rfl) (fun w2 hC => ?_) ?_
  · have zz := hC.cellk z0
    go_simp
  simp only [Act.put, List.setIfInBounds_toArray, List.set_cons_zero, List.set_cons_succ]
  refine ordT_pure rfl ?_
  go_big_quiet_step (fail)
  refine ordT_on ?_
  refine ordT_pure rfl ?_
  go_big_quiet_step (fail)
  refine ordT_on ?_
  refine ordT_pure rfl ?_
  go_big_quiet_step (fail)
  refine ordT_on ?_
  refine ordT_done fun w9 own hC hF => ?_
  have kE := hC
  clear hF hC
  have kk := kk.trans' kE
  have hq := hq1.keep kE
  have hs := (kE.block gm (Array.getElem?_eq_some_iff.1 hs).1).trans hs
  clear kE hq1 hP z0 hro htp0 hnp0 htr hnr hel hmk0 hmk1 HMK HME hxt2 hxn2
  go_wp2_with fail
  go_loopw [129] (fun z wr => ∃ i : Nat, i ≤ 5 ∧ z = .int .i64 i ∧ Keep w9 wr) (fun z _ => 5 - (intOf z).toNat)
  case atStart => exact ⟨0, by decide, rfl, Keep.refl _⟩
  case round =>
    obtain ⟨i, hi, rfl, kr⟩ := hrel
    have kkr := kk.trans' kr
    by_cases hi4 : i < 5
    rotate_left
    · have hid : ¬ ((i : Int) < 5) := by omega
      clear hq hs
      go_wp2
      go_ret
      exact ⟨rfl, kkr⟩
    have hq := hq.keep kr
    have hs := (kr.block gm (Array.getElem?_eq_some_iff.1 hs).1).trans hs
    have hid : (i : Int) < 5 := by omega
    have x0 := Pg.str_at hs i hi4
    have HS := slot_any gq p i
    generalize p.slot (i : Int) = D at *
    have HSL := Lib.hid HS
    clear HS
    unfold strV at x0
    go_upto_region 17 with (fail)
    refine wp_region_ord' [none, some (oV (.string ⟨D.toArray⟩)), none, none, some (oV (.pointer (some ⟨gm, i, none⟩))), some (oV (.string ⟨D.toArray⟩)), none]
      #[0, 0, 0, 0, 0, 0, 0] (wr.heap.size) (fun w' => Keep wr w') (by kernel_rfl) (by kernel_rfl) (by kernel_rfl) ((Keep.refl wr).drew) ?_
    refine ordT_pure rfl ?_
    go_big_quiet_step (fail)
    refine ordT_on ?_
    refine ordT_callV (by kernel_rfl) keepK (fun w2 own hC hF => ?_) ?_
    · refine ⟨_, _, by first | (go_simp; done) | (go_simp; rfl), ((HSL.out) w2 (hq.keep hC)).mono ?_⟩
      rintro e w' ⟨rfl, rfl⟩
      exact ⟨rfl, Keep.refl _⟩
    simp only [Act.put, List.setIfInBounds_toArray, List.set_cons_zero, List.set_cons_succ]
    refine ordT_pure rfl ?_
    go_big_quiet_step (fail)
    refine ordT_on ?_
    refine ordT_pure rfl ?_
    go_big_quiet_step (fail)
    refine ordT_on ?_
    refine ordT_same (by kernel_rfl) (fun w2 hC => ?_) ?_
    · go_simp
    simp only [Act.put, List.setIfInBounds_toArray, List.set_cons_zero, List.set_cons_succ]
    refine ordT_same (by kernel_rfl) (fun w2 hC => ?_) ?_
    · have zz := hC.cellk x0
      go_simp
    simp only [Act.put, List.setIfInBounds_toArray, List.set_cons_zero, List.set_cons_succ]
    refine ordT_pure rfl ?_
    go_big_quiet_step (fail)
    refine ordT_on ?_
    refine ordT_done fun w10 own hC hF => ?_
    have kE := hC
    clear hF hC x0 HSL
    go_wp2
    go_roundw
    case rel => exact ⟨i + 1, by omega, by go_num, kr.trans' kE⟩
    case measure => simp [intOf]; omega
end Go.Proofs.Ytdnmddfnlkaahaa
