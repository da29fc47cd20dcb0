/- The walk of PageCopies. -/
import Derived.Test.YtdnmddfnlkaahaaPageL
import Derived.Test.YtdnmddfnlkaahaaFillP
import Derived.Test.YtdnmddfnlkaahaaChain
namespace Go.Proofs.Ytdnmddfnlkaahaa
open Go Go.RowKit
attribute [local irreducible] Go.wpQuiet

theorem Pg.str_at {p : Pg} {w : World} {gm : Nat} (h : w.heap[gm]? = some (.cells p.strs.toArray 9)) (i : Nat) (hi : i < 5) : w.cell? ⟨gm, i, none⟩ = some (strV (p.slot (i : Int))) :=
  cell_of h i _ (by simp [Pg.strs, hi])
theorem tmod_five (i : Int) : -5 < i.tmod 5 ∧ i.tmod 5 < 5 := by
  have h1 := Int.tmod_lt_of_pos i (show (0 : Int) < 5 by decide)
  have h2 := Int.lt_tmod_of_pos i (show (0 : Int) < 5 by decide)
  exact ⟨h2, h1⟩
theorem mod_five (i : Int) : ∃ j : Nat, j < 5 ∧ (i.tmod 5 + 5).tmod 5 = (j : Int) := by
  have h := tmod_five i
  rw [Int.tmod_eq_emod_of_nonneg (by omega)]
  exact ⟨((i.tmod 5 + 5) % 5).toNat, by omega, by omega⟩
theorem Pg.slot_put_row {p : Pg} (h : p.Ok) (i : Nat) (hi : i < 5) (r : Rw) (hr : r.right = true) : (p.put i r.slot).slot (i : Int) = r.slot := by
  have e : (p.put i r.slot).raw i = r.slot := by
    rw [Pg.raw_get (by show i < (p.slots.set i r.slot).length; rw [List.length_set, h.n]; exact hi)]
    exact List.getElem_set_self ..
  rw [Pg.slot_at hi (by rw [e]; exact r.slot_ne_zero), e]
theorem Pg.slot_len {p : Pg} (h : p.Ok) (i : Nat) (hi : i < 5) : (p.slot (i : Int)).length ≤ 40 := by
  by_cases hz : p.raw i = zB 40
  · rw [Pg.slot_free hz]; exact Nat.zero_le _
  · rw [Pg.slot_at hi hz, h.raw hi]; exact Nat.le_refl _
set_option maxRecDepth 100000 in
set_option maxHeartbeats 8000000 in
theorem pageCopies_any (v : Value) (l : List Rw) (r : Rw) (i : Int) (w : World) (hS : SlR w v l) : Calls Try.prog 3 #[v, .agg #[.int .i64 r.t, .string ⟨r.k.toArray⟩, .string ⟨r.v.toArray⟩], .int .i64 i] w fun e w' => e = .returned (.bool true) ∧ Keep w w' := by
  obtain ⟨va, vc, rfl, -, -⟩ := hS.form
  go_enter Try.func3, Try.ntmps3
  go_upto_region 1 with (fail)
  have kb := Keep.alloc w (.cells #[.int .i64 r.t, .string ⟨r.k.toArray⟩, .string ⟨r.v.toArray⟩] 24)
  have hwho := heap_alloc_new w (.cells #[.int .i64 r.t, .string ⟨r.k.toArray⟩, .string ⟨r.v.toArray⟩] 24)
  have hgw : w.heap.size < (w.alloc (.cells #[.int .i64 r.t, .string ⟨r.k.toArray⟩, .string ⟨r.v.toArray⟩] 24)).heap.size := by simp
  generalize w.alloc (.cells #[.int .i64 r.t, .string ⟨r.k.toArray⟩, .string ⟨r.v.toArray⟩] 24) = w0 at *
  obtain ⟨gr, hge⟩ : ∃ x, x = w.heap.size := ⟨_, rfl⟩
  rw [← hge] at hwho hgw ⊢
  clear hge
  go_wp2_with fail
  refine (fit_any _).mono ?_
  rintro e w1 ⟨rfl, k1⟩
  have hwho := (k1.block gr hgw).trans hwho
  have hgw := Nat.lt_of_lt_of_le hgw k1.size
  have k1 := kb.trans' k1
  clear kb
  go_wp2_with fail
  refine (light_any _ l w1 (hS.keep k1)).mono ?_
  rintro e w2 ⟨bb, rfl, -, kw2⟩
  have kw2' := kw2
  have kw2 := k1.trans' kw2
  have hwho := (kw2'.block gr hgw).trans hwho
  clear kw2'
  cases bb
  · go_wp2
    go_ret
    exact ⟨rfl, kw2⟩
  have x0 : w2.cell? ⟨gr, 0, none⟩ = some (.int .i64 r.t) := cell_of hwho 0 _ rfl
  have x1 : w2.cell? ⟨gr, 1, none⟩ = some (.string ⟨r.k.toArray⟩) := cell_of hwho 1 _ rfl
  have x2 : w2.cell? ⟨gr, 2, none⟩ = some (.string ⟨r.v.toArray⟩) := cell_of hwho 2 _ rfl
  go_wp2_with fail
  have hone : SlR (w2.alloc (.cells #[.int .i64 r.t, .string ⟨r.k.toArray⟩, .string ⟨r.v.toArray⟩] 24)) (.slice (some ⟨w2.heap.size, 0, none⟩) 1 1) [r] := SlC.laid (w := w2) 24 (0, 0) 3 r.cells rfl
  have ka := Keep.alloc w2 (.cells #[.int .i64 r.t, .string ⟨r.k.toArray⟩, .string ⟨r.v.toArray⟩] 24)
  refine (light_any _ [r] _ hone).mono ?_
  generalize w2.alloc (.cells #[.int .i64 r.t, .string ⟨r.k.toArray⟩, .string ⟨r.v.toArray⟩] 24) = w3 at *
  rintro e w4 ⟨bc, rfl, -, k4⟩
  have hk4 := ka.trans' k4
  have hwho := (hk4.block gr (Array.getElem?_eq_some_iff.1 hwho).1).trans hwho
  have kw4 := kw2.trans' hk4
  clear hone ka k4 x0 x1 x2
  have x0 : w4.cell? ⟨gr, 0, none⟩ = some (.int .i64 r.t) := cell_of hwho 0 _ rfl
  have x1 : w4.cell? ⟨gr, 1, none⟩ = some (.string ⟨r.k.toArray⟩) := cell_of hwho 1 _ rfl
  have x2 : w4.cell? ⟨gr, 2, none⟩ = some (.string ⟨r.v.toArray⟩) := cell_of hwho 2 _ rfl
  cases bc
  · go_wp2
    go_ret
    exact ⟨rfl, kw4⟩
  go_wp2_with fail
  refine (right_any r w4).mono ?_
  rintro e w5 ⟨rfl, k5⟩
  have hwho := (k5.block gr (Array.getElem?_eq_some_iff.1 hwho).1).trans hwho
  have kw5 := kw4.trans' k5
  clear x0 x1 x2
  by_cases hr : r.right = true
  rotate_left
  · rw [Bool.not_eq_true] at hr
    rw [hr]
    go_wp2
    go_ret
    exact ⟨rfl, kw5⟩
  rw [hr]
  go_wp2_with fail
  refine (fill_any _ l 3 (1) (2) w5 (hS.keep kw5) (by first | assumption | decide)).mono ?_
  rintro e w6 ⟨p, g, gm, rfl, H⟩
  have hP := H.at_
  have hpok := hP.ok
  have k6 := kw5.trans' H.k
  have hst := H.strs
  have hro := H.rows
  have hgw5 : gr < w5.heap.size := (Array.getElem?_eq_some_iff.1 hwho).1
  have hwho := (H.k.block gr hgw5).trans hwho
  have hgg : g ≠ gm := H.ne
  have hgrg : gr ≠ g := fun e => by have := H.gw; omega
  have hgrm : gr ≠ gm := fun e => by have := H.gmw; omega
  clear H kw5 hk4 k5
  go_upto_region 6 with (fail)
  refine wp_region_seq ?_
  refine seqW_pure rfl ?_
  go_big_quiet_step (fail)
  refine seqW_on ?_
  refine seqW_gives (by kernel_rfl) ?_
  refine Gives.value (v := .pointer (some ⟨g, 0, none⟩)) (w' := w6) (by go_simp) ?_
  simp only [Act.put, List.setIfInBounds_toArray, List.set_cons_zero, List.set_cons_succ]
  refine seqW_gives (by kernel_rfl) ?_
  refine Gives.loadBig bigP _ rfl (g := g) (off := 0) rfl p.cells hpok.cells (fun j v hj => cell_of hP.h _ v (by rw [Nat.zero_add]; exact hj)) ?_
  simp only [Act.put, List.setIfInBounds_toArray, List.set_cons_zero, List.set_cons_succ]
  refine seqW_gives (by kernel_rfl) ?_
  refine Gives.allocBig bigP rfl ?_
  have hz : PgAt (w6.alloc (.cells Pg.zero.cells.toArray 36)) w6.heap.size Pg.zero := ⟨heap_alloc_new w6 _, Pg.zero_ok⟩
  have ka := Keep.alloc w6 (.cells Pg.zero.cells.toArray 36)
  obtain ⟨gq, heq⟩ : ∃ x, x = w6.heap.size := ⟨_, rfl⟩
  rw [← heq] at hz
  rw [← heq]
  generalize w6.alloc (.cells Pg.zero.cells.toArray 36) = wa at *
  simp only [Act.put, List.setIfInBounds_toArray, List.set_cons_zero, List.set_cons_succ]
  refine seqW_gives (by kernel_rfl) ?_
  refine Gives.storeBig bigP _ _ rfl (g := gq) (off := 0) rfl p.cells rfl hz.h hpok.cells (by rw [List.size_toArray, hz.ok.cells]; exact Nat.le_refl _) (Pg.cells_one _) ?_
  have hq := hz.over hpok
  have hb := row_but wa gq (Pg.zero.cells.toArray.toList.take 0 ++ p.cells ++ Pg.zero.cells.toArray.toList.drop (0 + 203)).toArray
  generalize wa.setRow gq (Pg.zero.cells.toArray.toList.take 0 ++ p.cells ++ Pg.zero.cells.toArray.toList.drop (0 + 203)).toArray = w7 at *
  have k67 : Keep w6 w7 := ka.trans (But.below hb (Nat.le_of_eq heq.symm) ka.size)
  have k7 := k6.trans' k67
  have hP7 := hP.keep k67
  have hst7 := (k67.block gm (Array.getElem?_eq_some_iff.1 hst).1).trans hst
  have hwho7 := (k67.block gr (Array.getElem?_eq_some_iff.1 hwho).1).trans hwho
  have hgq : w.heap.size ≤ gq := by rw [heq]; exact k6.size
  have n1 : gq ≠ g := fun e => by have := hP.lt; omega
  have n2 : gq ≠ gm := fun e => by have := (Array.getElem?_eq_some_iff.1 hst).1; omega
  have n3 : gq ≠ gr := fun e => by have := (Array.getElem?_eq_some_iff.1 hwho).1; omega
  clear hz ka hb heq hP hst hwho k6 k67 hgw
  simp only [Act.put, List.setIfInBounds_toArray, List.set_cons_zero, List.set_cons_succ]
  refine seqW_done ?_
  obtain ⟨j, hj, hje⟩ := mod_five i
  obtain ⟨z, hz⟩ : ∃ z, z = i.tmod 5 := ⟨_, rfl⟩
  rw [← hz] at hje
  have hz1 : -5 < z ∧ z < 5 := by rw [hz]; exact tmod_five i
  go_upto_region 7 with (fail)
  refine wp_region_seq ?_
  refine seqW_pure rfl ?_
  go_big_quiet_step (fail)
  refine seqW_on ?_
  refine seqW_gives (by kernel_rfl) ?_
  refine Gives.value (v := .int .i64 z) (w' := w7) (by rw [hz]; go_simp) ?_
  simp only [Act.put, List.setIfInBounds_toArray, List.set_cons_zero, List.set_cons_succ]
  refine seqW_gives (by kernel_rfl) ?_
  refine Gives.value (v := .int .i64 (z + 5)) (w' := w7) (by clear hz hje; go_simp; rw [IntKind.wrap_i64]; omega) ?_
  simp only [Act.put, List.setIfInBounds_toArray, List.set_cons_zero, List.set_cons_succ]
  refine seqW_gives (by kernel_rfl) ?_
  refine Gives.value (v := .int .i64 (j : Int)) (w' := w7) (by rw [← hje]; go_simp) ?_
  simp only [Act.put, List.setIfInBounds_toArray, List.set_cons_zero, List.set_cons_succ]
  refine seqW_pure rfl ?_
  go_big_quiet_step (fail)
  refine seqW_on ?_
  refine seqW_done ?_
  clear hz hje hz1
  obtain ⟨may1, set1⟩ := Pg.set_row (p := p) j hj r hr
  have hl40 := slot_length r hr
  have hsp := Pg.slot_put_row hpok j hj r hr
  obtain ⟨may2, set2⟩ := Pg.set_back hpok hro j hj r.slot
  have hlD : (p.slot (j : Int)).length ≤ 40 := Pg.slot_len hpok j hj
  have HS1 := Lib.hid (fun w (h : PgAt w g p) => slot_any g p (j : Int) w h)
  have HS2 := Lib.hid (fun w (h : PgAt w gq (p.put j r.slot)) => hsp ▸ slot_any gq (p.put j r.slot) (j : Int) w h)
  have HT1 := Lib.hid (fun w (h : PgAt w gq p) => may1 ▸ set1 ▸ set_any gq p (j : Int) r.slot w h (by omega))
  have HT2 := Lib.hid (fun w (h : PgAt w gq (p.put j r.slot)) => may2 ▸ set2 ▸ set_any gq (p.put j r.slot) (j : Int) (p.slot (j : Int)) w h (by omega))
  have HSTR := Lib.hid (fun (w : World) (h : w.heap[gm]? = some (.cells p.strs.toArray 9)) => Pg.str_at h j hj)
  have HE := Lib.hid (fun w => encode_any r hr w)
  clear hsp may1 set1 may2 set2 hl40 hlD hro
  generalize p.slot (j : Int) = D at *
  generalize r.slot = rs at *
  have hji : (j : Int) < 5 := by omega
  have hji2 : ¬ (5 : Int) ≤ (j : Int) := by omega
  go_upto_region 8 with (fail)
  have CK : ∀ w1 w2 : World, (fun (w' : World) => w'.heap[gr]? = some (.cells #[.int .i64 r.t, .string ⟨r.k.toArray⟩, .string ⟨r.v.toArray⟩] 24) ∧ w'.heap[gm]? = some (.cells p.strs.toArray 9) ∧ w'.heap[g]? = some (.cells p.cells.toArray 36)) w1 → Keep w1 w2 → (fun (w' : World) => w'.heap[gr]? = some (.cells #[.int .i64 r.t, .string ⟨r.k.toArray⟩, .string ⟨r.v.toArray⟩] 24) ∧ w'.heap[gm]? = some (.cells p.strs.toArray 9) ∧ w'.heap[g]? = some (.cells p.cells.toArray 36)) w2 := fun w1 w2 h k => ⟨(k.block _ (Array.getElem?_eq_some_iff.1 h.1).1).trans h.1, (k.block _ (Array.getElem?_eq_some_iff.1 h.2.1).1).trans h.2.1, (k.block _ (Array.getElem?_eq_some_iff.1 h.2.2).1).trans h.2.2⟩
  have CB : ∀ w1 w2 : World, (fun (w' : World) => w'.heap[gr]? = some (.cells #[.int .i64 r.t, .string ⟨r.k.toArray⟩, .string ⟨r.v.toArray⟩] 24) ∧ w'.heap[gm]? = some (.cells p.strs.toArray 9) ∧ w'.heap[g]? = some (.cells p.cells.toArray 36)) w1 → w1.grownBy w2 (some gq) → (fun (w' : World) => w'.heap[gr]? = some (.cells #[.int .i64 r.t, .string ⟨r.k.toArray⟩, .string ⟨r.v.toArray⟩] 24) ∧ w'.heap[gm]? = some (.cells p.strs.toArray 9) ∧ w'.heap[g]? = some (.cells p.cells.toArray 36)) w2 := fun w1 w2 h k => ⟨(k.block _ (Array.getElem?_eq_some_iff.1 h.1).1 (fun e => n3 (Option.some.inj e).symm)).trans h.1, (k.block _ (Array.getElem?_eq_some_iff.1 h.2.1).1 (fun e => n2 (Option.some.inj e).symm)).trans h.2.1, (k.block _ (Array.getElem?_eq_some_iff.1 h.2.2).1 (fun e => n1 (Option.some.inj e).symm)).trans h.2.2⟩
  have hC7 : (fun (w' : World) => w'.heap[gr]? = some (.cells #[.int .i64 r.t, .string ⟨r.k.toArray⟩, .string ⟨r.v.toArray⟩] 24) ∧ w'.heap[gm]? = some (.cells p.strs.toArray 9) ∧ w'.heap[g]? = some (.cells p.cells.toArray 36)) w7 := ⟨hwho7, hst7, hP7.h⟩
  clear hwho7 hst7 hP7 hgg hgrg hgrm n1 n2 n3
  refine wp_region_ch 24 [none, none, some none, some none, some none, none, none, none, none, some none, none, none, none, none, none, none, none, none, some none, none, some none, some none, none, none] (fun (w' : World) => w'.heap[gr]? = some (.cells #[.int .i64 r.t, .string ⟨r.k.toArray⟩, .string ⟨r.v.toArray⟩] 24) ∧ w'.heap[gm]? = some (.cells p.strs.toArray 9) ∧ w'.heap[g]? = some (.cells p.cells.toArray 36)) (by kernel_rfl) (by kernel_rfl) (by kernel_rfl) (by kernel_rfl) (CK w7 _ hC7 (Keep.refl w7).drew) ?_
  refine chT_pure rfl ?_
  go_big_quiet_step (fail)
  refine chT_on ?_
  refine chT_same (v := .agg #[.int .i64 r.t, .string ⟨r.k.toArray⟩, .string ⟨r.v.toArray⟩]) (by kernel_rfl) (fun w2 hC => by
    obtain ⟨hh, -, -⟩ := hC
    have x0 := cell_of hh 0 _ rfl
    have x1 := cell_of hh 1 _ rfl
    have x2 := cell_of hh 2 _ rfl
    go_simp) ?_
  simp only [Act.put, List.setIfInBounds_toArray, List.set_cons_zero, List.set_cons_succ]
  have hqw8 := hq.keep (w' := w7.drew) (Keep.refl w7).drew
  have kw8 := k7.trans' (Keep.refl w7).drew
  have hCw8 := CK w7 _ hC7 (Keep.refl w7).drew
  clear hq k7 hC7
  generalize w7.drew = w8 at *
  refine chT_gives (by kernel_rfl) ?_
  refine Gives.call (by first | (go_simp; done) | (go_simp; rfl)) (HE.out w8) ?_
  rintro e w9 ⟨vw9, rfl, hO, kk⟩
  have hCw9 := CK _ _ hCw8 kk
  refine ⟨_, rfl, hCw9, ?_⟩
  have hsw9 := hO.slB
  have hqw9 := hqw8.keep kk
  have kw9 := kw8.trans' kk
  clear hO kk hqw8 kw8 hCw8
  simp only [Act.put, List.setIfInBounds_toArray, List.set_cons_zero, List.set_cons_succ]
  refine chT_gives (by kernel_rfl) ?_
  refine Gives.toStr Try.underlying38 Try.underlying5 Try.underlying9 _ rfl rfl hsw9 ?_
  unfold strV
  refine ⟨hCw9, ?_⟩
  clear hsw9
  simp only [Act.put, List.setIfInBounds_toArray, List.set_cons_zero, List.set_cons_succ]
  refine chT_gives (by kernel_rfl) ?_
  refine Gives.call (by first | (go_simp; done) | (go_simp; rfl)) (HT1.out w9 hqw9) ?_
  rintro e w10 ⟨rfl, hqw10, hb⟩
  have hCw10 := CB _ _ hCw9 hb
  refine ⟨_, rfl, hCw10, ?_⟩
  have kw10 : Keep w w10 := kw9.trans (But.below hb hgq kw9.size)
  clear hqw9 hb kw9 hCw9
  simp only [Act.put, List.setIfInBounds_toArray, List.set_cons_zero, List.set_cons_succ]
  refine chT_pure rfl ?_
  go_big_quiet_step (fail)
  refine chT_on ?_
  refine chT_pure rfl ?_
  go_big_quiet_step (fail)
  refine chT_on ?_
  refine chT_pure rfl ?_
  go_big_quiet_step (fail)
  refine chT_on ?_
  refine chT_pure rfl ?_
  go_big_quiet_step (fail)
  refine chT_on ?_
  refine chT_gives (by kernel_rfl) ?_
  refine Gives.call (by first | (go_simp; done) | (go_simp; rfl)) (HS1.out w10 ⟨hCw10.2.2, hpok⟩) ?_
  rintro e w11 ⟨rfl, rfl⟩
  refine ⟨_, rfl, hCw10, ?_⟩
  simp only [Act.put, List.setIfInBounds_toArray, List.set_cons_zero, List.set_cons_succ]
  refine chT_pure rfl ?_
  go_big_quiet_step (fail)
  refine chT_on ?_
  refine chT_pure rfl ?_
  go_big_quiet_step (fail)
  refine chT_on ?_
  refine chT_same (v := .pointer (some ⟨gm, j, none⟩)) (by kernel_rfl) (fun w2 hC => by
    go_simp) ?_
  simp only [Act.put, List.setIfInBounds_toArray, List.set_cons_zero, List.set_cons_succ]
  refine chT_same (v := .string ⟨D.toArray⟩) (by kernel_rfl) (fun w2 hC => by
    obtain ⟨-, hh, -⟩ := hC
    have x0 := HSTR.out w2 hh
    unfold strV at x0
    go_simp) ?_
  simp only [Act.put, List.setIfInBounds_toArray, List.set_cons_zero, List.set_cons_succ]
  refine chT_pure rfl ?_
  go_big_quiet_step (fail)
  refine chT_on ?_
  refine chT_pure rfl ?_
  go_big_quiet_step (fail)
  refine chT_on ?_
  refine chT_pure rfl ?_
  go_big_quiet_step (fail)
  refine chT_on ?_
  refine chT_pure rfl ?_
  go_big_quiet_step (fail)
  refine chT_on ?_
  refine chT_gives (by kernel_rfl) ?_
  refine Gives.call (by first | (go_simp; done) | (go_simp; rfl)) (HS2.out w10 hqw10) ?_
  rintro e w11 ⟨rfl, rfl⟩
  refine ⟨_, rfl, hCw10, ?_⟩
  simp only [Act.put, List.setIfInBounds_toArray, List.set_cons_zero, List.set_cons_succ]
  refine chT_same (v := .agg #[.int .i64 r.t, .string ⟨r.k.toArray⟩, .string ⟨r.v.toArray⟩]) (by kernel_rfl) (fun w2 hC => by
    obtain ⟨hh, -, -⟩ := hC
    have x0 := cell_of hh 0 _ rfl
    have x1 := cell_of hh 1 _ rfl
    have x2 := cell_of hh 2 _ rfl
    go_simp) ?_
  simp only [Act.put, List.setIfInBounds_toArray, List.set_cons_zero, List.set_cons_succ]
  refine chT_gives (by kernel_rfl) ?_
  refine Gives.call (by first | (go_simp; done) | (go_simp; rfl)) (HE.out w10) ?_
  rintro e w12 ⟨vw12, rfl, hO, kk⟩
  have hCw12 := CK _ _ hCw10 kk
  refine ⟨_, rfl, hCw12, ?_⟩
  have hsw12 := hO.slB
  have hqw12 := hqw10.keep kk
  have kw12 := kw10.trans' kk
  clear hO kk hqw10 kw10 hCw10
  simp only [Act.put, List.setIfInBounds_toArray, List.set_cons_zero, List.set_cons_succ]
  refine chT_gives (by kernel_rfl) ?_
  refine Gives.toStr Try.underlying38 Try.underlying5 Try.underlying9 _ rfl rfl hsw12 ?_
  unfold strV
  refine ⟨hCw12, ?_⟩
  clear hsw12
  simp only [Act.put, List.setIfInBounds_toArray, List.set_cons_zero, List.set_cons_succ]
  refine chT_pure rfl ?_
  go_big_quiet_step (fail)
  refine chT_on ?_
  refine chT_pure rfl ?_
  go_big_quiet_step (fail)
  refine chT_on ?_
  refine chT_done ?_
  refine seqW_done ?_
  clear HS1 HS2 HE HT1
  go_upto_region 10 with (fail)
  refine wp_region_ch 14 [none, none, none, none, none, some none, none, some none, none, none, none, none, none, none] (fun (w' : World) => w'.heap[gr]? = some (.cells #[.int .i64 r.t, .string ⟨r.k.toArray⟩, .string ⟨r.v.toArray⟩] 24) ∧ w'.heap[gm]? = some (.cells p.strs.toArray 9) ∧ w'.heap[g]? = some (.cells p.cells.toArray 36)) (by kernel_rfl) (by kernel_rfl) (by kernel_rfl) (by kernel_rfl) (CK w12 _ hCw12 (Keep.refl w12).drew) ?_
  refine chT_pure rfl ?_
  go_big_quiet_step (fail)
  refine chT_on ?_
  refine chT_pure rfl ?_
  go_big_quiet_step (fail)
  refine chT_on ?_
  refine chT_pure rfl ?_
  go_big_quiet_step (fail)
  refine chT_on ?_
  refine chT_same (v := .pointer (some ⟨gm, j, none⟩)) (by kernel_rfl) (fun w2 hC => by
    go_simp) ?_
  simp only [Act.put, List.setIfInBounds_toArray, List.set_cons_zero, List.set_cons_succ]
  refine chT_same (v := .string ⟨D.toArray⟩) (by kernel_rfl) (fun w2 hC => by
    obtain ⟨-, hh, -⟩ := hC
    have x0 := HSTR.out w2 hh
    unfold strV at x0
    go_simp) ?_
  simp only [Act.put, List.setIfInBounds_toArray, List.set_cons_zero, List.set_cons_succ]
  have hqw13 := hqw12.keep (w' := w12.drew) (Keep.refl w12).drew
  have kw13 := kw12.trans' (Keep.refl w12).drew
  have hCw13 := CK w12 _ hCw12 (Keep.refl w12).drew
  clear hqw12 kw12 hCw12
  generalize w12.drew = w13 at *
  refine chT_gives (by kernel_rfl) ?_
  refine Gives.call (by first | (go_simp; done) | (go_simp; rfl)) (HT2.out w13 hqw13) ?_
  rintro e w14 ⟨rfl, hqw14, hb⟩
  have hCw14 := CB _ _ hCw13 hb
  refine ⟨_, rfl, hCw14, ?_⟩
  have kw14 : Keep w w14 := kw13.trans (But.below hb hgq kw13.size)
  clear hqw13 hb kw13 hCw13
  simp only [Act.put, List.setIfInBounds_toArray, List.set_cons_zero, List.set_cons_succ]
  refine chT_pure rfl ?_
  go_big_quiet_step (fail)
  refine chT_on ?_
  refine chT_gives (by kernel_rfl) ?_
  refine Gives.loadBig bigP _ rfl (g := gq) (off := 0) rfl p.cells hpok.cells (fun j v hj => cell_of hqw14.h _ v (by rw [Nat.zero_add]; exact hj)) ?_
  refine ⟨hCw14, ?_⟩
  simp only [Act.put, List.setIfInBounds_toArray, List.set_cons_zero, List.set_cons_succ]
  refine chT_pure rfl ?_
  go_big_quiet_step (fail)
  refine chT_on ?_
  refine chT_same (v := .pointer (some ⟨g, 0, none⟩)) (by kernel_rfl) (fun w2 hC => by
    go_simp) ?_
  simp only [Act.put, List.setIfInBounds_toArray, List.set_cons_zero, List.set_cons_succ]
  refine chT_same (v := .agg p.cells.toArray) (by kernel_rfl) (fun w2 hC => by
    exact exec_loadBig bigP _ rfl rfl w2 p.cells hpok.cells (fun j v hj => cell_of hC.2.2 _ v (by rw [Nat.zero_add]; exact hj))) ?_
  simp only [Act.put, List.setIfInBounds_toArray, List.set_cons_zero, List.set_cons_succ]
  refine chT_same (v := .bool true) (by kernel_rfl) (fun w2 hC => by
    refine (exec_eq_page (p := p) (q := p) _ _ rfl rfl rfl hpok hpok w2).trans ?_
    rw [decide_eq_true rfl]) ?_
  simp only [Act.put, List.setIfInBounds_toArray, List.set_cons_zero, List.set_cons_succ]
  refine chT_pure rfl ?_
  go_big_quiet_step (fail)
  refine chT_on ?_
  refine chT_pure rfl ?_
  go_big_quiet_step (fail)
  refine chT_on ?_
  refine chT_done ?_
  refine seqW_done ?_
  clear hCw14 hqw14 HT2 HSTR CK CB
  go_wp2
  go_ret
  exact ⟨rfl, kw14⟩
end Go.Proofs.Ytdnmddfnlkaahaa
