/- The walk of ScriptBack. -/
import Derived.Test.YtndndklaaegifaaScrMore
namespace Go.Proofs.Ytndndklaaegifaa
open Go Go.RowKit
attribute [local irreducible] Go.wpQuiet

def tQ (qs : List Rq) : Tells Keep := ⟨fun v w => SlQ w v qs, fun _ _ _ hk h => h.keep hk⟩
theorem encL_take (qs : List Rq) (j : Nat) (h : j < qs.length) : encL (qs.take (j + 1)) = encL (qs.take j) ++ encL [qs[j]] := by
  unfold encL
  rw [List.take_add_one, List.getElem?_eq_getElem h, List.flatMap_append]
  simp
theorem encL_take_le (qs : List Rq) (j : Nat) : (encL (qs.take j)).length ≤ (encL qs).length := by
  have h : encL qs = encL (qs.take j) ++ encL (qs.drop j) := by
    unfold encL
    rw [← List.flatMap_append, List.take_append_drop]
  rw [h, List.length_append]
  omega

set_option maxRecDepth 100000 in
set_option maxHeartbeats 8000000 in
theorem scriptBack_any (v : Value) (ls : List Rq) (w : World) (hL : SlQ w v ls) (hml : ∀ q ∈ ls, q.mask < 256 ^ 8) : Calls Try.prog 3 #[v] w fun e w' => e = .returned (.bool true) ∧ Keep w w' := by
  obtain ⟨la, lc, rfl, -, -⟩ := hL.form
  have HFL := Lib.hid (tame_fits hml)
  clear hml
  go_enter Try.func3, Try.ntmps3
  go_wp2_with fail
  refine (fit_any w).mono ?_
  rintro e w1 ⟨rfl, hk1⟩
  have hL1 := hL.keep hk1
  clear hL
  go_wp2_with fail
  refine (light_any _ ls w1 hL1).mono ?_
  rintro e w3 ⟨b1, rfl, hb1, hk2⟩
  have hw3 := hk1.trans' hk2
  cases b1
  · go_wp2
    go_ret
    exact ⟨rfl, hw3⟩
  have H1 := Lib.hid (hb1 rfl)
  have hL3 := hL1.keep hk2
  clear hb1 hL1 hk1 hk2
  go_wp2_with fail
  refine (tame_any _ ls w3 hL3 H1.out).mono ?_
  rintro e w5 ⟨v4, rfl, hQ5, hk5⟩
  have hw5 := hw3.trans' hk5
  have hs5 := hk5.size
  have hTL := tame_len ls
  have hlen1 : (encL (ls.map tame1)).length ≤ 1045 * 50 := by have := H1.out; omega
  have hln1 : (ls.map tame1).length ≤ 50 := by rw [List.length_map]; exact H1.out
  clear hL3 hw3 hTL
  generalize ls.map tame1 = lt at *
  obtain ⟨la4, ln4, lc4, rfl⟩ := hQ5.shape
  clear H1
  go_wp2_with fail
  have hga := scr_new w5
  have hka := Keep.alloc w5 (.cells #[.slice none 0 0] 28)
  have hsa : (w5.alloc (.cells #[.slice none 0 0] 28)).heap.size = w5.heap.size + 1 := by simp
  generalize w5.alloc (.cells #[.slice none 0 0] 28) = w6 at *
  have hgb := scr_new w6
  have hkb := Keep.alloc w6 (.cells #[.slice none 0 0] 28)
  have hsb : (w6.alloc (.cells #[.slice none 0 0] 28)).heap.size = w6.heap.size + 1 := by simp
  have hga' := (hkb.block _ (Array.getElem?_eq_some_iff.1 hga).1).trans hga
  generalize w6.alloc (.cells #[.slice none 0 0] 28) = w7 at *
  have hk57 := hka.trans' hkb
  have hw7 := hw5.trans' hk57
  rw [hsa] at hgb
  have hs7 : w7.heap.size = w5.heap.size + 2 := by omega
  have hq7 : SlQin w7 (fun b => b < w5.heap.size) (.slice la4 ln4 lc4) lt := (hQ5.slqin (S := fun b => b < w5.heap.size) (fun g h _ => h) (fun b h => by omega)).at fun b hb _ => hk57.block b hb
  clear hga hka hsa hkb hsb hk57 hQ5 hk5
  generalize hg : w5.heap.size = ga at *
  have hw57 : w.heap.size ≤ ga := by rw [← hg]; exact hw5.size
  clear hg
  refine (add_any ga (ga + 1) _ (.slice none 0 0) lt [] w7 hga' (Own.nil _ _ _) (Nat.lt_succ_self _) (by omega) (hq7.weak fun b hb => ⟨by omega, by simp [Value.ownBlock], by omega⟩) HFL.out (by rw [List.length_nil]; omega)).mono ?_
  rintro e w8 ⟨rfl, sva, hga8, hOa8, hwa, hb8⟩
  rw [List.nil_append] at hOa8
  have hT8 : ∀ b, b ≠ ga → ¬ (b = ga ∨ (Value.slice none 0 0).ownBlock = some b) := fun b hb h => h.elim hb (fun e => by simp [Value.ownBlock] at e)
  have hgb8 := (hb8.block (ga + 1) (by omega) (hT8 _ (by omega))).trans hgb
  have hq8 := hq7.at (w' := w8) fun b hb hs => hb8.block b hb (hT8 b (by omega))
  have hs8 := hb8.size
  have hw8 : Keep w w8 := hw7.trans (hb8.below w.heap.size hw7.size (fun b h => h.elim (fun e => by omega) (fun e => by simp [Value.ownBlock] at e)))
  have hwa' : ∀ g, sva.ownBlock = some g → ga + 2 ≤ g := fun g e => (hwa g e).elim (fun e => by simp [Value.ownBlock] at e) (fun h => by omega)
  clear hga' hgb hq7 hb8 hT8 hwa hw7
  have hlnform : ln4 = lt.length := by
    obtain ⟨a, c, e, -⟩ := hq8.slq.form
    simp only [Value.slice.injEq] at e
    exact e.2.1
  subst hlnform
  go_wp2
  go_loopw [19] (fun i wr => ∃ (j : Nat) (svb : Value), j ≤ lt.length ∧ i = .int .i64 j ∧ wr.heap[ga]? = some (.cells #[sva] 28) ∧ wr.heap[ga + 1]? = some (.cells #[svb] 28) ∧ Own wr (ga + 1) 5 sva ((encL lt).map B) ∧ Own wr (ga + 2) 5 svb ((encL (lt.take j)).map B) ∧ (∀ g, sva.ownBlock = some g → svb.ownBlock ≠ some g) ∧ SlQin wr (fun b => b < ga) (.slice la4 lt.length lc4) lt ∧ Keep w wr) (fun i _ => lt.length - (intOf i).toNat)
  case atStart => exact ⟨0, _, Nat.zero_le _, rfl, hga8, hgb8, hOa8, Own.nil _ _ _, fun g _ e => by simp [Value.ownBlock] at e, hq8, hw8⟩
  case round =>
    obtain ⟨j, svb, hj, rfl, hga, hgb, hOa, hOb, hab, hq, hk⟩ := hrel
    clear hga8 hgb8 hOa8 hq8 hw8 hs8 hs7
    by_cases hjn : j < lt.length
    rotate_left
    · have hjl : j = lt.length := by omega
      rw [hjl, List.take_length] at hOb
      have hjd : ¬ ((j : Int) < (lt.length : Int)) := by omega
      have hba := hOa.slB
      have hbb := hOb.slB
      have hql := hq.slq
      clear hjl hjn hOa hOb hab hq
      go_upto_region 14 with (fail)
      refine wp_region_dag' (C := fun w' => Keep wr w') (R := Keep) [some (tB (encL lt)), some (tQ lt), none, some (tV (.bool true)), none, some (tB (encL lt)), some (tV (.string ⟨(encL lt).toArray⟩)), some (tB (encL lt)), some (tV (.string ⟨(encL lt).toArray⟩)), none, none, none, none, some (tV (.slice none 0 0)), none, none, none, none]
        (by kernel_rfl) (by kernel_rfl) (Keep.refl wr).drew ?_
      refine dagT_told (by kernel_rfl) ?_ ?_
      · intro w2 hC hF
        refine Gives.call (by go_simp) (bytes_any ga sva (encL lt) w2 ((hC.block _ (Array.getElem?_eq_some_iff.1 hga).1).trans hga) (hba.keep hC) (by omega)) ?_
        rintro e w' ⟨v', rfl, hO, hk⟩
        exact ⟨_, rfl, hC.trans' hk, hk, hO.slB⟩
      intro b0 w2 hC hF hb0
      clear hC hF
      obtain ⟨ab0, nb0, cb0, rfl⟩ := SlB.shape hb0
      simp only [Act.put, List.setIfInBounds_toArray, List.set_cons_zero, List.set_cons_succ]
      refine dagT_told (by kernel_rfl) ?_ ?_
      · intro w2 hC hF
        refine Gives.call (by go_simp) (decode_any _ (encL lt) w2 ((hF 0 (by kernel_rfl)).1 rfl) (by omega)) ?_
        rintro e w' ⟨v', rfl, hQ, hk⟩
        exact ⟨_, rfl, hC.trans' hk, hk, by rw [decL_of_encL lt HFL.out] at hQ; exact hQ⟩
      intro q1 w2 hC hF hq1
      clear hC hF
      obtain ⟨aq1, cq1, rfl, -, -⟩ := SlQ.form hq1
      simp only [Act.put, List.setIfInBounds_toArray, List.set_cons_zero, List.set_cons_succ]
      refine dagT_pure rfl ?_
      go_big_quiet_step (fail)
      refine dagT_on ?_
      refine dagT_told (by kernel_rfl) ?_ ?_
      · intro w2 hC hF
        refine Gives.call (by go_simp) (same_any _ _ lt lt w2 ((hF 1 (by kernel_rfl)).1 rfl) (hql.keep hC)) ?_
        rintro e w' ⟨rfl, hk⟩
        exact ⟨_, rfl, hC.trans' hk, hk, (by first | rfl | (show _ = _; simp))⟩
      intro vv w2 hC hF hvv
      clear hC hF
      obtain rfl := hvv
      simp only [Act.put, List.setIfInBounds_toArray, List.set_cons_zero, List.set_cons_succ]
      refine dagT_pure rfl ?_
      go_big_quiet_step (fail)
      refine dagT_on ?_
      refine dagT_told (by kernel_rfl) ?_ ?_
      · intro w2 hC hF
        refine Gives.call (by go_simp) (bytes_any ga sva (encL lt) w2 ((hC.block _ (Array.getElem?_eq_some_iff.1 hga).1).trans hga) (hba.keep hC) (by omega)) ?_
        rintro e w' ⟨v', rfl, hO, hk⟩
        exact ⟨_, rfl, hC.trans' hk, hk, hO.slB⟩
      intro b5 w2 hC hF hb5
      clear hC hF
      obtain ⟨ab5, nb5, cb5, rfl⟩ := SlB.shape hb5
      simp only [Act.put, List.setIfInBounds_toArray, List.set_cons_zero, List.set_cons_succ]
      refine dagT_told (by kernel_rfl) ?_ ?_
      · intro w2 hC hF
        have hto := run_toString (P := Try.prog) Try.underlying26 Try.underlying5 Try.underlying9 (((hF 5 (by kernel_rfl)).1 rfl))
        unfold strV at hto
        exact Gives.value (v := .string ⟨(encL lt).toArray⟩) (w' := w2) (by go_simp) ⟨hC, Keep.refl _, rfl⟩
      intro vv w2 hC hF hvv
      clear hC hF
      obtain rfl := hvv
      simp only [Act.put, List.setIfInBounds_toArray, List.set_cons_zero, List.set_cons_succ]
      refine dagT_told (by kernel_rfl) ?_ ?_
      · intro w2 hC hF
        refine Gives.call (by go_simp) (bytes_any (ga + 1) svb (encL lt) w2 ((hC.block _ (Array.getElem?_eq_some_iff.1 hgb).1).trans hgb) (hbb.keep hC) (by omega)) ?_
        rintro e w' ⟨v', rfl, hO, hk⟩
        exact ⟨_, rfl, hC.trans' hk, hk, hO.slB⟩
      intro b7 w2 hC hF hb7
      clear hC hF
      obtain ⟨ab7, nb7, cb7, rfl⟩ := SlB.shape hb7
      simp only [Act.put, List.setIfInBounds_toArray, List.set_cons_zero, List.set_cons_succ]
      refine dagT_told (by kernel_rfl) ?_ ?_
      · intro w2 hC hF
        have hto := run_toString (P := Try.prog) Try.underlying26 Try.underlying5 Try.underlying9 (((hF 7 (by kernel_rfl)).1 rfl))
        unfold strV at hto
        exact Gives.value (v := .string ⟨(encL lt).toArray⟩) (w' := w2) (by go_simp) ⟨hC, Keep.refl _, rfl⟩
      intro vv w2 hC hF hvv
      clear hC hF
      obtain rfl := hvv
      simp only [Act.put, List.setIfInBounds_toArray, List.set_cons_zero, List.set_cons_succ]
      refine dagT_pure rfl ?_
      go_big_quiet_step (fail)
      refine dagT_on ?_
      refine dagT_pure rfl ?_
      go_big_quiet_step (fail)
      refine dagT_on ?_
      refine dagT_pure rfl ?_
      go_big_quiet_step (fail)
      refine dagT_on ?_
      refine dagT_pure rfl ?_
      go_big_quiet_step (fail)
      refine dagT_on ?_
      refine dagT_told (by kernel_rfl) ?_ ?_
      · intro w2 hC hF
        refine Gives.call (by go_simp) (bytes_nil w2) ?_
        rintro e w' ⟨rfl, rfl⟩
        exact ⟨_, rfl, hC, Keep.refl _, rfl⟩
      intro vv w2 hC hF hvv
      clear hC hF
      obtain rfl := hvv
      simp only [Act.put, List.setIfInBounds_toArray, List.set_cons_zero, List.set_cons_succ]
      refine dagT_pure rfl ?_
      go_big_quiet_step (fail)
      refine dagT_on ?_
      refine dagT_pure rfl ?_
      go_big_quiet_step (fail)
      refine dagT_on ?_
      refine dagT_pure rfl ?_
      go_big_quiet_step (fail)
      refine dagT_on ?_
      refine dagT_pure rfl ?_
      go_big_quiet_step (fail)
      refine dagT_on ?_
      refine dagT_done fun w2 hC hF => ?_
      clear hF
      go_wp2
      go_ret
      exact ⟨rfl, hk.trans' hC⟩
    obtain ⟨b, off, rfl, dv, hdv, hdin, hcell⟩ := hq.elem j hjn
    have hfq := HFL.out lt[j] (List.getElem_mem _)
    have HTK := Lib.hid (encL_take lt j hjn)
    have hle := encL_take_le lt (j + 1)
    rw [encL_take lt j hjn, List.length_append] at hle
    generalize lt[j] = q at *
    have x0 := hcell 0 _ rfl
    have x1 := hcell 1 _ rfl
    have x2 := hcell 2 _ rfl
    have x3 := hcell 3 _ rfl
    have x4 := hcell 4 _ rfl
    have x5 := hcell 5 _ rfl
    have x6 := hcell 6 _ rfl
    have x7 := hcell 7 _ rfl
    have x8 := hcell 8 _ rfl
    have x9 := hcell 9 _ rfl
    rw [Nat.add_zero] at x0
    obtain ⟨da, dc, rfl, -, -, -⟩ := hdv.form
    have hjl : (j : Int) < (lt.length : Int) := by omega
    clear hcell
    go_upto_region 11 with (fail)
    have hA := heap_alloc_new wr (.cells #[.int .i64 q.kind, .int .i64 q.tenant, .int .i64 q.handle, .int .i64 q.table, .string ⟨q.key.toArray⟩, .string ⟨q.value.toArray⟩, .string ⟨q.to_.toArray⟩, .int .i64 q.n, .int .u64 (q.mask : Int), .slice da q.data.length dc] 34)
    have hkA := Keep.alloc wr (.cells #[.int .i64 q.kind, .int .i64 q.tenant, .int .i64 q.handle, .int .i64 q.table, .string ⟨q.key.toArray⟩, .string ⟨q.value.toArray⟩, .string ⟨q.to_.toArray⟩, .int .i64 q.n, .int .u64 (q.mask : Int), .slice da q.data.length dc] 34)
    have hlt : ga + 1 < wr.heap.size := (Array.getElem?_eq_some_iff.1 hgb).1
    clear x0 x1 x2 x3 x4 x5 x6 x7 x8 x9
    generalize wr.alloc (.cells #[.int .i64 q.kind, .int .i64 q.tenant, .int .i64 q.handle, .int .i64 q.table, .string ⟨q.key.toArray⟩, .string ⟨q.value.toArray⟩, .string ⟨q.to_.toArray⟩, .int .i64 q.n, .int .u64 (q.mask : Int), .slice da q.data.length dc] 34) = y1 at *
    have hlt1 : ga + 1 < y1.heap.size := Nat.lt_of_lt_of_le hlt hkA.size
    obtain ⟨x0, x1, x2, x3, x4, x5, x6, x7, x8, x9⟩ := cells10 hA
    go_wp2_with fail
    have hkB := Keep.alloc y1 (.cells #[.int .i64 q.kind, .int .i64 q.tenant, .int .i64 q.handle, .int .i64 q.table, .string ⟨q.key.toArray⟩, .string ⟨q.value.toArray⟩, .string ⟨q.to_.toArray⟩, .int .i64 q.n, .int .u64 (q.mask : Int), .slice da q.data.length dc] 34)
    have hsz : y1.heap.size < (y1.alloc (.cells #[.int .i64 q.kind, .int .i64 q.tenant, .int .i64 q.handle, .int .i64 q.table, .string ⟨q.key.toArray⟩, .string ⟨q.value.toArray⟩, .string ⟨q.to_.toArray⟩, .int .i64 q.n, .int .u64 (q.mask : Int), .slice da q.data.length dc] 34)).heap.size := by simp
    have hob : ∀ g, svb.ownBlock = some g → ga + 2 ≤ g ∧ g < wr.heap.size := fun g e => World.ownsRow.lt hOb g e
    have hqq : SlQin (y1.alloc (.cells #[.int .i64 q.kind, .int .i64 q.tenant, .int .i64 q.handle, .int .i64 q.table, .string ⟨q.key.toArray⟩, .string ⟨q.value.toArray⟩, .string ⟨q.to_.toArray⟩, .int .i64 q.n, .int .u64 (q.mask : Int), .slice da q.data.length dc] 34)) (fun b => b ≠ ga + 1 ∧ svb.ownBlock ≠ some b ∧ b < (y1.alloc (.cells #[.int .i64 q.kind, .int .i64 q.tenant, .int .i64 q.handle, .int .i64 q.table, .string ⟨q.key.toArray⟩, .string ⟨q.value.toArray⟩, .string ⟨q.to_.toArray⟩, .int .i64 q.n, .int .u64 (q.mask : Int), .slice da q.data.length dc] 34)).heap.size) (.slice (some ⟨y1.heap.size, 0, none⟩) 1 1) [q] :=
      SlQin.laid y1 _ q da q.data.length dc (hdv.keep hkA) ⟨by omega, fun e => by have := (hob _ e).2; have := hkA.size; omega, hsz⟩ (fun hne => (hdin hne).mono fun b hb => ⟨by omega, fun e => by have := (hob _ e).1; omega, by omega⟩)
    have hkAB := hkA.trans' hkB
    have hga2 := (hkAB.block _ (Array.getElem?_eq_some_iff.1 hga).1).trans hga
    have hgb2 := (hkAB.block _ (Array.getElem?_eq_some_iff.1 hgb).1).trans hgb
    have hOa2 := hOa.keep hkAB
    have hOb2 := hOb.keep hkAB
    have hq2 := hq.at (w' := (y1.alloc (.cells #[.int .i64 q.kind, .int .i64 q.tenant, .int .i64 q.handle, .int .i64 q.table, .string ⟨q.key.toArray⟩, .string ⟨q.value.toArray⟩, .string ⟨q.to_.toArray⟩, .int .i64 q.n, .int .u64 (q.mask : Int), .slice da q.data.length dc] 34))) fun b hb _ => hkAB.block b hb
    have hk2 := hk.trans' hkAB
    clear x0 x1 x2 x3 x4 x5 x6 x7 x8 x9 hA hkA hkB hkAB hga hgb hOa hOb hq hk hdv hdin hob
    generalize y1.alloc (.cells #[.int .i64 q.kind, .int .i64 q.tenant, .int .i64 q.handle, .int .i64 q.table, .string ⟨q.key.toArray⟩, .string ⟨q.value.toArray⟩, .string ⟨q.to_.toArray⟩, .int .i64 q.n, .int .u64 (q.mask : Int), .slice da q.data.length dc] 34) = y2 at *
    generalize y1.heap.size = gy at *
    refine (add_any (ga + 1) (ga + 2) _ svb [q] (encL (lt.take j)) y2 hgb2 hOb2 (Nat.lt_succ_self _) (by omega) hqq (by intro p hp; rw [List.mem_singleton.1 hp]; exact hfq) (by omega)).mono ?_
    rintro e y3 ⟨rfl, svb', hgb3, hOb3, hwb, hb3⟩
    rw [← HTK.out] at hOb3
    have hnb : ∀ b, b < ga + 1 → ¬ (b = ga + 1 ∨ svb.ownBlock = some b) := fun b hb h => h.elim (fun e => by omega) (fun e => by have := (World.ownsRow.lt hOb2 b e).1; omega)
    have hga3 := (hb3.block ga (by omega) (hnb ga (by omega))).trans hga2
    have hOa3 := hOa2.at (w' := y3) fun g e hg => hb3.block g hg (fun h => h.elim (fun e' => by have := hwa' g e; omega) (fun e' => hab g e e'))
    have hq3 := hq2.at (w' := y3) fun b hb hs => hb3.block b hb (hnb b (by omega))
    have hk3 : Keep w y3 := hk2.trans (hb3.below w.heap.size hk2.size (fun b h => h.elim (fun e => by omega) (fun e => by have := (World.ownsRow.lt hOb2 b e).1; omega)))
    have hab3 : ∀ g, sva.ownBlock = some g → svb'.ownBlock ≠ some g := fun g e e' => (hwb g e').elim (fun h => hab g e h) (fun h => by have := (World.ownsRow.lt hOa2 g e).2; omega)
    clear hb3 hwb hnb hga2 hgb2 hOa2 hOb2 hq2 hk2 hqq hab
    go_wp2
    go_roundw
    case rel => exact ⟨j + 1, svb', by omega, by go_num, hga3, hgb3, hOa3, hOb3, hab3, hq3, hk3⟩
    case measure => simp [intOf]; omega
end Go.Proofs.Ytndndklaaegifaa
