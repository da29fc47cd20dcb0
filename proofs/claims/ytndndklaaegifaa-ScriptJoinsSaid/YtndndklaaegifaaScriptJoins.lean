/- The walk of ScriptJoins. -/
import Derived.Test.YtndndklaaegifaaScrMore
namespace Go.Proofs.Ytndndklaaegifaa
open Go Go.RowKit
attribute [local irreducible] Go.wpQuiet

set_option maxRecDepth 100000 in
set_option maxHeartbeats 8000000 in
theorem scriptJoins_any (v u : Value) (ls ks : List Rq) (w : World) (hL : SlQ w v ls) (hK : SlQ w u ks) (hml : ∀ q ∈ ls, q.mask < 256 ^ 8) (hmk : ∀ q ∈ ks, q.mask < 256 ^ 8) : Calls Try.prog 4 #[v, u] w fun e w' => e = .returned (.bool true) ∧ Keep w w' := by
  obtain ⟨la, lc, rfl, -, -⟩ := hL.form
  obtain ⟨ka, kc, rfl, -, -⟩ := hK.form
  have HFL := Lib.hid (tame_fits hml)
  have HFK := Lib.hid (tame_fits hmk)
  clear hml hmk
  go_enter Try.func4, Try.ntmps4
  go_wp2_with fail
  refine (fit_any w).mono ?_
  rintro e w1 ⟨rfl, hk1⟩
  have hL1 := hL.keep hk1
  have hK1 := hK.keep hk1
  clear hL hK
  go_wp2_with fail
  refine (light_any _ ls w1 hL1).mono ?_
  rintro e w2 ⟨b1, rfl, hb1, hk2⟩
  have hw2 := hk1.trans' hk2
  cases b1
  · go_wp2
    go_ret
    exact ⟨rfl, hw2⟩
  have H1 := Lib.hid (hb1 rfl)
  have hL2 := hL1.keep hk2
  have hK2 := hK1.keep hk2
  clear hb1 hL1 hK1 hk1 hk2
  go_wp2_with fail
  refine (light_any _ ks w2 hK2).mono ?_
  rintro e w3 ⟨b2, rfl, hb2, hk3⟩
  have hw3 := hw2.trans' hk3
  cases b2
  · go_wp2
    go_ret
    exact ⟨rfl, hw3⟩
  have H2 := Lib.hid (hb2 rfl)
  have hL3 := hL2.keep hk3
  have hK3 := hK2.keep hk3
  clear hb2 hL2 hK2 hk3 hw2
  go_wp2_with fail
  refine (tame_any _ ls w3 hL3 H1.out).mono ?_
  rintro e w4 ⟨v4, rfl, hQ4, hk4⟩
  have hK4 := hK3.keep hk4
  have hw4 := hw3.trans' hk4
  go_wp2_with fail
  refine (tame_any _ ks w4 hK4 H2.out).mono ?_
  rintro e w5 ⟨v5, rfl, hR5, hk5⟩
  have hQ5 := hQ4.keep hk5
  have hw5 := hw4.trans' hk5
  have hs4 := hk4.size
  have hs5 := hk5.size
  have hTL := tame_len ls
  have hTK := tame_len ks
  have hlen1 : (encL (ls.map tame1)).length ≤ 1045 * 50 := by have := H1.out; omega
  have hlen2 : (encL (ks.map tame1)).length ≤ 1045 * 50 := by have := H2.out; omega
  have hln1 : (ls.map tame1).length ≤ 50 := by rw [List.length_map]; exact H1.out
  have hln2 : (ks.map tame1).length ≤ 50 := by rw [List.length_map]; exact H2.out
  clear hQ4 hK4 hL3 hK3 hw3 hw4 hTL hTK
  generalize ls.map tame1 = lt at *
  generalize ks.map tame1 = kt at *
  obtain ⟨la4, ln4, lc4, rfl⟩ := hQ5.shape
  obtain ⟨ka4, kn4, kc4, rfl⟩ := hR5.shape
  have H12 : Hid (ls.length = ls.length) := Lib.hid rfl
  clear H1 H2 H12
  go_wp2_with fail
  have hga := scr_new w5
  have hka := Keep.alloc w5 (.cells #[.slice none 0 0] 28)
  have hsa : (w5.alloc (.cells #[.slice none 0 0] 28)).heap.size = w5.heap.size + 1 := by simp
  generalize w5.alloc (.cells #[.slice none 0 0] 28) = w6 at *
  have hgb := scr_new w6
  have hkb := Keep.alloc w6 (.cells #[.slice none 0 0] 28)
  have hsb : (w6.alloc (.cells #[.slice none 0 0] 28)).heap.size = w6.heap.size + 1 := by simp
  have hga' := (hkb.block _ (Array.getElem?_eq_some_iff.1 hga).1).trans hga
  generalize w6.alloc (.cells #[.slice none 0 0] 28) = w7 at *
  have hk57 := hka.trans' hkb
  have hQ7 := hQ5.keep hk57
  have hR7 := hR5.keep hk57
  have hw7 := hw5.trans' hk57
  rw [hsa] at hgb
  have hs7 : w7.heap.size = w5.heap.size + 2 := by omega
  have hq7 : SlQin w7 (fun b => b < w5.heap.size) (.slice la4 ln4 lc4) lt := (hQ5.slqin (S := fun b => b < w5.heap.size) (fun g h _ => h) (fun b h => by omega)).at fun b hb _ => hk57.block b hb
  have hr7 : SlQin w7 (fun b => b < w5.heap.size) (.slice ka4 kn4 kc4) kt := (hR5.slqin (S := fun b => b < w5.heap.size) (fun g h _ => h) (fun b h => by omega)).at fun b hb _ => hk57.block b hb
  clear hga hka hsa hkb hsb hk57 hQ5 hR5 hQ7 hR7 hk4 hk5
  generalize hg : w5.heap.size = ga at *
  have HG := Lib.hid hg
  have hw57 : w.heap.size ≤ ga := by rw [← hg]; exact hw5.size
  clear hg
  refine (add_any ga (ga + 1) _ (.slice none 0 0) lt [] w7 hga' (Own.nil _ _ _) (Nat.lt_succ_self _) (by omega) (hq7.weak fun b hb => ⟨by omega, by simp [Value.ownBlock], by omega⟩) HFL.out (by rw [List.length_nil]; omega)).mono ?_
  rintro e w8 ⟨rfl, sva, hga8, hOa8, hwa, hb8⟩
  rw [List.nil_append] at hOa8
  have hT8 : ∀ b, b ≠ ga → ¬ (b = ga ∨ (Value.slice none 0 0).ownBlock = some b) := fun b hb h => h.elim hb (fun e => by simp [Value.ownBlock] at e)
  have hgb8 := (hb8.block (ga + 1) (by omega) (hT8 _ (by omega))).trans hgb
  have hq8 := hq7.at (w' := w8) fun b hb hs => hb8.block b hb (hT8 b (by omega))
  have hr8 := hr7.at (w' := w8) fun b hb hs => hb8.block b hb (hT8 b (by omega))
  have hs8 := hb8.size
  have hw8 : Keep w w8 := hw7.trans (hb8.below w.heap.size hw7.size (fun b h => h.elim (fun e => by omega) (fun e => by simp [Value.ownBlock] at e)))
  have hwa' : ∀ g, sva.ownBlock = some g → w7.heap.size ≤ g := fun g e => (hwa g e).elim (fun e => by simp [Value.ownBlock] at e) id
  clear hga' hgb hq7 hr7 hb8 hT8 hwa hw7
  go_wp2_with fail
  refine (add_any (ga + 1) (ga + 2) _ (.slice none 0 0) kt [] w8 hgb8 (Own.nil _ _ _) (Nat.lt_succ_self _) (by omega) (hr8.weak fun b hb => ⟨by omega, by simp [Value.ownBlock], by omega⟩) HFK.out (by rw [List.length_nil]; omega)).mono ?_
  rintro e w9 ⟨rfl, svb, hgb9, hOb9, hwb, hb9⟩
  rw [List.nil_append] at hOb9
  have hT9 : ∀ b, b ≠ ga + 1 → ¬ (b = ga + 1 ∨ (Value.slice none 0 0).ownBlock = some b) := fun b hb h => h.elim hb (fun e => by simp [Value.ownBlock] at e)
  have hga9 := (hb9.block ga (by omega) (hT9 _ (by omega))).trans hga8
  have hOa9 := hOa8.at (w' := w9) fun g e hg => hb9.block g hg (hT9 g (by have := hwa' g e; omega))
  have hq9 := (hq8.at (w' := w9) fun b hb hs => hb9.block b hb (hT9 b (by omega))).slq
  have hr9 := (hr8.at (w' := w9) fun b hb hs => hb9.block b hb (hT9 b (by omega))).slq
  have hw9 : Keep w w9 := hw8.trans (hb9.below w.heap.size hw8.size (fun b h => h.elim (fun e => by omega) (fun e => by simp [Value.ownBlock] at e)))
  clear hga8 hgb8 hq8 hr8 hb9 hT9 hwb hw8 hwa' hOa8 hs8 hs7
  have hba := hOa9.slB
  have hbb := hOb9.slB
  clear hOa9 hOb9
  go_upto_region 9 with (fail)
  refine wp_region_seq ?_
  refine seqW_gives (by kernel_rfl) ?_
  refine Gives.call (by go_simp) (bytes_any ga sva (encL lt) w9 hga9 hba (by omega)) ?_
  rintro e w10 ⟨v10, rfl, hO10, hk10⟩
  refine ⟨_, rfl, ?_⟩
  obtain ⟨a10, n10, c10, rfl⟩ := hO10.slB.shape
  have hgb10 := (hk10.block _ (Array.getElem?_eq_some_iff.1 hgb9).1).trans hgb9
  have hbb10 := hbb.keep hk10
  simp only [Act.put, List.setIfInBounds_toArray, List.set_cons_zero, List.set_cons_succ]
  refine seqW_gives (by kernel_rfl) ?_
  refine Gives.call (by go_simp) (bytes_any (ga + 1) svb (encL kt) w10 hgb10 hbb10 (by omega)) ?_
  rintro e w11 ⟨v11, rfl, hO11, hk11⟩
  refine ⟨_, rfl, ?_⟩
  obtain ⟨a11, n11, c11, rfl⟩ := hO11.slB.shape
  simp only [Act.put, List.setIfInBounds_toArray, List.set_cons_zero, List.set_cons_succ]
  refine seqW_gives (by kernel_rfl) ?_
  refine Gives.appendB elemB _ _ rfl rfl rfl (hO10.keep hk11) hO11.slB (by omega) (hk10.trans' hk11).size ?_
  intro v12 w12 hO12 hg12
  have hk9 : Keep w9 w12 := (hk10.trans' hk11).trans (Own.below (hO10.keep hk11) hg12 (Nat.le_refl _) (hk10.trans' hk11).size)
  have hb12 := hO12.slB
  rw [← encL_append] at hb12
  obtain ⟨a12, n12, c12, rfl⟩ := hb12.shape
  clear hg12 hO12 hO10 hO11 hk10 hk11 hgb10 hbb10 hgb9 hga9 hba hbb
  simp only [Act.put, List.setIfInBounds_toArray, List.set_cons_zero, List.set_cons_succ]
  refine seqW_gives (by kernel_rfl) ?_
  refine Gives.call (by go_simp) (decode_any _ (encL (lt ++ kt)) w12 hb12 (by rw [encL_append, List.length_append]; omega)) ?_
  rintro e w13 ⟨v13, rfl, hq13, hk13⟩
  refine ⟨_, rfl, ?_⟩
  rw [decL_of_encL (lt ++ kt) (fun q hq => (List.mem_append.1 hq).elim (HFL.out q) (HFK.out q))] at hq13
  obtain ⟨a13, c13, rfl, -, -⟩ := hq13.form
  have hk913 := hk9.trans' hk13
  have hql := hq9.keep hk913
  have hrk := hr9.keep hk913
  have hw13 := hw9.trans' hk913
  clear hk9 hk13 hk913 hq9 hr9 hw9 hb12
  simp only [Act.put, List.setIfInBounds_toArray, List.set_cons_zero, List.set_cons_succ]
  refine seqW_pure rfl ?_
  go_big_quiet_step (fail)
  refine seqW_on ?_
  refine seqW_gives (by kernel_rfl) ?_
  refine Gives.appendQs (w0 := w13) (ps := []) (css := []) _ _ rfl rfl rfl (Keep.refl w13) (OwnK.nil w13 w13.heap.size _ 10) rfl (fun i h => absurd h (by simp)) hql (by simp only [List.length_nil]; omega) ?_
  intro v14 w14 css14 ho14 hl14 he14 hk14
  rw [List.nil_append] at hl14
  simp only [List.nil_append] at he14
  obtain ⟨a14, c14, rfl, -, -⟩ := (ho14.slc (by decide)).form
  simp only [Act.put, List.setIfInBounds_toArray, List.set_cons_zero, List.set_cons_succ]
  refine seqW_pure rfl ?_
  go_big_quiet_step (fail)
  refine seqW_on ?_
  refine seqW_gives (by kernel_rfl) ?_
  refine Gives.appendQs (w0 := w13) (ps := lt) (css := css14) _ _ rfl rfl rfl hk14 ho14 hl14 he14 hrk (by omega) ?_
  intro v15 w15 css15 ho15 hl15 he15 hk15
  have hq15 : SlQ w15 v15 (lt ++ kt) := ⟨css15, ho15.slc (by decide), hl15, fun i h h' => by
    obtain ⟨dv, e, hd⟩ := he15 i h h'
    exact ⟨dv, e, hd.keep hk15⟩⟩
  obtain ⟨a15, c15, rfl, -, -⟩ := hq15.form
  simp only [Act.put, List.setIfInBounds_toArray, List.set_cons_zero, List.set_cons_succ]
  refine seqW_gives (by kernel_rfl) ?_
  refine Gives.call (by go_simp) (same_any _ _ (lt ++ kt) (lt ++ kt) w15 (hq13.keep hk15) hq15) ?_
  rintro e w16 ⟨rfl, hk16⟩
  refine ⟨_, rfl, ?_⟩
  simp only [Act.put, List.setIfInBounds_toArray, List.set_cons_zero, List.set_cons_succ]
  refine seqW_pure rfl ?_
  go_big_quiet_step (fail)
  refine seqW_on ?_
  refine seqW_done ?_
  go_wp2
  go_ret
  exact ⟨ret_bool (by simp), (hw13.trans' hk15).trans' hk16⟩
end Go.Proofs.Ytndndklaaegifaa
