/- The walk of ScriptCuts. -/
import Derived.Test.YtndndklaaegifaaCutsL
namespace Go.Proofs.Ytndndklaaegifaa
open Go Go.RowKit
attribute [local irreducible] Go.wpQuiet

set_option maxRecDepth 100000 in
set_option maxHeartbeats 8000000 in
theorem scriptCuts_any (v : Value) (c0 : Int) (ls : List Rq) (w : World) (hL : SlQ w v ls) (hml : ∀ q ∈ ls, q.mask < 256 ^ 8) : Calls Try.prog 5 #[v, .int .i64 c0] w fun e w' => e = .returned (.bool true) ∧ Keep w w' := by
  obtain ⟨la, lc, rfl, -, -⟩ := hL.form
  have HFL := Lib.hid (tame_fits hml)
  clear hml
  go_enter Try.func5, Try.ntmps5
  go_wp2_with fail
  refine (fit_any w).mono ?_
  rintro e w1 ⟨rfl, hk1⟩
  have hL1 := hL.keep hk1
  clear hL
  go_wp2_with fail
  refine (light_any _ ls w1 hL1).mono ?_
  rintro e w3 ⟨b1, rfl, hb1, hk2⟩
  have hw3 := hk1.trans' hk2
  cases b1
  · go_wp2
    go_ret
    exact ⟨rfl, hw3⟩
  have H1 := Lib.hid (hb1 rfl)
  have hL3 := hL1.keep hk2
  clear hb1 hL1 hk1 hk2
  go_wp2_with fail
  refine (tame_any _ ls w3 hL3 H1.out).mono ?_
  rintro e w5 ⟨v4, rfl, hQ5, hk5⟩
  have hw5 := hw3.trans' hk5
  have hs5 := hk5.size
  have hTL := tame_len ls
  have hlen1 : (encL (ls.map tame1)).length ≤ 1045 * 50 := by have := H1.out; omega
  have hln1 : (ls.map tame1).length ≤ 50 := by rw [List.length_map]; exact H1.out
  clear hL3 hw3 hTL
  generalize ls.map tame1 = lt at *
  obtain ⟨la4, ln4, lc4, rfl⟩ := hQ5.shape
  clear H1
  go_wp2_with fail
  have hga := scr_new w5
  have hka := Keep.alloc w5 (.cells #[.slice none 0 0] 28)
  have hsa : (w5.alloc (.cells #[.slice none 0 0] 28)).heap.size = w5.heap.size + 1 := by simp
  generalize w5.alloc (.cells #[.slice none 0 0] 28) = w6 at *
  have hgb := scr_new w6
  have hkb := Keep.alloc w6 (.cells #[.slice none 0 0] 28)
  have hsb : (w6.alloc (.cells #[.slice none 0 0] 28)).heap.size = w6.heap.size + 1 := by simp
  have hga' := (hkb.block _ (Array.getElem?_eq_some_iff.1 hga).1).trans hga
  generalize w6.alloc (.cells #[.slice none 0 0] 28) = w7 at *
  have hk57 := hka.trans' hkb
  have hw7 := hw5.trans' hk57
  rw [hsa] at hgb
  have hs7 : w5.heap.size + 1 < w7.heap.size := by omega
  have hq7 : SlQin w7 (fun b => b < w5.heap.size) (.slice la4 ln4 lc4) lt := (hQ5.slqin (S := fun b => b < w5.heap.size) (fun g h _ => h) (fun b h => by omega)).at fun b hb _ => hk57.block b hb
  clear hga hka hsa hkb hsb hk57 hQ5 hk5 hs5
  generalize hg : w5.heap.size = ga at *
  have hw57 : w.heap.size ≤ ga := by rw [← hg]; exact hw5.size
  clear hg hw5
  refine (add_any ga (ga + 1) _ (.slice none 0 0) lt [] w7 hga' (Own.nil _ _ _) (Nat.lt_succ_self _) (by omega) (hq7.weak fun b hb => ⟨by omega, by simp [Value.ownBlock], by omega⟩) HFL.out (by rw [List.length_nil]; omega)).mono ?_
  rintro e w8 ⟨rfl, sva, hga8, hOa8, hwa, hb8⟩
  rw [List.nil_append] at hOa8
  have hT8 : ∀ b, b ≠ ga → ¬ (b = ga ∨ (Value.slice none 0 0).ownBlock = some b) := fun b hb h => h.elim hb (fun e => by simp [Value.ownBlock] at e)
  have hgb8 := (hb8.block (ga + 1) (by omega) (hT8 _ (by omega))).trans hgb
  have hq8 := hq7.at (w' := w8) fun b hb hs => hb8.block b hb (hT8 b (by omega))
  have hw8 : Keep w w8 := hw7.trans (hb8.below w.heap.size hw7.size (fun b h => h.elim (fun e => by omega) (fun e => by simp [Value.ownBlock] at e)))
  clear hga' hgb hq7 hb8 hT8 hwa hw7 hs7
  have hlnform : ln4 = lt.length := by
    obtain ⟨a, c, e, -⟩ := hq8.slq.form
    simp only [Value.slice.injEq] at e
    exact e.2.1
  subst hlnform
  have hlc4 : lt.length ≤ lc4 := by
    obtain ⟨lax, lcx, ex, -, hcx⟩ := hq8.slq.form
    simp only [Value.slice.injEq] at ex
    omega
  go_wp2_with fail
  refine (bytes_any ga sva (encL lt) w8 hga8 hOa8.slB (by omega)).mono ?_
  rintro e w9 ⟨v9, rfl, hO9, hk9⟩
  have hb9 := hO9.slB
  have hgb9 := (hk9.block _ (Array.getElem?_eq_some_iff.1 hgb8).1).trans hgb8
  have hq9 := hq8.at (w' := w9) fun b hb _ => hk9.block b hb
  have hw9 := hw8.trans' hk9
  obtain ⟨a9, c9, rfl, -, hc9, -⟩ := hb9.form
  clear hga8 hOa8 hgb8 hq8 hw8 hO9 hk9
  obtain ⟨n, hn⟩ : ∃ n, (encL lt).length = n := ⟨_, rfl⟩
  rw [hn] at hb9 hc9 hlen1 ⊢
  have HN := Lib.hid hn
  clear hn
  have t9 : ((n : Int) + 1 == 0) = false := by rw [beq_eq_false_iff_ne]; omega
  go_upto_region 10 with (fail)
  obtain ⟨k, hkn, hke⟩ := cut_at c0 n (by omega)
  rw [hke]
  clear hke t9
  go_wp2_with fail
  refine (decode_any _ ((encL lt).take k) w9 (hb9.first k hkn) (by rw [List.length_take]; omega)).mono ?_
  rintro e w10 ⟨v10, rfl, hG10, hk10⟩
  obtain ⟨G, hGe⟩ : ∃ G, decL ((encL lt).take k) = G := ⟨_, rfl⟩
  rw [hGe] at hG10
  have HG := Lib.hid hGe
  clear hGe
  have hgb10 := (hk10.block _ (Array.getElem?_eq_some_iff.1 hgb9).1).trans hgb9
  have hG10' := hG10.off hgb10
  have hq10 := hq9.at (w' := w10) fun b hb _ => hk10.block b hb
  have hw10 := hw9.trans' hk10
  obtain ⟨aG, cG, rfl, hGm, -⟩ := hG10.form
  unfold maxLen at hGm
  have hgm : ga + 1 < w10.heap.size := (Array.getElem?_eq_some_iff.1 hgb10).1
  have hO10 : Own w10 w10.heap.size 5 (.slice none 0 0) ((encL (lt.take 0)).map B) := Own.nil _ _ _
  have hk0 : (encL (lt.take 0)).length ≤ k := Nat.zero_le _
  clear hb9 hgb9 hq9 hw9 hG10 hk10
  generalize hg : w10.heap.size = m at hgm hO10 hG10'
  have hmm : m ≤ w10.heap.size := Nat.le_of_eq hg.symm
  clear hg
  go_wp2
  go_loopw [9] (fun i wr => ∃ (j : Nat) (svb : Value), j ≤ lt.length ∧ i = .int .i64 j ∧ wr.heap[ga + 1]? = some (.cells #[svb] 28) ∧ Own wr m 5 svb ((encL (lt.take j)).map B) ∧ SlQin wr (fun b => b < ga) (.slice la4 lt.length lc4) lt ∧ SlQin wr (fun b => b ≠ ga + 1 ∧ b < m) (.slice aG G.length cG) G ∧ (encL (lt.take j)).length ≤ k ∧ m ≤ wr.heap.size ∧ Keep w wr) (fun i _ => lt.length - (intOf i).toNat)
  case atStart => exact ⟨0, _, Nat.zero_le _, rfl, hgb10, hO10, hq10, hG10', hk0, hmm, hw10⟩
  case round =>
    obtain ⟨j, svb, hj, rfl, hgb, hOb, hq, hG, hjk, hm, hk⟩ := hrel
    clear hgb10 hO10 hq10 hG10' hk0 hmm hw10
    by_cases hjn : j < lt.length
    rotate_left
    · have hjd : ¬ ((j : Int) < (lt.length : Int)) := by omega
      have HGT : Hid (∀ h : j < lt.length, k < (encL (lt.take (j + 1))).length) := Lib.hid (fun h => absurd h hjn)
      clear hjn
      have hjc : j ≤ lc4 := by omega
      go_wp2_with fail
      have hgw := scr_new wr
      have hkw := Keep.alloc wr (.cells #[.slice none 0 0] 28)
      have hsw : wr.heap.size < (wr.alloc (.cells #[.slice none 0 0] 28)).heap.size := by simp
      have hqw := hq.at (w' := wr.alloc (.cells #[.slice none 0 0] 28)) fun b hb _ => hkw.block b hb
      have hGw := hG.at (w' := wr.alloc (.cells #[.slice none 0 0] 28)) fun b hb _ => hkw.block b hb
      have hww := hk.trans' hkw
      have hwg : w.heap.size ≤ wr.heap.size := hk.size
      clear hq hG hk hkw
      generalize wr.alloc (.cells #[.slice none 0 0] 28) = z1 at *
      generalize wr.heap.size = gw at *
      refine (add_any gw (gw + 1) _ (.slice none 0 0) (lt.take j) [] z1 hgw (Own.nil _ _ _) (Nat.lt_succ_self _) (by omega) ((hqw.first j hj).weak fun b hb => ⟨by omega, by simp [Value.ownBlock], by omega⟩) (fun q hq => HFL.out q (List.mem_of_mem_take hq)) (by rw [List.length_nil]; omega)).mono ?_
      rintro e z2 ⟨rfl, svw, hgw2, hOw2, -, hbw2⟩
      rw [List.nil_append] at hOw2
      have hnw : ∀ b, b < gw → ¬ (b = gw ∨ (Value.slice none 0 0).ownBlock = some b) := fun b hb h => h.elim (fun e => by omega) (fun e => by simp [Value.ownBlock] at e)
      have hq2 := hqw.at (w' := z2) fun b hb hs => hbw2.block b hb (hnw b (by omega))
      have hG2 := hGw.at (w' := z2) fun b hb hs => hbw2.block b hb (hnw b (by omega))
      have hw2 : Keep w z2 := hww.trans (hbw2.below w.heap.size hww.size (fun b h => h.elim (fun e => by omega) (fun e => by simp [Value.ownBlock] at e)))
      clear hqw hGw hww hgw hbw2 hnw
      go_wp2_with fail
      refine (bytes_any gw svw (encL (lt.take j)) z2 hgw2 hOw2.slB (by omega)).mono ?_
      rintro e z3 ⟨v3, rfl, hO3, hkz3⟩
      obtain ⟨a3, c3, rfl, -, hc3, -⟩ := hO3.slB.form
      have hq3 := hq2.slq.keep hkz3
      have hG3 := hG2.slq.keep hkz3
      have hw3 := hw2.trans' hkz3
      clear hq2 hG2 hw2 hkz3 hO3 hgw2 hOw2
      obtain ⟨x, hx⟩ : ∃ x, (encL (lt.take j)).length = x := ⟨_, rfl⟩
      rw [hx] at hjk hc3 ⊢
      have HX := Lib.hid hx
      clear hx
      by_cases hxk : x = k
      · have t3 : ((x : Int) == (k : Int)) = true := by rw [beq_iff_eq]; omega
        have HGE := Lib.hid (show G = lt.take j by rw [← HG.out]; exact cuts_whole lt HFL.out j k (HX.out.trans hxk))
        clear hxk
        go_wp2_with fail
        refine (same_any _ _ G (lt.take j) z3 hG3 (hq3.first j hj)).mono ?_
        rintro e z4 ⟨rfl, hk4⟩
        go_wp2
        go_ret
        exact ⟨by rw [HGE.out]; simp, hw3.trans' hk4⟩
      have t3 : ((x : Int) == (k : Int)) = false := by rw [beq_eq_false_iff_ne]; omega
      have hjl : j < lt.length := by
        rcases Nat.lt_or_ge j lt.length with h | h
        · exact h
        · exfalso
          have e1 : lt.take j = lt := List.take_of_length_le h
          have e2 := HX.out
          rw [e1, HN.out] at e2
          omega
      exfalso
      omega
    obtain ⟨b, off, rfl, dv, hdv, hdin, hcell⟩ := hq.elem j hjn
    have hfq := HFL.out lt[j] (List.getElem_mem _)
    have HTK := Lib.hid (encL_take lt j hjn)
    have hle := encL_take_le lt (j + 1)
    have hle' := hle
    rw [encL_take lt j hjn, List.length_append] at hle
    rw [HN.out] at hle hle'
    generalize lt[j] = q at *
    have x0 := hcell 0 _ rfl
    have x1 := hcell 1 _ rfl
    have x2 := hcell 2 _ rfl
    have x3 := hcell 3 _ rfl
    have x4 := hcell 4 _ rfl
    have x5 := hcell 5 _ rfl
    have x6 := hcell 6 _ rfl
    have x7 := hcell 7 _ rfl
    have x8 := hcell 8 _ rfl
    have x9 := hcell 9 _ rfl
    rw [Nat.add_zero] at x0
    obtain ⟨da, dc, rfl, -, -, -⟩ := hdv.form
    have hjl : (j : Int) < (lt.length : Int) := by omega
    clear hcell
    go_wp2_with fail
    have hkA := Keep.alloc wr (.cells #[.int .i64 q.kind, .int .i64 q.tenant, .int .i64 q.handle, .int .i64 q.table, .string ⟨q.key.toArray⟩, .string ⟨q.value.toArray⟩, .string ⟨q.to_.toArray⟩, .int .i64 q.n, .int .u64 (q.mask : Int), .slice da q.data.length dc] 34)
    have hob : ∀ g, svb.ownBlock = some g → m ≤ g ∧ g < wr.heap.size := fun g e => World.ownsRow.lt hOb g e
    have hsz : wr.heap.size < (wr.alloc (.cells #[.int .i64 q.kind, .int .i64 q.tenant, .int .i64 q.handle, .int .i64 q.table, .string ⟨q.key.toArray⟩, .string ⟨q.value.toArray⟩, .string ⟨q.to_.toArray⟩, .int .i64 q.n, .int .u64 (q.mask : Int), .slice da q.data.length dc] 34)).heap.size := by simp
    have hqq : SlQin (wr.alloc (.cells #[.int .i64 q.kind, .int .i64 q.tenant, .int .i64 q.handle, .int .i64 q.table, .string ⟨q.key.toArray⟩, .string ⟨q.value.toArray⟩, .string ⟨q.to_.toArray⟩, .int .i64 q.n, .int .u64 (q.mask : Int), .slice da q.data.length dc] 34)) (fun b => b ≠ ga + 1 ∧ svb.ownBlock ≠ some b ∧ b < (wr.alloc (.cells #[.int .i64 q.kind, .int .i64 q.tenant, .int .i64 q.handle, .int .i64 q.table, .string ⟨q.key.toArray⟩, .string ⟨q.value.toArray⟩, .string ⟨q.to_.toArray⟩, .int .i64 q.n, .int .u64 (q.mask : Int), .slice da q.data.length dc] 34)).heap.size) (.slice (some ⟨wr.heap.size, 0, none⟩) 1 1) [q] :=
      SlQin.laid wr _ q da q.data.length dc hdv ⟨by omega, fun e => by have := (hob _ e).2; omega, hsz⟩ (fun hne => (hdin hne).mono fun b hb => ⟨by omega, fun e => by have := (hob _ e).1; omega, by omega⟩)
    have hgb2 := (hkA.block _ (Array.getElem?_eq_some_iff.1 hgb).1).trans hgb
    have hOb2 := hOb.keep hkA
    have hq2 := hq.at (w' := (wr.alloc (.cells #[.int .i64 q.kind, .int .i64 q.tenant, .int .i64 q.handle, .int .i64 q.table, .string ⟨q.key.toArray⟩, .string ⟨q.value.toArray⟩, .string ⟨q.to_.toArray⟩, .int .i64 q.n, .int .u64 (q.mask : Int), .slice da q.data.length dc] 34))) fun b hb _ => hkA.block b hb
    have hG2 := hG.at (w' := (wr.alloc (.cells #[.int .i64 q.kind, .int .i64 q.tenant, .int .i64 q.handle, .int .i64 q.table, .string ⟨q.key.toArray⟩, .string ⟨q.value.toArray⟩, .string ⟨q.to_.toArray⟩, .int .i64 q.n, .int .u64 (q.mask : Int), .slice da q.data.length dc] 34))) fun b hb _ => hkA.block b hb
    have hk2 := hk.trans' hkA
    clear x0 x1 x2 x3 x4 x5 x6 x7 x8 x9 hkA hgb hOb hq hG hk hdv hdin hob
    have hm2 : m ≤ (wr.alloc (.cells #[.int .i64 q.kind, .int .i64 q.tenant, .int .i64 q.handle, .int .i64 q.table, .string ⟨q.key.toArray⟩, .string ⟨q.value.toArray⟩, .string ⟨q.to_.toArray⟩, .int .i64 q.n, .int .u64 (q.mask : Int), .slice da q.data.length dc] 34)).heap.size := by omega
    generalize wr.alloc (.cells #[.int .i64 q.kind, .int .i64 q.tenant, .int .i64 q.handle, .int .i64 q.table, .string ⟨q.key.toArray⟩, .string ⟨q.value.toArray⟩, .string ⟨q.to_.toArray⟩, .int .i64 q.n, .int .u64 (q.mask : Int), .slice da q.data.length dc] 34) = y2 at *
    generalize wr.heap.size = gy at *
    clear hm
    refine (add_any (ga + 1) m _ svb [q] (encL (lt.take j)) y2 hgb2 hOb2 hgm hm2 hqq (by intro p hp; rw [List.mem_singleton.1 hp]; exact hfq) (by omega)).mono ?_
    rintro e y3 ⟨rfl, svb', hgb3, hOb3, -, hb3⟩
    rw [← HTK.out] at hOb3
    have hnb : ∀ b, b ≠ ga + 1 → b < m → ¬ (b = ga + 1 ∨ svb.ownBlock = some b) := fun b hb hbm h => h.elim (fun e => hb e) (fun e => by have := (World.ownsRow.lt hOb2 b e).1; omega)
    have hq3 := hq2.at (w' := y3) fun b hb hs => hb3.block b hb (hnb b (by omega) (by omega))
    have hG3 := hG2.at (w' := y3) fun b hb hs => hb3.block b hb (hnb b hs.1 hs.2)
    have hk3 : Keep w y3 := hk2.trans (hb3.below w.heap.size hk2.size (fun b h => h.elim (fun e => by omega) (fun e => by have := (World.ownsRow.lt hOb2 b e).1; omega)))
    have hm3 : m ≤ y3.heap.size := Nat.le_trans hm2 hb3.size
    clear hb3 hnb hgb2 hOb2 hq2 hG2 hk2 hqq hm2 hsz
    go_wp2_with fail
    refine (bytes_any (ga + 1) svb' (encL (lt.take (j + 1))) y3 hgb3 hOb3.slB (by omega)).mono ?_
    rintro e y4 ⟨v4, rfl, hO4, hk4⟩
    obtain ⟨a4, c4, rfl, -, hc4, -⟩ := hO4.slB.form
    have hgb4 := (hk4.block _ (Array.getElem?_eq_some_iff.1 hgb3).1).trans hgb3
    have hOb4 := hOb3.keep hk4
    have hq4 := hq3.at (w' := y4) fun b hb _ => hk4.block b hb
    have hG4 := hG3.at (w' := y4) fun b hb _ => hk4.block b hb
    have hw4 := hk3.trans' hk4
    have hm4 : m ≤ y4.heap.size := Nat.le_trans hm3 hk4.size
    clear hgb3 hOb3 hq3 hG3 hk3 hm3 hk4 hO4
    obtain ⟨u, hu⟩ : ∃ u, (encL (lt.take (j + 1))).length = u := ⟨_, rfl⟩
    rw [hu] at hc4 hle' ⊢
    have HU := Lib.hid hu
    clear hu
    by_cases hku : k < u
    · have tk : (k : Int) < (u : Int) := by omega
      have HGT : Hid (∀ h : j < lt.length, k < (encL (lt.take (j + 1))).length) := Lib.hid (fun h => by rw [HU.out]; exact hku)
      clear hku hgb4 hOb4 hfq hjl hjn
      have hjc : j ≤ lc4 := by omega
      go_wp2_with fail
      have hgw := scr_new y4
      have hkw := Keep.alloc y4 (.cells #[.slice none 0 0] 28)
      have hsw : y4.heap.size < (y4.alloc (.cells #[.slice none 0 0] 28)).heap.size := by simp
      have hqw := hq4.at (w' := y4.alloc (.cells #[.slice none 0 0] 28)) fun b hb _ => hkw.block b hb
      have hGw := hG4.at (w' := y4.alloc (.cells #[.slice none 0 0] 28)) fun b hb _ => hkw.block b hb
      have hww := hw4.trans' hkw
      have hwg : w.heap.size ≤ y4.heap.size := hw4.size
      clear hq4 hG4 hw4 hkw
      generalize y4.alloc (.cells #[.slice none 0 0] 28) = z1 at *
      generalize y4.heap.size = gw at *
      refine (add_any gw (gw + 1) _ (.slice none 0 0) (lt.take j) [] z1 hgw (Own.nil _ _ _) (Nat.lt_succ_self _) (by omega) ((hqw.first j hj).weak fun b hb => ⟨by omega, by simp [Value.ownBlock], by omega⟩) (fun q hq => HFL.out q (List.mem_of_mem_take hq)) (by rw [List.length_nil]; omega)).mono ?_
      rintro e z2 ⟨rfl, svw, hgw2, hOw2, -, hbw2⟩
      rw [List.nil_append] at hOw2
      have hnw : ∀ b, b < gw → ¬ (b = gw ∨ (Value.slice none 0 0).ownBlock = some b) := fun b hb h => h.elim (fun e => by omega) (fun e => by simp [Value.ownBlock] at e)
      have hq2 := hqw.at (w' := z2) fun b hb hs => hbw2.block b hb (hnw b (by omega))
      have hG2 := hGw.at (w' := z2) fun b hb hs => hbw2.block b hb (hnw b (by omega))
      have hw2 : Keep w z2 := hww.trans (hbw2.below w.heap.size hww.size (fun b h => h.elim (fun e => by omega) (fun e => by simp [Value.ownBlock] at e)))
      clear hqw hGw hww hgw hbw2 hnw
      go_wp2_with fail
      refine (bytes_any gw svw (encL (lt.take j)) z2 hgw2 hOw2.slB (by omega)).mono ?_
      rintro e z3 ⟨v3, rfl, hO3, hkz3⟩
      obtain ⟨a3, c3, rfl, -, hc3, -⟩ := hO3.slB.form
      have hq3 := hq2.slq.keep hkz3
      have hG3 := hG2.slq.keep hkz3
      have hw3 := hw2.trans' hkz3
      clear hq2 hG2 hw2 hkz3 hO3 hgw2 hOw2
      obtain ⟨x, hx⟩ : ∃ x, (encL (lt.take j)).length = x := ⟨_, rfl⟩
      rw [hx] at hjk hc3 ⊢
      have HX := Lib.hid hx
      clear hx
      by_cases hxk : x = k
      · have t3 : ((x : Int) == (k : Int)) = true := by rw [beq_iff_eq]; omega
        have HGE := Lib.hid (show G = lt.take j by rw [← HG.out]; exact cuts_whole lt HFL.out j k (HX.out.trans hxk))
        clear hxk
        go_wp2_with fail
        refine (same_any _ _ G (lt.take j) z3 hG3 (hq3.first j hj)).mono ?_
        rintro e z4 ⟨rfl, hk4⟩
        go_wp2
        go_ret
        exact ⟨by rw [HGE.out]; simp, hw3.trans' hk4⟩
      have t3 : ((x : Int) == (k : Int)) = false := by rw [beq_eq_false_iff_ne]; omega
      have hjl : j < lt.length := by
        rcases Nat.lt_or_ge j lt.length with h | h
        · exact h
        · exfalso
          have e1 : lt.take j = lt := List.take_of_length_le h
          have e2 := HX.out
          rw [e1, HN.out] at e2
          omega
      have hGe : G = lt.take j ++ [badQ] := by
        rw [← HG.out]
        exact cuts_part lt HFL.out j k hjl (by rw [HX.out]; omega) (HGT.out hjl)
      have hGl : (lt.take j ++ [badQ]).length = j + 1 := by rw [List.length_append, List.length_take]; simp; omega
      clear HG
      subst hGe
      obtain ⟨aGx, cGx, exG, -, hcGx⟩ := hG3.form
      simp only [Value.slice.injEq] at exG
      have hjG : j ≤ cG := by omega
      clear exG hcGx
      rw [hGl] at hG3 ⊢
      obtain ⟨bG, oG, rfl, dvG, -, hcell⟩ := hG3.elem j (by rw [hGl]; omega)
      have eB : (lt.take j ++ [badQ])[j]'(by rw [hGl]; omega) = badQ := by
        rw [List.getElem_append_right (by rw [List.length_take]; omega)]
        simp
      rw [eB] at hcell
      have y0 : z3.cell? ⟨bG, oG + j * 10, none⟩ = some (.int .i64 (-1)) := hcell 0 _ rfl
      have y1 : z3.cell? ⟨bG, oG + j * 10 + 1, none⟩ = some (.int .i64 0) := hcell 1 _ rfl
      have y2 : z3.cell? ⟨bG, oG + j * 10 + 2, none⟩ = some (.int .i64 0) := hcell 2 _ rfl
      have hly := World.block_lt_of_cell? z3 _ y0
      have hGf := hG3.first j (by omega)
      rw [List.take_left' (by rw [List.length_take]; omega)] at hGf
      have hqf := hq3.first j hj
      clear hcell eB hG3 hq3 hxk hGm hGl
      go_upto_region 20 with (fail)
      refine wp_region_dag' (C := fun w' => Keep z3 w') (R := Keep) [none, none, none, none, none, none, none, none, none, none, none, none, some (tV (.bool true)), none, none, none, none, none, none, some (tV (.int .i64 (-1))), none, none, none, none, none, none, none, some (tV (.int .i64 0)), none, none, none, none, none, none, none, some (tV (.int .i64 0)), none, none, none]
        (by kernel_rfl) (by kernel_rfl) (Keep.refl z3).drew ?_
      refine dagT_pure rfl ?_
      go_big_quiet_step (fail)
      refine dagT_on ?_
      refine dagT_pure rfl ?_
      go_big_quiet_step (fail)
      refine dagT_on ?_
      refine dagT_pure rfl ?_
      go_big_quiet_step (fail)
      refine dagT_on ?_
      refine dagT_pure rfl ?_
      go_big_quiet_step (fail)
      refine dagT_on ?_
      refine dagT_pure rfl ?_
      go_big_quiet_step (fail)
      refine dagT_on ?_
      refine dagT_pure rfl ?_
      go_big_quiet_step (fail)
      refine dagT_on ?_
      refine dagT_pure rfl ?_
      go_big_quiet_step (fail)
      refine dagT_on ?_
      refine dagT_pure rfl ?_
      go_big_quiet_step (fail)
      refine dagT_on ?_
      refine dagT_pure rfl ?_
      go_big_quiet_step (fail)
      refine dagT_on ?_
      refine dagT_pure rfl ?_
      go_big_quiet_step (fail)
      refine dagT_on ?_
      refine dagT_pure rfl ?_
      go_big_quiet_step (fail)
      refine dagT_on ?_
      refine dagT_pure rfl ?_
      go_big_quiet_step (fail)
      refine dagT_on ?_
      refine dagT_told (by kernel_rfl) ?_ ?_
      · intro w2 hC hF
        refine Gives.call (by go_simp) (same_any _ _ _ _ w2 (hGf.keep hC) (hqf.keep hC)) ?_
        rintro e w' ⟨rfl, hk⟩
        exact ⟨_, rfl, hC.trans' hk, hk, (by first | rfl | (show _ = _; simp))⟩
      intro vv w2 hC hF hvv
      clear hC hF
      obtain rfl := hvv
      simp only [Act.put, List.setIfInBounds_toArray, List.set_cons_zero, List.set_cons_succ]
      refine dagT_pure rfl ?_
      go_big_quiet_step (fail)
      refine dagT_on ?_
      refine dagT_pure rfl ?_
      go_big_quiet_step (fail)
      refine dagT_on ?_
      refine dagT_pure rfl ?_
      go_big_quiet_step (fail)
      refine dagT_on ?_
      refine dagT_pure rfl ?_
      go_big_quiet_step (fail)
      refine dagT_on ?_
      refine dagT_pure rfl ?_
      go_big_quiet_step (fail)
      refine dagT_on ?_
      refine dagT_pure rfl ?_
      go_big_quiet_step (fail)
      refine dagT_on ?_
      refine dagT_told (by kernel_rfl) ?_ ?_
      · intro w2 hC hF
        have v0 := (hC.cell (p := ⟨bG, oG + j * 10, none⟩) hly).trans y0
        exact Gives.value (v := .int .i64 (-1)) (w' := w2) (by go_simp) ⟨hC, Keep.refl _, rfl⟩
      intro vv w2 hC hF hvv
      clear hC hF
      obtain rfl := hvv
      simp only [Act.put, List.setIfInBounds_toArray, List.set_cons_zero, List.set_cons_succ]
      refine dagT_pure rfl ?_
      go_big_quiet_step (fail)
      refine dagT_on ?_
      refine dagT_pure rfl ?_
      go_big_quiet_step (fail)
      refine dagT_on ?_
      refine dagT_pure rfl ?_
      go_big_quiet_step (fail)
      refine dagT_on ?_
      refine dagT_pure rfl ?_
      go_big_quiet_step (fail)
      refine dagT_on ?_
      refine dagT_pure rfl ?_
      go_big_quiet_step (fail)
      refine dagT_on ?_
      refine dagT_pure rfl ?_
      go_big_quiet_step (fail)
      refine dagT_on ?_
      refine dagT_pure rfl ?_
      go_big_quiet_step (fail)
      refine dagT_on ?_
      refine dagT_told (by kernel_rfl) ?_ ?_
      · intro w2 hC hF
        have v0 := (hC.cell (p := ⟨bG, oG + j * 10 + 1, none⟩) hly).trans y1
        exact Gives.value (v := .int .i64 0) (w' := w2) (by go_simp) ⟨hC, Keep.refl _, rfl⟩
      intro vv w2 hC hF hvv
      clear hC hF
      obtain rfl := hvv
      simp only [Act.put, List.setIfInBounds_toArray, List.set_cons_zero, List.set_cons_succ]
      refine dagT_pure rfl ?_
      go_big_quiet_step (fail)
      refine dagT_on ?_
      refine dagT_pure rfl ?_
      go_big_quiet_step (fail)
      refine dagT_on ?_
      refine dagT_pure rfl ?_
      go_big_quiet_step (fail)
      refine dagT_on ?_
      refine dagT_pure rfl ?_
      go_big_quiet_step (fail)
      refine dagT_on ?_
      refine dagT_pure rfl ?_
      go_big_quiet_step (fail)
      refine dagT_on ?_
      refine dagT_pure rfl ?_
      go_big_quiet_step (fail)
      refine dagT_on ?_
      refine dagT_pure rfl ?_
      go_big_quiet_step (fail)
      refine dagT_on ?_
      refine dagT_told (by kernel_rfl) ?_ ?_
      · intro w2 hC hF
        have v0 := (hC.cell (p := ⟨bG, oG + j * 10 + 2, none⟩) hly).trans y2
        exact Gives.value (v := .int .i64 0) (w' := w2) (by go_simp) ⟨hC, Keep.refl _, rfl⟩
      intro vv w2 hC hF hvv
      clear hC hF
      obtain rfl := hvv
      simp only [Act.put, List.setIfInBounds_toArray, List.set_cons_zero, List.set_cons_succ]
      refine dagT_pure rfl ?_
      go_big_quiet_step (fail)
      refine dagT_on ?_
      refine dagT_pure rfl ?_
      go_big_quiet_step (fail)
      refine dagT_on ?_
      refine dagT_pure rfl ?_
      go_big_quiet_step (fail)
      refine dagT_on ?_
      refine dagT_done fun w2 hC hF => ?_
      clear hF
      go_wp2
      go_ret
      exact ⟨rfl, hw3.trans' hC⟩
    have tk : ¬ ((k : Int) < (u : Int)) := by omega
    go_wp2
    go_roundw
    case rel => exact ⟨j + 1, svb', by omega, by go_num, hgb4, hOb4, hq4, hG4, by rw [HU.out]; omega, hm4, hw4⟩
    case measure => simp [intOf]; omega
end Go.Proofs.Ytndndklaaegifaa
