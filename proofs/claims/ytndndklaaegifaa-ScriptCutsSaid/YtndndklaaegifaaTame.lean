/- The walk of tame. -/
import Derived.Test.YtndndklaaegifaaTameL
import Derived.Test.YtndndklaaegifaaAdd
namespace Go.Proofs.Ytndndklaaegifaa
open Go Go.RowKit
attribute [local irreducible] Go.wpQuiet Go.bits

theorem in_is' {S : Nat → Prop} {v : Value} (h : ∀ g, v.ownBlock = some g → S g) : In S v := fun a n c e => h _ (by rw [e]; rfl)
/-- bytes that are there lie in blocks that are there -/
theorem SlB.there {w : World} {v : Value} {l : List UInt8} (h : SlB w v l) (hne : l ≠ []) : In (fun b => b < w.heap.size) v := by
  intro a n c ev
  obtain ⟨ao, cap, hv, _, _, hc⟩ := h
  have h0 : 0 < (l.map B).length := by
    rw [List.length_map]
    exact List.length_pos_iff.2 hne
  obtain ⟨b, off, ha, hcell⟩ := hc 0 h0
  rw [hv] at ev
  simp only [Value.slice.injEq] at ev
  rw [ha] at ev
  have e1 := ev.1
  simp only [Option.some.injEq] at e1
  rw [← e1]
  exact World.block_lt_of_cell? w _ hcell
/-- some of a block's cells -/
def oCells (gq : Nat) (cs : List (Nat × Value)) : Tell := ⟨fun _ w S => S gq ∧ gq < w.heap.size ∧ ∀ p ∈ cs, w.cell? ⟨gq, p.1, none⟩ = some p.2, fun _ w w' S S' hs hb ⟨h1, h2, h3⟩ =>
  have h := hb gq h2 h1
  ⟨h.1, Nat.lt_of_lt_of_le h2 hs, fun p hp => (World.cell?_of_block (w := w) (a := ⟨gq, p.1, none⟩) h.2).trans (h3 p hp)⟩⟩
theorem told_cell {P : Program} {acc con : Array Nat} {n : Nat} {C : World → Prop} {i : Nat} {o : Oper} {F : Nat → Fact} {a : Act} (gq c : Nat) (val : Value) (K : Nat) (cs : List (Nat × Value)) (hn : n ≤ gq) (hne : ∀ p ∈ cs, p.1 ≠ c)
    (hC : ∀ w, C w → C (w.setCell ⟨gq, c, none⟩ val) ∧ (w.setCell ⟨gq, c, none⟩ val).cell? ⟨gq, c, none⟩ = some val) (hK : (con.getD i 0).testBit K = true)
    (hr : ∀ w, C w → (execOp a.eval o).run P w = .ok .skip (w.setCell ⟨gq, c, none⟩ val))
    (hF : ∀ w own, C w → (∀ k, (acc.getD i 0).testBit k = true → F k w (blocksOf n own k)) → ∃ u, (oCells gq cs).φ u w (blocksOf n own K)) :
    toldAt P acc con n C i o (oCells gq ((c, val) :: cs)) F a := by
  intro w own hCw hf
  obtain ⟨_, h1, h2, h3⟩ := hF w own hCw hf
  have hown : own gq = K := h1.elim (fun h => absurd h (by omega)) id
  obtain ⟨hC1, hC2⟩ := hC w hCw
  refine Gives.skip (hr w hCw) ⟨hC1, ⟨by simp [World.setCell], fun b hb hor => Below.heap_setCell _ _ _ _ fun e => ?_⟩, .inr ?_, by simpa [World.setCell] using h2, fun p hp => ?_⟩
  · simp only at e
    subst e
    rcases hor with h | h
    · omega
    · rw [hown, hK] at h; cases h
  · unfold ownNext
    rw [if_pos (.inr (by rw [hown]; exact hK))]
  · rcases List.mem_cons.1 hp with rfl | hp
    · exact hC2
    · rw [← h3 p hp]
      exact World.cell?_setCell_other w _ _ val (by intro h; simp only [Addr.mk.injEq] at h; exact hne p hp (by omega))
/-- a request some of whose texts are cut -/
def TC (gq : Nat) (w5 : World) (q : Rq) (dv : Value) (w' : World) : Prop := ButS w5 w' (fun b => b = gq) ∧ ∃ k v t : List UInt8, (k = q.key ∨ k = q.key.take 255) ∧ (v = q.value ∨ v = q.value.take 255) ∧ (t = q.to_ ∨ t = q.to_.take 255) ∧
  RqAt w' gq ⟨q.kind, q.tenant, q.handle, q.table, k, v, t, q.n, q.mask, q.data⟩ dv
theorem TC.refl {gq : Nat} {w5 : World} {q : Rq} {dv : Value} (h : RqAt w5 gq q dv) : TC gq w5 q dv w5.drew := ⟨(ButS.refl w5 _).drew, q.key, q.value, q.to_, .inl rfl, .inl rfl, .inl rfl, h⟩
theorem oCells_nil (u : Value) {gq : Nat} {w : World} (h : gq < w.heap.size) : (oCells gq []).φ u w.drew (fun _ => True) := ⟨trivial, h, fun p hp => by cases hp⟩
theorem extract_take (L : List UInt8) (n : Nat) : (⟨L.toArray⟩ : ByteArray).extract 0 n = ⟨(L.take n).toArray⟩ := by
  apply ByteArray.ext
  rw [ByteArray.data_extract]
  simp
def oStr (o : List UInt8) : Tell := oP (fun v => ∃ L : List UInt8, v = .string ⟨L.toArray⟩ ∧ (L = o ∨ L = o.take 255))
theorem cut_min {L o : List UInt8} (h : L = o ∨ L = o.take 255) : min L.length 255 = min o.length 255 := by
  rcases h with rfl | rfl
  · rfl
  · rw [List.length_take]; omega
theorem cut_text {L o : List UInt8} (h : L = o ∨ L = o.take 255) : L.take (min o.length 255) = o.take 255 := by
  rcases h with rfl | rfl
  · rcases Nat.le_total L.length 255 with h | h
    · rw [Nat.min_eq_left h, List.take_length, List.take_of_length_le h]
    · rw [Nat.min_eq_right h]
  · rw [List.take_take]
    rcases Nat.le_total o.length 255 with h | h
    · rw [Nat.min_eq_left h, List.take_of_length_le h, Nat.min_eq_left h, List.take_length]
    · rw [Nat.min_eq_right h, Nat.min_self]
theorem OwnQ.shape {w : World} {base : Nat} {X : Nat → Prop} {v : Value} {qs : List Rq} (h : OwnQ w base X v qs) : ∃ a n c, v = .slice a n c := by
  obtain ⟨a, c, e, _⟩ := h.slq.form
  exact ⟨_, _, _, e⟩
theorem TC.set4 {gq : Nat} {w5 w : World} {q : Rq} {dv : Value} (h : TC gq w5 q dv w) : TC gq w5 q dv (w.setCell ⟨gq, 4, none⟩ (.string ⟨(q.key.take 255).toArray⟩)) ∧ (w.setCell ⟨gq, 4, none⟩ (.string ⟨(q.key.take 255).toArray⟩)).cell? ⟨gq, 4, none⟩ = some (.string ⟨(q.key.take 255).toArray⟩) := by
  obtain ⟨hB, k, v, t, hk, hv, ht, hR⟩ := h
  have h1 : RqAt (w.setCell ⟨gq, 4, none⟩ (.string ⟨(q.key.take 255).toArray⟩)) gq ⟨q.kind, q.tenant, q.handle, q.table, q.key.take 255, v, t, q.n, q.mask, q.data⟩ dv := hR.set 4 _ rfl
  exact ⟨⟨hB.set _ _ rfl, _, v, t, .inr rfl, hv, ht, h1⟩, h1.cells.2.2.2.2.1⟩
theorem TC.set5 {gq : Nat} {w5 w : World} {q : Rq} {dv : Value} (h : TC gq w5 q dv w) : TC gq w5 q dv (w.setCell ⟨gq, 5, none⟩ (.string ⟨(q.value.take 255).toArray⟩)) ∧ (w.setCell ⟨gq, 5, none⟩ (.string ⟨(q.value.take 255).toArray⟩)).cell? ⟨gq, 5, none⟩ = some (.string ⟨(q.value.take 255).toArray⟩) := by
  obtain ⟨hB, k, v, t, hk, hv, ht, hR⟩ := h
  have h1 : RqAt (w.setCell ⟨gq, 5, none⟩ (.string ⟨(q.value.take 255).toArray⟩)) gq ⟨q.kind, q.tenant, q.handle, q.table, k, q.value.take 255, t, q.n, q.mask, q.data⟩ dv := hR.set 5 _ rfl
  exact ⟨⟨hB.set _ _ rfl, k, _, t, hk, .inr rfl, ht, h1⟩, h1.cells.2.2.2.2.2.1⟩
theorem TC.set6 {gq : Nat} {w5 w : World} {q : Rq} {dv : Value} (h : TC gq w5 q dv w) : TC gq w5 q dv (w.setCell ⟨gq, 6, none⟩ (.string ⟨(q.to_.take 255).toArray⟩)) ∧ (w.setCell ⟨gq, 6, none⟩ (.string ⟨(q.to_.take 255).toArray⟩)).cell? ⟨gq, 6, none⟩ = some (.string ⟨(q.to_.take 255).toArray⟩) := by
  obtain ⟨hB, k, v, t, hk, hv, ht, hR⟩ := h
  have h1 : RqAt (w.setCell ⟨gq, 6, none⟩ (.string ⟨(q.to_.take 255).toArray⟩)) gq ⟨q.kind, q.tenant, q.handle, q.table, k, v, q.to_.take 255, q.n, q.mask, q.data⟩ dv := hR.set 6 _ rfl
  exact ⟨⟨hB.set _ _ rfl, k, v, _, hk, hv, .inr rfl, h1⟩, h1.cells.2.2.2.2.2.2.1⟩
theorem str_inj {a b : List UInt8} (h : (some (Value.string ⟨a.toArray⟩)) = some (Value.string ⟨b.toArray⟩)) : a = b := by
  simpa using h
/-- all three cut -/
theorem TC.done {gq : Nat} {w5 w : World} {q : Rq} {dv : Value} (h : TC gq w5 q dv w) (h4 : w.cell? ⟨gq, 4, none⟩ = some (.string ⟨(q.key.take 255).toArray⟩)) (h5 : w.cell? ⟨gq, 5, none⟩ = some (.string ⟨(q.value.take 255).toArray⟩)) (h6 : w.cell? ⟨gq, 6, none⟩ = some (.string ⟨(q.to_.take 255).toArray⟩)) :
    ButS w5 w (fun b => b = gq) ∧ RqAt w gq ⟨q.kind, q.tenant, q.handle, q.table, q.key.take 255, q.value.take 255, q.to_.take 255, q.n, q.mask, q.data⟩ dv := by
  obtain ⟨hB, k, v, t, hk, hv, ht, hR⟩ := h
  obtain ⟨-, -, -, -, e4, e5, e6, -⟩ := hR.cells
  have f4 := str_inj (e4.symm.trans h4)
  have f5 := str_inj (e5.symm.trans h5)
  have f6 := str_inj (e6.symm.trans h6)
  subst f4 f5 f6
  exact ⟨hB, hR⟩
def lenOfT : Value → Nat
  | .slice _ n _ => n
  | _ => 0

set_option maxRecDepth 100000 in
set_option maxHeartbeats 8000000 in
theorem tame_any (v : Value) (qs : List Rq) (w : World) (hS : SlQ w v qs) (h50 : qs.length ≤ 50) : Calls Try.prog 10 #[v] w fun e w' => ∃ v', e = .returned v' ∧ OwnQ w' w.heap.size (fun b => b < w.heap.size) v' (qs.map tame1) ∧ Keep w w' := by
  obtain ⟨qa, qc, rfl, hm, hc⟩ := hS.form
  clear hm
  have H50 := Lib.hid h50
  have HT := Lib.hid (rfl : tame1 = tame1)
  go_enter Try.func10, Try.ntmps10
  go_wp2
  go_loopw [3, 8] (fun o i wr => ∃ j : Nat, j ≤ qs.length ∧ i = .int .i64 j ∧ OwnQ wr w.heap.size (fun b => b < w.heap.size) o ((qs.take j).map tame1) ∧ Keep w wr) (fun _ i _ => qs.length - (intOf i).toNat)
  case atStart => exact ⟨0, Nat.zero_le _, rfl, OwnQ.nil _ _ _, Keep.refl w⟩
  case round =>
    obtain ⟨j, hj, rfl, hO, hk⟩ := hrel
    obtain ⟨oa, on, oc, rfl⟩ := hO.shape
    by_cases hjn : j < qs.length
    rotate_left
    · have hjl : j = qs.length := by omega
      rw [hjl, List.take_length] at hO
      have hjd : ¬ ((j : Int) < (qs.length : Int)) := by omega
      clear hjl hjn h50
      go_wp2
      exact bodyPost_ret (v := .slice oa on oc) (by simp [results, Try.results10, go_sem]) rfl ⟨_, rfl, hO, hk⟩
    have hlen : ((qs.take j).map tame1).length = j := by rw [List.length_map, List.length_take]; omega
    have htk : (qs.take (j + 1)).map tame1 = (qs.take j).map tame1 ++ [tame1 qs[j]] := by
      rw [List.take_add_one, List.getElem?_eq_getElem hjn, List.map_append]
      rfl
    have hel := hS.elem j hjn
    obtain ⟨b, off, rfl, dv, hdv, hcell⟩ := hel
    generalize qs[j] = q at *
    have HTK := Lib.hid htk
    clear htk
    generalize (qs.take j).map tame1 = outs at *
    have x0 := (hk.cell (World.block_lt_of_cell? w _ (hcell 0 _ rfl))).trans (hcell 0 _ rfl)
    have x1 := (hk.cell (World.block_lt_of_cell? w _ (hcell 1 _ rfl))).trans (hcell 1 _ rfl)
    have x2 := (hk.cell (World.block_lt_of_cell? w _ (hcell 2 _ rfl))).trans (hcell 2 _ rfl)
    have x3 := (hk.cell (World.block_lt_of_cell? w _ (hcell 3 _ rfl))).trans (hcell 3 _ rfl)
    have x4 := (hk.cell (World.block_lt_of_cell? w _ (hcell 4 _ rfl))).trans (hcell 4 _ rfl)
    have x5 := (hk.cell (World.block_lt_of_cell? w _ (hcell 5 _ rfl))).trans (hcell 5 _ rfl)
    have x6 := (hk.cell (World.block_lt_of_cell? w _ (hcell 6 _ rfl))).trans (hcell 6 _ rfl)
    have x7 := (hk.cell (World.block_lt_of_cell? w _ (hcell 7 _ rfl))).trans (hcell 7 _ rfl)
    have x8 := (hk.cell (World.block_lt_of_cell? w _ (hcell 8 _ rfl))).trans (hcell 8 _ rfl)
    have x9 := (hk.cell (World.block_lt_of_cell? w _ (hcell 9 _ rfl))).trans (hcell 9 _ rfl)
    rw [Nat.add_zero] at x0
    obtain ⟨da, dc, rfl, hdm, hdc, -⟩ := hdv.form
    have hjl : (j : Int) < (qs.length : Int) := by omega
    clear hcell
    go_upto_region 5 with (fail)
    have hA3 : RqAt (wr.alloc (.cells #[.int .i64 q.kind, .int .i64 q.tenant, .int .i64 q.handle, .int .i64 q.table, .string ⟨q.key.toArray⟩, .string ⟨q.value.toArray⟩, .string ⟨q.to_.toArray⟩, .int .i64 q.n, .int .u64 (q.mask : Int), .slice da q.data.length dc] 34)) wr.heap.size q (.slice da q.data.length dc) := heap_alloc_new wr _
    have hk3 := Keep.alloc wr (.cells #[.int .i64 q.kind, .int .i64 q.tenant, .int .i64 q.handle, .int .i64 q.table, .string ⟨q.key.toArray⟩, .string ⟨q.value.toArray⟩, .string ⟨q.to_.toArray⟩, .int .i64 q.n, .int .u64 (q.mask : Int), .slice da q.data.length dc] 34)
    have hol : (Value.slice oa on oc).ownBlock ≠ some wr.heap.size := fun e => Nat.lt_irrefl _ (hO.lt _ e).2
    have hO3 := hO.keep hk3
    have hkw3 := hk.trans' hk3
    have hgw : w.heap.size ≤ wr.heap.size := hk.size
    clear x0 x1 x2 x3 x4 x5 x6 x7 x8 x9 hO hk hk3
    generalize wr.alloc (.cells #[.int .i64 q.kind, .int .i64 q.tenant, .int .i64 q.handle, .int .i64 q.table, .string ⟨q.key.toArray⟩, .string ⟨q.value.toArray⟩, .string ⟨q.to_.toArray⟩, .int .i64 q.n, .int .u64 (q.mask : Int), .slice da q.data.length dc] 34) = w3 at *
    generalize wr.heap.size = gq at *
    obtain ⟨c0_0, c0_1, c0_2, c0_3, c0_4, c0_5, c0_6, c0_7, c0_8, c0_9⟩ := hA3.cells
    have z0 := hA3.free 0
    have hA_0 : RqAt (w3.setCell ⟨gq, 0, none⟩ (.int .i64 (Go.bits .and .i64 q.kind 255))) gq ⟨Go.bits .and .i64 q.kind 255, q.tenant, q.handle, q.table, q.key, q.value, q.to_, q.n, q.mask, q.data⟩ (.slice da q.data.length dc) := hA3.set 0 _ rfl
    have hO_0 := hO3.but (But.setCell w3 gq 0 (.int .i64 (Go.bits .and .i64 q.kind 255))) hol (fun h => by omega)
    have hk_0 : Keep w (w3.setCell ⟨gq, 0, none⟩ (.int .i64 (Go.bits .and .i64 q.kind 255))) := Keep.setCell hkw3 hgw _
    obtain ⟨c1_0, c1_1, c1_2, c1_3, c1_4, c1_5, c1_6, c1_7, c1_8, c1_9⟩ := hA_0.cells
    have z1 := hA_0.free 1
    have hA_1 : RqAt ((w3.setCell ⟨gq, 0, none⟩ (.int .i64 (Go.bits .and .i64 q.kind 255))).setCell ⟨gq, 1, none⟩ (.int .i64 (Go.bits .and .i64 q.tenant 255))) gq ⟨Go.bits .and .i64 q.kind 255, Go.bits .and .i64 q.tenant 255, q.handle, q.table, q.key, q.value, q.to_, q.n, q.mask, q.data⟩ (.slice da q.data.length dc) := hA_0.set 1 _ rfl
    have hO_1 := hO_0.but (But.setCell (w3.setCell ⟨gq, 0, none⟩ (.int .i64 (Go.bits .and .i64 q.kind 255))) gq 1 (.int .i64 (Go.bits .and .i64 q.tenant 255))) hol (fun h => by omega)
    have hk_1 : Keep w ((w3.setCell ⟨gq, 0, none⟩ (.int .i64 (Go.bits .and .i64 q.kind 255))).setCell ⟨gq, 1, none⟩ (.int .i64 (Go.bits .and .i64 q.tenant 255))) := Keep.setCell hk_0 hgw _
    obtain ⟨c2_0, c2_1, c2_2, c2_3, c2_4, c2_5, c2_6, c2_7, c2_8, c2_9⟩ := hA_1.cells
    have z2 := hA_1.free 3
    have hA_2 : RqAt (((w3.setCell ⟨gq, 0, none⟩ (.int .i64 (Go.bits .and .i64 q.kind 255))).setCell ⟨gq, 1, none⟩ (.int .i64 (Go.bits .and .i64 q.tenant 255))).setCell ⟨gq, 3, none⟩ (.int .i64 (Go.bits .and .i64 q.table 255))) gq ⟨Go.bits .and .i64 q.kind 255, Go.bits .and .i64 q.tenant 255, q.handle, Go.bits .and .i64 q.table 255, q.key, q.value, q.to_, q.n, q.mask, q.data⟩ (.slice da q.data.length dc) := hA_1.set 3 _ rfl
    have hO_2 := hO_1.but (But.setCell ((w3.setCell ⟨gq, 0, none⟩ (.int .i64 (Go.bits .and .i64 q.kind 255))).setCell ⟨gq, 1, none⟩ (.int .i64 (Go.bits .and .i64 q.tenant 255))) gq 3 (.int .i64 (Go.bits .and .i64 q.table 255))) hol (fun h => by omega)
    have hk_2 : Keep w (((w3.setCell ⟨gq, 0, none⟩ (.int .i64 (Go.bits .and .i64 q.kind 255))).setCell ⟨gq, 1, none⟩ (.int .i64 (Go.bits .and .i64 q.tenant 255))).setCell ⟨gq, 3, none⟩ (.int .i64 (Go.bits .and .i64 q.table 255))) := Keep.setCell hk_1 hgw _
    obtain ⟨c3_0, c3_1, c3_2, c3_3, c3_4, c3_5, c3_6, c3_7, c3_8, c3_9⟩ := hA_2.cells
    have z3 := hA_2.free 2
    have hA_3 : RqAt ((((w3.setCell ⟨gq, 0, none⟩ (.int .i64 (Go.bits .and .i64 q.kind 255))).setCell ⟨gq, 1, none⟩ (.int .i64 (Go.bits .and .i64 q.tenant 255))).setCell ⟨gq, 3, none⟩ (.int .i64 (Go.bits .and .i64 q.table 255))).setCell ⟨gq, 2, none⟩ (.int .i64 (Go.bits .and .i64 q.handle 4611686018427387903))) gq ⟨Go.bits .and .i64 q.kind 255, Go.bits .and .i64 q.tenant 255, Go.bits .and .i64 q.handle 4611686018427387903, Go.bits .and .i64 q.table 255, q.key, q.value, q.to_, q.n, q.mask, q.data⟩ (.slice da q.data.length dc) := hA_2.set 2 _ rfl
    have hO_3 := hO_2.but (But.setCell (((w3.setCell ⟨gq, 0, none⟩ (.int .i64 (Go.bits .and .i64 q.kind 255))).setCell ⟨gq, 1, none⟩ (.int .i64 (Go.bits .and .i64 q.tenant 255))).setCell ⟨gq, 3, none⟩ (.int .i64 (Go.bits .and .i64 q.table 255))) gq 2 (.int .i64 (Go.bits .and .i64 q.handle 4611686018427387903))) hol (fun h => by omega)
    have hk_3 : Keep w ((((w3.setCell ⟨gq, 0, none⟩ (.int .i64 (Go.bits .and .i64 q.kind 255))).setCell ⟨gq, 1, none⟩ (.int .i64 (Go.bits .and .i64 q.tenant 255))).setCell ⟨gq, 3, none⟩ (.int .i64 (Go.bits .and .i64 q.table 255))).setCell ⟨gq, 2, none⟩ (.int .i64 (Go.bits .and .i64 q.handle 4611686018427387903))) := Keep.setCell hk_2 hgw _
    obtain ⟨c4_0, c4_1, c4_2, c4_3, c4_4, c4_5, c4_6, c4_7, c4_8, c4_9⟩ := hA_3.cells
    have z4 := hA_3.free 7
    have hA_4 : RqAt (((((w3.setCell ⟨gq, 0, none⟩ (.int .i64 (Go.bits .and .i64 q.kind 255))).setCell ⟨gq, 1, none⟩ (.int .i64 (Go.bits .and .i64 q.tenant 255))).setCell ⟨gq, 3, none⟩ (.int .i64 (Go.bits .and .i64 q.table 255))).setCell ⟨gq, 2, none⟩ (.int .i64 (Go.bits .and .i64 q.handle 4611686018427387903))).setCell ⟨gq, 7, none⟩ (.int .i64 (Go.bits .and .i64 q.n 65535))) gq ⟨Go.bits .and .i64 q.kind 255, Go.bits .and .i64 q.tenant 255, Go.bits .and .i64 q.handle 4611686018427387903, Go.bits .and .i64 q.table 255, q.key, q.value, q.to_, Go.bits .and .i64 q.n 65535, q.mask, q.data⟩ (.slice da q.data.length dc) := hA_3.set 7 _ rfl
    have hO_4 := hO_3.but (But.setCell ((((w3.setCell ⟨gq, 0, none⟩ (.int .i64 (Go.bits .and .i64 q.kind 255))).setCell ⟨gq, 1, none⟩ (.int .i64 (Go.bits .and .i64 q.tenant 255))).setCell ⟨gq, 3, none⟩ (.int .i64 (Go.bits .and .i64 q.table 255))).setCell ⟨gq, 2, none⟩ (.int .i64 (Go.bits .and .i64 q.handle 4611686018427387903))) gq 7 (.int .i64 (Go.bits .and .i64 q.n 65535))) hol (fun h => by omega)
    have hk_4 : Keep w (((((w3.setCell ⟨gq, 0, none⟩ (.int .i64 (Go.bits .and .i64 q.kind 255))).setCell ⟨gq, 1, none⟩ (.int .i64 (Go.bits .and .i64 q.tenant 255))).setCell ⟨gq, 3, none⟩ (.int .i64 (Go.bits .and .i64 q.table 255))).setCell ⟨gq, 2, none⟩ (.int .i64 (Go.bits .and .i64 q.handle 4611686018427387903))).setCell ⟨gq, 7, none⟩ (.int .i64 (Go.bits .and .i64 q.n 65535))) := Keep.setCell hk_3 hgw _
    clear c1_0 c1_2 c1_3 c1_4 c1_5 c1_6 c1_7 c1_8 c1_9 c2_0 c2_1 c2_2 c2_4 c2_5 c2_6 c2_7 c2_8 c2_9 c3_0 c3_1 c3_3 c3_4 c3_5 c3_6 c3_7 c3_8 c3_9 c4_0 c4_1 c4_2 c4_3 c4_4 c4_5 c4_6 c4_8 c4_9
    go_upto_region 6 with (fail)
    generalize w3.setCell ⟨gq, 0, none⟩ (.int .i64 (Go.bits .and .i64 q.kind 255)) = m0 at *
    generalize m0.setCell ⟨gq, 1, none⟩ (.int .i64 (Go.bits .and .i64 q.tenant 255)) = m1 at *
    generalize m1.setCell ⟨gq, 3, none⟩ (.int .i64 (Go.bits .and .i64 q.table 255)) = m2 at *
    generalize m2.setCell ⟨gq, 2, none⟩ (.int .i64 (Go.bits .and .i64 q.handle 4611686018427387903)) = m3 at *
    generalize m3.setCell ⟨gq, 7, none⟩ (.int .i64 (Go.bits .and .i64 q.n 65535)) = m4 at *
    clear hA3 hO3 hkw3 hA_0 hO_0 hk_0 hA_1 hO_1 hk_1 hA_2 hO_2 hk_2 hA_3 hO_3 hk_3 c0_0 c0_1 c0_2 c0_3 c0_4 c0_5 c0_6 c0_7 c0_8 c0_9 c1_1 c2_3 c3_2 c4_7 z0 z1 z2 z3 z4
    obtain ⟨q5, hq5⟩ : ∃ q5 : Rq, q5 = ⟨Go.bits .and .i64 q.kind 255, Go.bits .and .i64 q.tenant 255, Go.bits .and .i64 q.handle 4611686018427387903, Go.bits .and .i64 q.table 255, q.key, q.value, q.to_, Go.bits .and .i64 q.n 65535, q.mask, q.data⟩ := ⟨_, rfl⟩
    have HQ5 := Lib.hid hq5
    have hkey : q5.key = q.key := by rw [hq5]
    have hval : q5.value = q.value := by rw [hq5]
    have hto : q5.to_ = q.to_ := by rw [hq5]
    have hdat : q5.data = q.data := by rw [hq5]
    rw [← hq5] at hA_4
    rw [← hdat] at hA_4 hdv
    have HD := Lib.hid hdat
    have HK := Lib.hid hkey
    clear hq5 hkey hval hto hdat
    have hsd := hdv.keep hk_4
    have hg5 : gq < m4.heap.size := (Array.getElem?_eq_some_iff.1 hA_4).1
    obtain ⟨nk, hnk⟩ : ∃ n, Hid (n = min q5.key.length 255) := ⟨_, Lib.hid rfl⟩
    obtain ⟨nv, hnv⟩ : ∃ n, Hid (n = min q5.value.length 255) := ⟨_, Lib.hid rfl⟩
    obtain ⟨nt, hnt⟩ : ∃ n, Hid (n = min q5.to_.length 255) := ⟨_, Lib.hid rfl⟩
    have hi0 := oCells_nil (undef) hg5
    refine wp_region_ordI [none, none, some (oStr q5.key), none, none, some (oStr q5.key), none, some (oV (.int .i64 (nk : Int))), some (oV (.string ⟨(q5.key.take 255).toArray⟩)), none, none, some (oStr q5.value), none, none, some (oStr q5.value), none, some (oV (.int .i64 (nv : Int))), some (oV (.string ⟨(q5.value.take 255).toArray⟩)), none, some (oStr q5.to_), none, some (oStr q5.to_), none, some (oV (.int .i64 (nt : Int))), some (oV (.string ⟨(q5.to_.take 255).toArray⟩)), none, none, some (oCells gq [(4, .string ⟨(q5.key.take 255).toArray⟩)]), none, none, some (oCells gq [(5, .string ⟨(q5.value.take 255).toArray⟩), (4, .string ⟨(q5.key.take 255).toArray⟩)]), none, some (oCells gq [(6, .string ⟨(q5.to_.take 255).toArray⟩), (5, .string ⟨(q5.value.take 255).toArray⟩), (4, .string ⟨(q5.key.take 255).toArray⟩)])]
      134217728 #[0, 0, 0, 0, 0, 0, 0, 0, 0, 0, 0, 0, 0, 0, 0, 0, 0, 0, 0, 0, 0, 0, 0, 0, 0, 0, 0, 8589934592, 0, 0, 134217728, 0, 1073741824] (gq) ((oCells gq []).φ undef) (TC gq m4 q5 (.slice da q5.data.length dc)) (by kernel_rfl) (by kernel_rfl) (by kernel_rfl) ((TC.refl hA_4)) ((oCells gq []).st undef) (hi0) ?_
    refine ordT_pure rfl ?_
    go_big_quiet_step (fail)
    refine ordT_on ?_
    refine ordT_pure rfl ?_
    go_big_quiet_step (fail)
    refine ordT_on ?_
    refine ordT_told (by kernel_rfl) (t := oStr q5.key) (fun w2 own hC hF => ?_) ?_
    · obtain ⟨hB, k, v, t, hk1, hv1, ht1, hR⟩ := hC
      obtain ⟨y0, y1, y2, y3, y4, y5, y6, y7, y8, y9⟩ := hR.cells
      refine Gives.value (v := .string ⟨(k).toArray⟩) (w' := w2) (by go_simp) ⟨⟨hB, k, v, t, hk1, hv1, ht1, hR⟩, ⟨Nat.le_refl _, fun _ _ _ => rfl⟩, _, rfl, hk1⟩
    rintro _ w_ own_ - ⟨L2, rfl, hL2⟩
    have hsL2 := size_str L2
    simp only [Act.put, List.setIfInBounds_toArray, List.set_cons_zero, List.set_cons_succ]
    refine ordT_pure rfl ?_
    go_big_quiet_step (fail)
    refine ordT_on ?_
    refine ordT_pure rfl ?_
    go_big_quiet_step (fail)
    refine ordT_on ?_
    refine ordT_told (by kernel_rfl) (t := oStr q5.key) (fun w2 own hC hF => ?_) ?_
    · obtain ⟨hB, k, v, t, hk1, hv1, ht1, hR⟩ := hC
      obtain ⟨y0, y1, y2, y3, y4, y5, y6, y7, y8, y9⟩ := hR.cells
      refine Gives.value (v := .string ⟨(k).toArray⟩) (w' := w2) (by go_simp) ⟨⟨hB, k, v, t, hk1, hv1, ht1, hR⟩, ⟨Nat.le_refl _, fun _ _ _ => rfl⟩, _, rfl, hk1⟩
    rintro _ w_ own_ - ⟨L5, rfl, hL5⟩
    have hsL5 := size_str L5
    simp only [Act.put, List.setIfInBounds_toArray, List.set_cons_zero, List.set_cons_succ]
    refine ordT_pure rfl ?_
    go_big_quiet_step (fail)
    refine ordT_on ?_
    have hmL5 := cut_min hL5
    rw [← hnk.out] at hmL5
    replace hmL5 := Lib.hid hmL5
    refine ordT_same (by kernel_rfl) (fun w2 hC => ?_) ?_
    · have hm0 := hmL5.out
      by_cases hlt : (255 : Int) < (L5.length : Int)
      · have hmm : (nk : Int) = 255 := by omega
        clear hm0
        rw [hmm]
        go_simp
      · have hmm : (nk : Int) = (L5.length : Int) := by omega
        clear hm0
        rw [hmm]
        go_simp
    simp only [Act.put, List.setIfInBounds_toArray, List.set_cons_zero, List.set_cons_succ]
    have haL2 := cut_min hL2
    rw [← hnk.out] at haL2
    have hcL2 := cut_text hL2
    rw [← hnk.out] at hcL2
    have hxL2 := extract_take L2 nk
    rw [hcL2] at hxL2
    have hbL2 : nk ≤ L2.length := by omega
    clear hcL2 haL2
    refine ordT_same (by kernel_rfl) (fun w2 hC => ?_) ?_
    · go_simp
    simp only [Act.put, List.setIfInBounds_toArray, List.set_cons_zero, List.set_cons_succ]
    refine ordT_pure rfl ?_
    go_big_quiet_step (fail)
    refine ordT_on ?_
    refine ordT_pure rfl ?_
    go_big_quiet_step (fail)
    refine ordT_on ?_
    refine ordT_told (by kernel_rfl) (t := oStr q5.value) (fun w2 own hC hF => ?_) ?_
    · obtain ⟨hB, k, v, t, hk1, hv1, ht1, hR⟩ := hC
      obtain ⟨y0, y1, y2, y3, y4, y5, y6, y7, y8, y9⟩ := hR.cells
      refine Gives.value (v := .string ⟨(v).toArray⟩) (w' := w2) (by go_simp) ⟨⟨hB, k, v, t, hk1, hv1, ht1, hR⟩, ⟨Nat.le_refl _, fun _ _ _ => rfl⟩, _, rfl, hv1⟩
    rintro _ w_ own_ - ⟨L11, rfl, hL11⟩
    have hsL11 := size_str L11
    simp only [Act.put, List.setIfInBounds_toArray, List.set_cons_zero, List.set_cons_succ]
    refine ordT_pure rfl ?_
    go_big_quiet_step (fail)
    refine ordT_on ?_
    refine ordT_pure rfl ?_
    go_big_quiet_step (fail)
    refine ordT_on ?_
    refine ordT_told (by kernel_rfl) (t := oStr q5.value) (fun w2 own hC hF => ?_) ?_
    · obtain ⟨hB, k, v, t, hk1, hv1, ht1, hR⟩ := hC
      obtain ⟨y0, y1, y2, y3, y4, y5, y6, y7, y8, y9⟩ := hR.cells
      refine Gives.value (v := .string ⟨(v).toArray⟩) (w' := w2) (by go_simp) ⟨⟨hB, k, v, t, hk1, hv1, ht1, hR⟩, ⟨Nat.le_refl _, fun _ _ _ => rfl⟩, _, rfl, hv1⟩
    rintro _ w_ own_ - ⟨L14, rfl, hL14⟩
    have hsL14 := size_str L14
    simp only [Act.put, List.setIfInBounds_toArray, List.set_cons_zero, List.set_cons_succ]
    refine ordT_pure rfl ?_
    go_big_quiet_step (fail)
    refine ordT_on ?_
    have hmL14 := cut_min hL14
    rw [← hnv.out] at hmL14
    replace hmL14 := Lib.hid hmL14
    refine ordT_same (by kernel_rfl) (fun w2 hC => ?_) ?_
    · have hm0 := hmL14.out
      by_cases hlt : (255 : Int) < (L14.length : Int)
      · have hmm : (nv : Int) = 255 := by omega
        clear hm0
        rw [hmm]
        go_simp
      · have hmm : (nv : Int) = (L14.length : Int) := by omega
        clear hm0
        rw [hmm]
        go_simp
    simp only [Act.put, List.setIfInBounds_toArray, List.set_cons_zero, List.set_cons_succ]
    have haL11 := cut_min hL11
    rw [← hnv.out] at haL11
    have hcL11 := cut_text hL11
    rw [← hnv.out] at hcL11
    have hxL11 := extract_take L11 nv
    rw [hcL11] at hxL11
    have hbL11 : nv ≤ L11.length := by omega
    clear hcL11 haL11
    refine ordT_same (by kernel_rfl) (fun w2 hC => ?_) ?_
    · go_simp
    simp only [Act.put, List.setIfInBounds_toArray, List.set_cons_zero, List.set_cons_succ]
    refine ordT_pure rfl ?_
    go_big_quiet_step (fail)
    refine ordT_on ?_
    refine ordT_told (by kernel_rfl) (t := oStr q5.to_) (fun w2 own hC hF => ?_) ?_
    · obtain ⟨hB, k, v, t, hk1, hv1, ht1, hR⟩ := hC
      obtain ⟨y0, y1, y2, y3, y4, y5, y6, y7, y8, y9⟩ := hR.cells
      refine Gives.value (v := .string ⟨(t).toArray⟩) (w' := w2) (by go_simp) ⟨⟨hB, k, v, t, hk1, hv1, ht1, hR⟩, ⟨Nat.le_refl _, fun _ _ _ => rfl⟩, _, rfl, ht1⟩
    rintro _ w_ own_ - ⟨L19, rfl, hL19⟩
    have hsL19 := size_str L19
    simp only [Act.put, List.setIfInBounds_toArray, List.set_cons_zero, List.set_cons_succ]
    refine ordT_pure rfl ?_
    go_big_quiet_step (fail)
    refine ordT_on ?_
    refine ordT_told (by kernel_rfl) (t := oStr q5.to_) (fun w2 own hC hF => ?_) ?_
    · obtain ⟨hB, k, v, t, hk1, hv1, ht1, hR⟩ := hC
      obtain ⟨y0, y1, y2, y3, y4, y5, y6, y7, y8, y9⟩ := hR.cells
      refine Gives.value (v := .string ⟨(t).toArray⟩) (w' := w2) (by go_simp) ⟨⟨hB, k, v, t, hk1, hv1, ht1, hR⟩, ⟨Nat.le_refl _, fun _ _ _ => rfl⟩, _, rfl, ht1⟩
    rintro _ w_ own_ - ⟨L21, rfl, hL21⟩
    have hsL21 := size_str L21
    simp only [Act.put, List.setIfInBounds_toArray, List.set_cons_zero, List.set_cons_succ]
    refine ordT_pure rfl ?_
    go_big_quiet_step (fail)
    refine ordT_on ?_
    have hmL21 := cut_min hL21
    rw [← hnt.out] at hmL21
    replace hmL21 := Lib.hid hmL21
    refine ordT_same (by kernel_rfl) (fun w2 hC => ?_) ?_
    · have hm0 := hmL21.out
      by_cases hlt : (255 : Int) < (L21.length : Int)
      · have hmm : (nt : Int) = 255 := by omega
        clear hm0
        rw [hmm]
        go_simp
      · have hmm : (nt : Int) = (L21.length : Int) := by omega
        clear hm0
        rw [hmm]
        go_simp
    simp only [Act.put, List.setIfInBounds_toArray, List.set_cons_zero, List.set_cons_succ]
    have haL19 := cut_min hL19
    rw [← hnt.out] at haL19
    have hcL19 := cut_text hL19
    rw [← hnt.out] at hcL19
    have hxL19 := extract_take L19 nt
    rw [hcL19] at hxL19
    have hbL19 : nt ≤ L19.length := by omega
    clear hcL19 haL19
    refine ordT_same (by kernel_rfl) (fun w2 hC => ?_) ?_
    · go_simp
    simp only [Act.put, List.setIfInBounds_toArray, List.set_cons_zero, List.set_cons_succ]
    refine ordT_pure rfl ?_
    go_big_quiet_step (fail)
    refine ordT_on ?_
    refine ordT_pure rfl ?_
    go_big_quiet_step (fail)
    refine ordT_on ?_
    refine ordT_told (by kernel_rfl) (told_cell gq 4 (.string ⟨(q5.key.take 255).toArray⟩) 33 [] (Nat.le_refl _) (by simp) (fun w2 h => h.set4) rfl (fun w2 hC => ?_) fun w2 own hC hF => ⟨_, ((((((((((((((hF 33 (by kernel_rfl)).2 rfl).2 rfl).2 rfl).2 rfl).2 rfl).2 rfl).2 rfl).2 rfl).2 rfl).2 rfl).2 rfl).2 rfl) rfl)⟩) ?_
    · obtain ⟨hB, k, v, t, hk1, hv1, ht1, hR⟩ := hC
      obtain ⟨y0, y1, y2, y3, y4, y5, y6, y7, y8, y9⟩ := hR.cells
      have z := hR.free 4
      go_simp
    rintro _ w_ own_ - -
    simp only [Act.put, List.setIfInBounds_toArray, List.set_cons_zero, List.set_cons_succ]
    refine ordT_pure rfl ?_
    go_big_quiet_step (fail)
    refine ordT_on ?_
    refine ordT_pure rfl ?_
    go_big_quiet_step (fail)
    refine ordT_on ?_
    refine ordT_told (by kernel_rfl) (told_cell gq 5 (.string ⟨(q5.value.take 255).toArray⟩) 27 [(4, .string ⟨(q5.key.take 255).toArray⟩)] (Nat.le_refl _) (by simp) (fun w2 h => h.set5) rfl (fun w2 hC => ?_) fun w2 own hC hF => ⟨_, ((hF 27 (by kernel_rfl)).1 rfl)⟩) ?_
    · obtain ⟨hB, k, v, t, hk1, hv1, ht1, hR⟩ := hC
      obtain ⟨y0, y1, y2, y3, y4, y5, y6, y7, y8, y9⟩ := hR.cells
      have z := hR.free 5
      go_simp
    rintro _ w_ own_ - -
    simp only [Act.put, List.setIfInBounds_toArray, List.set_cons_zero, List.set_cons_succ]
    refine ordT_pure rfl ?_
    go_big_quiet_step (fail)
    refine ordT_on ?_
    refine ordT_told (by kernel_rfl) (told_cell gq 6 (.string ⟨(q5.to_.take 255).toArray⟩) 30 [(5, .string ⟨(q5.value.take 255).toArray⟩), (4, .string ⟨(q5.key.take 255).toArray⟩)] (Nat.le_refl _) (by simp) (fun w2 h => h.set6) rfl (fun w2 hC => ?_) fun w2 own hC hF => ⟨_, ((hF 30 (by kernel_rfl)).1 rfl)⟩) ?_
    · obtain ⟨hB, k, v, t, hk1, hv1, ht1, hR⟩ := hC
      obtain ⟨y0, y1, y2, y3, y4, y5, y6, y7, y8, y9⟩ := hR.cells
      have z := hR.free 6
      go_simp
    rintro _ w_ own_ - -
    simp only [Act.put, List.setIfInBounds_toArray, List.set_cons_zero, List.set_cons_succ]
    refine ordT_done fun w6 own hC6 hF => ?_
    have hfin := (((hF 32).1 rfl)).2.2
    clear hF
    have h4 := hfin (4, .string ⟨(q5.key.take 255).toArray⟩) (by simp)
    have h5 := hfin (5, .string ⟨(q5.value.take 255).toArray⟩) (by simp)
    have h6 := hfin (6, .string ⟨(q5.to_.take 255).toArray⟩) (by simp)
    obtain ⟨hB6, hA6⟩ := hC6.done h4 h5 h6
    have hO6 := hO_4.at (w' := w6) (fun g e hg => hB6.block g hg (fun e' => hol (e' ▸ e))) (fun b hb hx _ => hB6.block b hb (fun e => by omega))
    have hk6 : Keep w w6 := hk_4.trans (hB6.below w.heap.size hk_4.size (fun b h => by omega))
    obtain ⟨nd, hnd⟩ : ∃ n, Hid (n = min q5.data.length 255) := ⟨_, Lib.hid rfl⟩
    have hndl : nd ≤ q5.data.length := by have := hnd.out; omega
    have hdc : q5.data.length ≤ dc := by rw [HD.out]; exact hdc
    have hndc : nd ≤ dc := by omega
    have hcd : q5.data.take nd = q5.data.take 255 := by rw [hnd.out]; exact cut_text (.inl rfl)
    have hdv1 := hdv.first nd hndl
    rw [hcd] at hdv1
    obtain ⟨e0, e1, e2, e3, e4, e5, e6, e7, e8, e9⟩ := hA6.cells
    have z9 := hA6.free 9
    clear h4 h5 h6 hfin hC6 hB6 hO_4 hk_4 hA_4 hsd hi0 hdv hnk hnv hnt hcd e0 e1 e2 e3 e4 e5 e6 e7 e8
    go_upto_region 7 with (fail)
    refine wp_region_seq ?_
    refine seqW_pure rfl ?_
    go_big_quiet_step (fail)
    refine seqW_on ?_
    refine seqW_gives (by kernel_rfl) ?_
    refine Gives.value (v := .slice da q5.data.length dc) (w' := w6) (by go_simp) ?_
    simp only [Act.put, List.setIfInBounds_toArray, List.set_cons_zero, List.set_cons_succ]
    refine seqW_pure rfl ?_
    go_big_quiet_step (fail)
    refine seqW_on ?_
    refine seqW_gives (by kernel_rfl) ?_
    refine Gives.value (v := .slice da q5.data.length dc) (w' := w6) (by go_simp) ?_
    simp only [Act.put, List.setIfInBounds_toArray, List.set_cons_zero, List.set_cons_succ]
    refine seqW_pure rfl ?_
    go_big_quiet_step (fail)
    refine seqW_on ?_
    refine seqW_gives (by kernel_rfl) ?_
    refine Gives.value (v := .int .i64 (nd : Int)) (w' := w6) (by
      have hm0 := hnd.out
      by_cases hlt : (255 : Int) < (q5.data.length : Int)
      · have hmm : (nd : Int) = 255 := by omega
        clear hm0
        rw [hmm]
        go_simp
      · have hmm : (nd : Int) = (q5.data.length : Int) := by omega
        clear hm0
        rw [hmm]
        go_simp) ?_
    simp only [Act.put, List.setIfInBounds_toArray, List.set_cons_zero, List.set_cons_succ]
    refine seqW_gives (by kernel_rfl) ?_
    refine Gives.value (v := .slice da nd dc) (w' := w6) (by go_simp) ?_
    simp only [Act.put, List.setIfInBounds_toArray, List.set_cons_zero, List.set_cons_succ]
    refine seqW_pure rfl ?_
    go_big_quiet_step (fail)
    refine seqW_on ?_
    refine seqW_gives (by kernel_rfl) ?_
    refine Gives.skip (w' := w6.setCell ⟨gq, 9, none⟩ (.slice da nd dc)) (by go_simp) ?_
    have hA7 : RqAt (w6.setCell ⟨gq, 9, none⟩ (.slice da nd dc)) gq ⟨q5.kind, q5.tenant, q5.handle, q5.table, q5.key.take 255, q5.value.take 255, q5.to_.take 255, q5.n, q5.mask, q5.data.take 255⟩ (.slice da nd dc) := hA6.set 9 _ rfl
    have hO7 := hO6.but (But.setCell w6 gq 9 (.slice da nd dc)) hol (fun h => by omega)
    have hk7 : Keep w (w6.setCell ⟨gq, 9, none⟩ (.slice da nd dc)) := Keep.setCell hk6 hgw _
    generalize w6.setCell ⟨gq, 9, none⟩ (.slice da nd dc) = w7 at *
    have hq7 : (⟨q5.kind, q5.tenant, q5.handle, q5.table, q5.key.take 255, q5.value.take 255, q5.to_.take 255, q5.n, q5.mask, q5.data.take 255⟩ : Rq) = tame1 q := by
      rw [HQ5.out]
      rfl
    have hdd : q5.data.take 255 = (tame1 q).data := by rw [← hq7]
    rw [hq7] at hA7
    rw [hdd] at hdv1
    clear hA6 hO6 hk6 e9 z9 hq7 hdd HQ5 HD HK hnd hndl hdc hndc
    generalize tame1 q = q7 at *
    simp only [Act.put, List.setIfInBounds_toArray, List.set_cons_zero, List.set_cons_succ]
    refine seqW_done ?_
    obtain ⟨e0, e1, e2, e3, e4, e5, e6, e7, e8, e9⟩ := hA7.cells
    go_upto_region 8 with (fail)
    refine wp_region_seq ?_
    refine seqW_pure rfl ?_
    go_big_quiet_step (fail)
    refine seqW_on ?_
    refine seqW_gives (by kernel_rfl) ?_
    refine Gives.value (v := .agg #[.int .i64 q7.kind, .int .i64 q7.tenant, .int .i64 q7.handle, .int .i64 q7.table, .string ⟨q7.key.toArray⟩, .string ⟨q7.value.toArray⟩, .string ⟨q7.to_.toArray⟩, .int .i64 q7.n, .int .u64 (q7.mask : Int), .slice da nd dc]) (w' := w7) (by go_simp) ?_
    simp only [Act.put, List.setIfInBounds_toArray, List.set_cons_zero, List.set_cons_succ]
    refine seqW_gives (by kernel_rfl) ?_
    refine Gives.value (v := .slice (some ⟨w7.heap.size, 0, none⟩) 1 1) (w' := w7.alloc (.cells #[.int .i64 q7.kind, .int .i64 q7.tenant, .int .i64 q7.handle, .int .i64 q7.table, .string ⟨q7.key.toArray⟩, .string ⟨q7.value.toArray⟩, .string ⟨q7.to_.toArray⟩, .int .i64 q7.n, .int .u64 (q7.mask : Int), .slice da nd dc] 34)) (by go_simp) ?_
    have hSl : SlC (w7.alloc (.cells #[.int .i64 q7.kind, .int .i64 q7.tenant, .int .i64 q7.handle, .int .i64 q7.table, .string ⟨q7.key.toArray⟩, .string ⟨q7.value.toArray⟩, .string ⟨q7.to_.toArray⟩, .int .i64 q7.n, .int .u64 (q7.mask : Int), .slice da nd dc] 34)) (.slice (some ⟨w7.heap.size, 0, none⟩) 1 1) 10 [q7.cells (.slice da nd dc)] := SlC.laid (w := w7) 34 (0, 0) 10 (q7.cells (.slice da nd dc)) rfl
    have hka := Keep.alloc w7 (.cells #[.int .i64 q7.kind, .int .i64 q7.tenant, .int .i64 q7.handle, .int .i64 q7.table, .string ⟨q7.key.toArray⟩, .string ⟨q7.value.toArray⟩, .string ⟨q7.to_.toArray⟩, .int .i64 q7.n, .int .u64 (q7.mask : Int), .slice da nd dc] 34)
    have hO9 := hO7.keep hka
    have hk9 := hk7.trans' hka
    generalize w7.alloc (.cells #[.int .i64 q7.kind, .int .i64 q7.tenant, .int .i64 q7.handle, .int .i64 q7.table, .string ⟨q7.key.toArray⟩, .string ⟨q7.value.toArray⟩, .string ⟨q7.to_.toArray⟩, .int .i64 q7.n, .int .u64 (q7.mask : Int), .slice da nd dc] 34) = w9 at *
    have hdX : q7.data ≠ [] → In (fun b => b < w.heap.size ∧ (Value.slice oa on oc).ownBlock ≠ some b) (.slice da nd dc) := fun hne => In.mono (hdv1.there hne) fun b hb => ⟨hb, fun e => by have := (hO9.lt b e).1; omega⟩
    clear hA7 hO7 hk7 hka e0 e1 e2 e3 e4 e5 e6 e7 e8 e9
    simp only [Act.put, List.setIfInBounds_toArray, List.set_cons_zero, List.set_cons_succ]
    refine seqW_gives (by kernel_rfl) ?_
    refine Gives.appendQ _ _ rfl rfl rfl hO9 hSl (hdv1.keep hk9) hdX (by have := H50.out; omega) hk9.size ?_
    intro v' w' hO' hgr hwh
    have hk' : Keep w w' := hk9.grown hgr hk9.size (fun j hj => (hO9.lt j hj).1)
    rw [← HTK.out] at hO'
    obtain ⟨oa', on', oc', rfl⟩ := hO'.shape
    clear hgr hwh hO9 hSl hk9 hdX hdv1
    simp only [Act.put, List.setIfInBounds_toArray, List.set_cons_zero, List.set_cons_succ]
    refine seqW_pure rfl ?_
    go_big_quiet_step (fail)
    refine seqW_on ?_
    refine seqW_done ?_
    go_wp2
    go_roundw
    case rel => exact ⟨j + 1, by omega, by go_num, hO', hk'⟩
    case measure => simp [intOf]; omega
end Go.Proofs.Ytndndklaaegifaa
