/- The walk of ScriptSizes. -/
import Derived.Test.YtndndklaaegifaaScrMore
namespace Go.Proofs.Ytndndklaaegifaa
open Go Go.RowKit
attribute [local irreducible] Go.wpQuiet

/-- a change in a block without bytes -/
theorem SlB.butAt {w w' : World} {g : Nat} {v : Value} {l : List UInt8} {cs : Array Value} {e : TypeId} (h : SlB w v l) (hb : But w w' g) (hg : w.heap[g]? = some (.cells cs e)) (hn : ∀ (j : Nat) (y : UInt8), cs[j]? ≠ some (B y)) : SlB w' v l := by
  obtain ⟨ao, cap, hv, hm, hcap, hc⟩ := h
  refine ⟨ao, cap, hv, hm, hcap, fun i hi => ?_⟩
  obtain ⟨b, off, ha, hcell⟩ := hc i hi
  refine ⟨b, off, ha, ?_⟩
  have hlt := World.block_lt_of_cell? w _ hcell
  rw [World.cell?_of_block (w := w)]
  · exact hcell
  · refine hb.block _ hlt (fun h => ?_)
    cases h
    unfold World.cell? at hcell
    simp only [hg] at hcell
    have h1 : (l.map B)[i] = B (l[i]'(by simpa using hi)) := by simp
    rw [h1] at hcell
    exact hn _ _ (by simpa using hcell)
theorem req_noB (q : Rq) (a : Option Addr) (n c : Nat) (j : Nat) (y : UInt8) : (#[.int .i64 q.kind, .int .i64 q.tenant, .int .i64 q.handle, .int .i64 q.table, .string ⟨q.key.toArray⟩, .string ⟨q.value.toArray⟩, .string ⟨q.to_.toArray⟩, .int .i64 q.n, .int .u64 (q.mask : Int), .slice a n c] : Array Value)[j]? ≠ some (B y) := by
  match j with
  | 0 => simp [B]
  | 1 => simp [B]
  | 2 => simp [B]
  | 3 => simp [B]
  | 4 => simp [B]
  | 5 => simp [B]
  | 6 => simp [B]
  | 7 => simp [B]
  | 8 => simp [B]
  | 9 => simp [B]
  | j + 10 => simp

set_option maxRecDepth 100000 in
set_option maxHeartbeats 8000000 in
theorem scriptSizes_any (q : Rq) (dv : Value) (w : World) (hd : SlB w dv q.data) (hm : q.mask < 256 ^ 8) : Calls Try.prog 6 #[.agg (q.cells dv).toArray] w fun e w' => e = .returned (.bool true) ∧ Keep w w' := by
  obtain ⟨da, dc, rfl, -, -, -⟩ := hd.form
  have HF := Lib.hid (tame1_fits q hm)
  have HE := Lib.hid (tame1_len q)
  have hA0 : RqAt (w.alloc (.cells #[.int .i64 q.kind, .int .i64 q.tenant, .int .i64 q.handle, .int .i64 q.table, .string ⟨q.key.toArray⟩, .string ⟨q.value.toArray⟩, .string ⟨q.to_.toArray⟩, .int .i64 q.n, .int .u64 (q.mask : Int), .slice da q.data.length dc] 34)) w.heap.size q (.slice da q.data.length dc) := heap_alloc_new w _
  have hk0 := Keep.alloc w (.cells #[.int .i64 q.kind, .int .i64 q.tenant, .int .i64 q.handle, .int .i64 q.table, .string ⟨q.key.toArray⟩, .string ⟨q.value.toArray⟩, .string ⟨q.to_.toArray⟩, .int .i64 q.n, .int .u64 (q.mask : Int), .slice da q.data.length dc] 34)
  unfold Rq.cells
  go_enter Try.func6, Try.ntmps6
  go_wp2_with fail
  generalize w.alloc (.cells #[.int .i64 q.kind, .int .i64 q.tenant, .int .i64 q.handle, .int .i64 q.table, .string ⟨q.key.toArray⟩, .string ⟨q.value.toArray⟩, .string ⟨q.to_.toArray⟩, .int .i64 q.n, .int .u64 (q.mask : Int), .slice da q.data.length dc] 34) = w0 at *
  refine (fit_any w0).mono ?_
  rintro e w1 ⟨rfl, hk1⟩
  have hA1 := hA0.keep hk1
  have hd1 := (hd.keep hk0).keep hk1
  have hw1 := hk0.trans' hk1
  have hgw : w.heap.size ≤ w.heap.size := Nat.le_refl _
  clear hA0 hd hk0 hk1 hm
  obtain ⟨g0, HG0⟩ : ∃ g0, Hid (g0 = w.heap.size) := ⟨_, Lib.hid rfl⟩
  rw [← HG0.out] at hA1 ⊢
  clear hgw
  obtain ⟨c0, c1, c2, c3, c4, c5, c6, c7, c8, c9⟩ := hA1.cells
  go_wp2_with fail
  have hq2 : SlQ (w1.alloc (.cells #[.int .i64 q.kind, .int .i64 q.tenant, .int .i64 q.handle, .int .i64 q.table, .string ⟨q.key.toArray⟩, .string ⟨q.value.toArray⟩, .string ⟨q.to_.toArray⟩, .int .i64 q.n, .int .u64 (q.mask : Int), .slice da q.data.length dc] 34)) (.slice (some ⟨w1.heap.size, 0, none⟩) 1 1) [q] := (SlQin.laid w1 (fun _ => True) q da q.data.length dc hd1 trivial (fun _ => fun _ _ _ _ => trivial)).slq
  have hk2 := Keep.alloc w1 (.cells #[.int .i64 q.kind, .int .i64 q.tenant, .int .i64 q.handle, .int .i64 q.table, .string ⟨q.key.toArray⟩, .string ⟨q.value.toArray⟩, .string ⟨q.to_.toArray⟩, .int .i64 q.n, .int .u64 (q.mask : Int), .slice da q.data.length dc] 34)
  generalize w1.alloc (.cells #[.int .i64 q.kind, .int .i64 q.tenant, .int .i64 q.handle, .int .i64 q.table, .string ⟨q.key.toArray⟩, .string ⟨q.value.toArray⟩, .string ⟨q.to_.toArray⟩, .int .i64 q.n, .int .u64 (q.mask : Int), .slice da q.data.length dc] 34) = w2 at *
  generalize w1.heap.size = g1 at *
  refine (light_any _ [q] w2 hq2).mono ?_
  rintro e w3 ⟨b1, rfl, -, hk3⟩
  have hw3 := (hw1.trans' hk2).trans' hk3
  have hA3 := (hA1.keep hk2).keep hk3
  have hd3 := (hd1.keep hk2).keep hk3
  clear c0 c1 c2 c3 c4 c5 c6 c7 c8 c9 hq2 hk2 hk3 hA1 hd1 hw1
  cases b1
  · go_wp2
    go_ret
    exact ⟨rfl, hw3⟩
  obtain ⟨c0, c1, c2, c3, c4, c5, c6, c7, c8, c9⟩ := hA3.cells
  go_upto_region 5 with (fail)
  refine wp_region_seq ?_
  refine seqW_gives (by kernel_rfl) ?_
  refine Gives.value (v := .agg #[.int .i64 q.kind, .int .i64 q.tenant, .int .i64 q.handle, .int .i64 q.table, .string ⟨q.key.toArray⟩, .string ⟨q.value.toArray⟩, .string ⟨q.to_.toArray⟩, .int .i64 q.n, .int .u64 (q.mask : Int), .slice da q.data.length dc]) (w' := w3) (by go_simp) ?_
  simp only [Act.put, List.setIfInBounds_toArray, List.set_cons_zero, List.set_cons_succ]
  refine seqW_gives (by kernel_rfl) ?_
  refine Gives.value (v := .slice (some ⟨w3.heap.size, 0, none⟩) 1 1) (w' := w3.alloc (.cells #[.int .i64 q.kind, .int .i64 q.tenant, .int .i64 q.handle, .int .i64 q.table, .string ⟨q.key.toArray⟩, .string ⟨q.value.toArray⟩, .string ⟨q.to_.toArray⟩, .int .i64 q.n, .int .u64 (q.mask : Int), .slice da q.data.length dc] 34)) (by go_simp) ?_
  have hq4 : SlQ (w3.alloc (.cells #[.int .i64 q.kind, .int .i64 q.tenant, .int .i64 q.handle, .int .i64 q.table, .string ⟨q.key.toArray⟩, .string ⟨q.value.toArray⟩, .string ⟨q.to_.toArray⟩, .int .i64 q.n, .int .u64 (q.mask : Int), .slice da q.data.length dc] 34)) (.slice (some ⟨w3.heap.size, 0, none⟩) 1 1) [q] := (SlQin.laid w3 (fun _ => True) q da q.data.length dc hd3 trivial (fun _ => fun _ _ _ _ => trivial)).slq
  have hk4 := Keep.alloc w3 (.cells #[.int .i64 q.kind, .int .i64 q.tenant, .int .i64 q.handle, .int .i64 q.table, .string ⟨q.key.toArray⟩, .string ⟨q.value.toArray⟩, .string ⟨q.to_.toArray⟩, .int .i64 q.n, .int .u64 (q.mask : Int), .slice da q.data.length dc] 34)
  have hA4 := hA3.keep hk4
  have hw4 := hw3.trans' hk4
  generalize w3.alloc (.cells #[.int .i64 q.kind, .int .i64 q.tenant, .int .i64 q.handle, .int .i64 q.table, .string ⟨q.key.toArray⟩, .string ⟨q.value.toArray⟩, .string ⟨q.to_.toArray⟩, .int .i64 q.n, .int .u64 (q.mask : Int), .slice da q.data.length dc] 34) = w4 at *
  generalize w3.heap.size = g3 at *
  clear c0 c1 c2 c3 c4 c5 c6 c7 c8 c9 hA3 hd3 hw3 hk4
  simp only [Act.put, List.setIfInBounds_toArray, List.set_cons_zero, List.set_cons_succ]
  refine seqW_gives (by kernel_rfl) ?_
  refine Gives.call (by go_simp) (tame_any _ [q] w4 hq4 (by simp)) ?_
  rintro e w5 ⟨v5, rfl, hQ5, hk5⟩
  refine ⟨_, rfl, ?_⟩
  have hA5 := hA4.keep hk5
  have hw5 := hw4.trans' hk5
  have hq5 := hQ5.slq
  obtain ⟨a5, c5, rfl, -, -⟩ := hq5.form
  have hlen5 : ([q].map tame1).length = 1 := rfl
  rw [hlen5]
  obtain ⟨b5, o5, rfl, dt, hdt, hcell⟩ := hq5.elem 0 (by simp)
  have e5 : ([q].map tame1)[0]'(by simp) = tame1 q := rfl
  rw [e5] at hdt hcell
  clear e5 hQ5 hq5 hlen5
  generalize tame1 q = t at *
  obtain ⟨ta, tc, rfl, -, -, -⟩ := hdt.form
  have x0 := hcell 0 _ rfl
  have x1 := hcell 1 _ rfl
  have x2 := hcell 2 _ rfl
  have x3 := hcell 3 _ rfl
  have x4 := hcell 4 _ rfl
  have x5 := hcell 5 _ rfl
  have x6 := hcell 6 _ rfl
  have x7 := hcell 7 _ rfl
  have x8 := hcell 8 _ rfl
  have x9 := hcell 9 _ rfl
  simp only [Nat.zero_mul, Nat.add_zero] at x0 x1 x2 x3 x4 x5 x6 x7 x8 x9
  clear hcell hA4 hq4 hk5 hw4
  simp only [Act.put, List.setIfInBounds_toArray, List.set_cons_zero, List.set_cons_succ]
  refine seqW_pure rfl ?_
  go_big_quiet_step (fail)
  refine seqW_on ?_
  refine seqW_gives (by kernel_rfl) ?_
  refine Gives.value (v := .agg #[.int .i64 t.kind, .int .i64 t.tenant, .int .i64 t.handle, .int .i64 t.table, .string ⟨t.key.toArray⟩, .string ⟨t.value.toArray⟩, .string ⟨t.to_.toArray⟩, .int .i64 t.n, .int .u64 (t.mask : Int), .slice ta t.data.length tc]) (w' := w5) (by go_simp) ?_
  simp only [Act.put, List.setIfInBounds_toArray, List.set_cons_zero, List.set_cons_succ]
  clear x0 x1 x2 x3 x4 x5 x6 x7 x8 x9
  obtain ⟨z0, z1, z2, z3, z4, z5, z6, z7, z8, z9⟩ := free10 hA5
  obtain ⟨c0, c1, c2, c3, c4, c5, c6, c7, c8, c9⟩ := hA5.cells
  refine seqW_gives (by kernel_rfl) ?_
  refine Gives.skip (w' := laidOver10 w5 g0 (.int .i64 t.kind) (.int .i64 t.tenant) (.int .i64 t.handle) (.int .i64 t.table) (.string ⟨t.key.toArray⟩) (.string ⟨t.value.toArray⟩) (.string ⟨t.to_.toArray⟩) (.int .i64 t.n) (.int .u64 (t.mask : Int)) ((.slice ta t.data.length tc))) (by unfold laidOver10; go_simp) ?_
  have hA6 : RqAt (laidOver10 w5 g0 (.int .i64 t.kind) (.int .i64 t.tenant) (.int .i64 t.handle) (.int .i64 t.table) (.string ⟨t.key.toArray⟩) (.string ⟨t.value.toArray⟩) (.string ⟨t.to_.toArray⟩) (.int .i64 t.n) (.int .u64 (t.mask : Int)) ((.slice ta t.data.length tc))) g0 t (.slice ta t.data.length tc) := laidOver10_at hA5 (.int .i64 t.kind) (.int .i64 t.tenant) (.int .i64 t.handle) (.int .i64 t.table) (.string ⟨t.key.toArray⟩) (.string ⟨t.value.toArray⟩) (.string ⟨t.to_.toArray⟩) (.int .i64 t.n) (.int .u64 (t.mask : Int)) ((.slice ta t.data.length tc))
  have hb6 := laidOver10_but w5 g0 (.int .i64 t.kind) (.int .i64 t.tenant) (.int .i64 t.handle) (.int .i64 t.table) (.string ⟨t.key.toArray⟩) (.string ⟨t.value.toArray⟩) (.string ⟨t.to_.toArray⟩) (.int .i64 t.n) (.int .u64 (t.mask : Int)) ((.slice ta t.data.length tc))
  have hd6 := hdt.butAt hb6 hA5 (req_noB q da q.data.length dc)
  have hw6 : Keep w (laidOver10 w5 g0 (.int .i64 t.kind) (.int .i64 t.tenant) (.int .i64 t.handle) (.int .i64 t.table) (.string ⟨t.key.toArray⟩) (.string ⟨t.value.toArray⟩) (.string ⟨t.to_.toArray⟩) (.int .i64 t.n) (.int .u64 (t.mask : Int)) ((.slice ta t.data.length tc))) := hw5.trans (hb6.below (by rw [HG0.out]; exact Nat.le_refl _) hw5.size)
  clear z0 z1 z2 z3 z4 z5 z6 z7 z8 z9 c0 c1 c2 c3 c4 c5 c6 c7 c8 c9 hA5 hdt hw5 hb6
  generalize laidOver10 w5 g0 (.int .i64 t.kind) (.int .i64 t.tenant) (.int .i64 t.handle) (.int .i64 t.table) (.string ⟨t.key.toArray⟩) (.string ⟨t.value.toArray⟩) (.string ⟨t.to_.toArray⟩) (.int .i64 t.n) (.int .u64 (t.mask : Int)) ((.slice ta t.data.length tc)) = w6 at *
  simp only [Act.put, List.setIfInBounds_toArray, List.set_cons_zero, List.set_cons_succ]
  refine seqW_done ?_
  go_upto_region 7 with (fail)
  have hg7 := scr_new w6
  have hk7 := Keep.alloc w6 (.cells #[.slice none 0 0] 28)
  have hs7 : w6.heap.size < (w6.alloc (.cells #[.slice none 0 0] 28)).heap.size := by simp
  have hA7 := hA6.keep hk7
  have hd7 := hd6.keep hk7
  have hin7 : t.data ≠ [] → In (fun b => b < w6.heap.size) (.slice ta t.data.length tc) := fun hne => hd6.there hne
  have hw7 := hw6.trans' hk7
  have hgs0 : w.heap.size ≤ w6.heap.size := hw6.size
  have hg0l : g0 < w6.heap.size := (Array.getElem?_eq_some_iff.1 hA6).1
  generalize w6.alloc (.cells #[.slice none 0 0] 28) = w7 at *
  clear hA6 hd6 hk7 hw6
  generalize w6.heap.size = gs at *
  obtain ⟨c0, c1, c2, c3, c4, c5, c6, c7, c8, c9⟩ := hA7.cells
  go_wp2_with fail
  have hk8 := Keep.alloc w7 (.cells #[.int .i64 t.kind, .int .i64 t.tenant, .int .i64 t.handle, .int .i64 t.table, .string ⟨t.key.toArray⟩, .string ⟨t.value.toArray⟩, .string ⟨t.to_.toArray⟩, .int .i64 t.n, .int .u64 (t.mask : Int), .slice ta t.data.length tc] 34)
  have hsz8 : w7.heap.size < (w7.alloc (.cells #[.int .i64 t.kind, .int .i64 t.tenant, .int .i64 t.handle, .int .i64 t.table, .string ⟨t.key.toArray⟩, .string ⟨t.value.toArray⟩, .string ⟨t.to_.toArray⟩, .int .i64 t.n, .int .u64 (t.mask : Int), .slice ta t.data.length tc] 34)).heap.size := by simp
  have hq8 : SlQin (w7.alloc (.cells #[.int .i64 t.kind, .int .i64 t.tenant, .int .i64 t.handle, .int .i64 t.table, .string ⟨t.key.toArray⟩, .string ⟨t.value.toArray⟩, .string ⟨t.to_.toArray⟩, .int .i64 t.n, .int .u64 (t.mask : Int), .slice ta t.data.length tc] 34)) (fun b => b ≠ gs ∧ (Value.slice none 0 0).ownBlock ≠ some b ∧ b < (w7.alloc (.cells #[.int .i64 t.kind, .int .i64 t.tenant, .int .i64 t.handle, .int .i64 t.table, .string ⟨t.key.toArray⟩, .string ⟨t.value.toArray⟩, .string ⟨t.to_.toArray⟩, .int .i64 t.n, .int .u64 (t.mask : Int), .slice ta t.data.length tc] 34)).heap.size) (.slice (some ⟨w7.heap.size, 0, none⟩) 1 1) [t] :=
    SlQin.laid w7 _ t ta t.data.length tc hd7 ⟨by omega, by simp [Value.ownBlock], hsz8⟩ (fun hne => (hin7 hne).mono fun b hb => ⟨by omega, by simp [Value.ownBlock], by omega⟩)
  have hg8 := (hk8.block _ (Array.getElem?_eq_some_iff.1 hg7).1).trans hg7
  have hA8 := hA7.keep hk8
  have hw8 := hw7.trans' hk8
  generalize w7.alloc (.cells #[.int .i64 t.kind, .int .i64 t.tenant, .int .i64 t.handle, .int .i64 t.table, .string ⟨t.key.toArray⟩, .string ⟨t.value.toArray⟩, .string ⟨t.to_.toArray⟩, .int .i64 t.n, .int .u64 (t.mask : Int), .slice ta t.data.length tc] 34) = w8 at *
  generalize w7.heap.size = g7 at *
  clear c0 c1 c2 c3 c4 c5 c6 c7 c8 c9 hg7 hA7 hd7 hin7 hw7 hk8
  have hel : (encL [t]).length = t.enc.length := by simp [encL]
  have het : encL [t] = t.enc := by simp [encL]
  refine (add_any gs (gs + 1) _ (.slice none 0 0) [t] [] w8 hg8 (Own.nil _ _ _) (Nat.lt_succ_self _) (by omega) hq8 (by intro p hp; rw [List.mem_singleton.1 hp]; exact HF.out) (by rw [List.length_nil, hel]; have := HE.out; omega)).mono ?_
  rintro e w9 ⟨rfl, sv, hg9, hO9, -, hb9⟩
  rw [List.nil_append, het] at hO9
  have hT9 : ∀ b, b ≠ gs → ¬ (b = gs ∨ (Value.slice none 0 0).ownBlock = some b) := fun b hb h => h.elim hb (fun e => by simp [Value.ownBlock] at e)
  have hw9 : Keep w w9 := hw8.trans (hb9.below w.heap.size hw8.size (fun b h => h.elim (fun e => by omega) (fun e => by simp [Value.ownBlock] at e)))
  have hA9 : RqAt w9 g0 t (.slice ta t.data.length tc) := (hb9.block g0 (Array.getElem?_eq_some_iff.1 hA8).1 (hT9 g0 (by omega))).trans hA8
  clear hg8 hA8 hw8 hq8 hb9 hT9 hel het
  go_wp2_with fail
  refine (bytes_any gs sv t.enc w9 hg9 hO9.slB (by have := HE.out; omega)).mono ?_
  rintro e w10 ⟨v10, rfl, hO10, hk10⟩
  have hL : t.enc.length = 25 + t.key.length + t.value.length + t.to_.length + t.data.length := t.enc_length
  obtain ⟨gb, cb, rfl, hgb1, hgb2⟩ := hO10.head (by rw [List.length_map]; omega)
  have y0 := hO10.cellOf 0 (by rw [List.length_map]; omega)
  have y1 := hO10.cellOf 1 (by rw [List.length_map]; omega)
  have yf := hO10.freeOf 0
  obtain ⟨hfk, hft, hfh, hfb, hfk2, hfv, hft2, hfn, hfm, hfd⟩ := HF.out
  have e01 : t.enc = UInt8.ofNat t.kind.toNat :: UInt8.ofNat t.tenant.toNat :: t.enc.drop 2 := by
    unfold Rq.enc
    rw [one_be, one_be]
    rfl
  have e0 : t.enc[0]'(by omega) = UInt8.ofNat t.kind.toNat := by
    rw [List.getElem_of_eq e01]
    rfl
  have e1 : t.enc[1]'(by omega) = UInt8.ofNat t.tenant.toNat := by
    rw [List.getElem_of_eq e01]
    rfl
  rw [List.getElem_map, e0] at y0
  rw [List.getElem_map, e1] at y1
  have hbk : B (UInt8.ofNat t.kind.toNat) = .int .u8 t.kind := by rw [← byte_lt _ (by omega), Int.toNat_of_nonneg hfk.1]
  have hbt : B (UInt8.ofNat t.tenant.toNat) = .int .u8 t.tenant := by rw [← byte_lt _ (by omega), Int.toNat_of_nonneg hft.1]
  rw [hbk] at y0
  rw [hbt] at y1
  rw [List.length_map] at *
  have hA10 := hA9.keep hk10
  have hg10 := (hk10.block _ (Array.getElem?_eq_some_iff.1 hg9).1).trans hg9
  have hO10s := hO9.keep hk10
  have hw10 := hw9.trans' hk10
  have tL : ((t.enc.length : Int) != 25 + (t.key.length : Int) + (t.value.length : Int) + (t.to_.length : Int) + (t.data.length : Int)) = false := by rw [bne_eq_false_iff_eq]; omega
  have hsv : ∀ g, sv.ownBlock = some g → g < gb := fun g e => Nat.lt_of_lt_of_le (World.ownsRow.lt hO9 g e).2 hgb1
  have hgsb : gs < gb := Nat.lt_of_lt_of_le (Array.getElem?_eq_some_iff.1 hg9).1 hgb1
  have hwb : w.heap.size ≤ gb := Nat.le_trans hw9.size hgb1
  have s1 := size_str t.key
  have s2 := size_str t.value
  have s3 := size_str t.to_
  have hly := World.block_lt_of_cell? w10 _ y0
  have hlen : t.enc.length ≤ 1045 := HE.out
  have HB0 : Hid (∀ h : 0 < t.enc.length, (Value.int .u8 ((t.enc[0]'h).toNat : Int)) = .int .u8 t.kind) := Lib.hid (fun h => by
    have := hbk
    rw [← e0] at this
    exact this)
  clear hO9 hg9 hA9 hk10 hw9 hgb1 hgb2 e01 e0 e1 hbk hbt hO10 HF HE
  generalize t.enc = L at *
  have HLL := Lib.hid hL
  obtain ⟨n, hn⟩ : ∃ n, L.length = n := ⟨_, rfl⟩
  have HN := Lib.hid hn
  rw [hn] at hlen tL ⊢
  have i0 : 0 < n := by omega
  have i1 : 1 < n := by omega
  clear hn hL
  go_upto_region 9 with (fail)
  refine wp_region_dag' (C := fun w' => Keep w10 w') (R := Keep) [none, none, none, none, some (tV (.string ⟨t.key.toArray⟩)), none, none, none, none, some (tV (.string ⟨t.value.toArray⟩)), none, none, none, some (tV (.string ⟨t.to_.toArray⟩)), none, none, none, some (tV (.slice ta t.data.length tc)), none, none, none, none, none, none, some (tV (.int .u8 t.kind)), none, none, some (tV (.int .i64 t.kind)), none, none, none, none, none, some (tV (.int .u8 t.tenant)), none, none, some (tV (.int .i64 t.tenant)), none, none]
    (by kernel_rfl) (by kernel_rfl) (Keep.refl w10).drew ?_
  refine dagT_pure rfl ?_
  go_big_quiet_step (fail)
  refine dagT_on ?_
  refine dagT_pure rfl ?_
  go_big_quiet_step (fail)
  refine dagT_on ?_
  refine dagT_pure rfl ?_
  go_big_quiet_step (fail)
  refine dagT_on ?_
  refine dagT_pure rfl ?_
  go_big_quiet_step (fail)
  refine dagT_on ?_
  refine dagT_told (by kernel_rfl) ?_ ?_
  · intro w2 hC hF
    obtain ⟨c0, c1, c2, c3, c4, c5, c6, c7, c8, c9⟩ := (hA10.keep hC).cells
    exact Gives.value (v := .string ⟨t.key.toArray⟩) (w' := w2) (by go_simp) ⟨hC, Keep.refl _, rfl⟩
  intro vv w2 hC hF hvv
  clear hC hF
  obtain rfl := hvv
  simp only [Act.put, List.setIfInBounds_toArray, List.set_cons_zero, List.set_cons_succ]
  refine dagT_pure rfl ?_
  go_big_quiet_step (fail)
  refine dagT_on ?_
  refine dagT_pure rfl ?_
  go_big_quiet_step (fail)
  refine dagT_on ?_
  refine dagT_pure rfl ?_
  go_big_quiet_step (fail)
  refine dagT_on ?_
  refine dagT_pure rfl ?_
  go_big_quiet_step (fail)
  refine dagT_on ?_
  refine dagT_told (by kernel_rfl) ?_ ?_
  · intro w2 hC hF
    obtain ⟨c0, c1, c2, c3, c4, c5, c6, c7, c8, c9⟩ := (hA10.keep hC).cells
    exact Gives.value (v := .string ⟨t.value.toArray⟩) (w' := w2) (by go_simp) ⟨hC, Keep.refl _, rfl⟩
  intro vv w2 hC hF hvv
  clear hC hF
  obtain rfl := hvv
  simp only [Act.put, List.setIfInBounds_toArray, List.set_cons_zero, List.set_cons_succ]
  refine dagT_pure rfl ?_
  go_big_quiet_step (fail)
  refine dagT_on ?_
  refine dagT_pure rfl ?_
  go_big_quiet_step (fail)
  refine dagT_on ?_
  refine dagT_pure rfl ?_
  go_big_quiet_step (fail)
  refine dagT_on ?_
  refine dagT_told (by kernel_rfl) ?_ ?_
  · intro w2 hC hF
    obtain ⟨c0, c1, c2, c3, c4, c5, c6, c7, c8, c9⟩ := (hA10.keep hC).cells
    exact Gives.value (v := .string ⟨t.to_.toArray⟩) (w' := w2) (by go_simp) ⟨hC, Keep.refl _, rfl⟩
  intro vv w2 hC hF hvv
  clear hC hF
  obtain rfl := hvv
  simp only [Act.put, List.setIfInBounds_toArray, List.set_cons_zero, List.set_cons_succ]
  refine dagT_pure rfl ?_
  go_big_quiet_step (fail)
  refine dagT_on ?_
  refine dagT_pure rfl ?_
  go_big_quiet_step (fail)
  refine dagT_on ?_
  refine dagT_pure rfl ?_
  go_big_quiet_step (fail)
  refine dagT_on ?_
  refine dagT_told (by kernel_rfl) ?_ ?_
  · intro w2 hC hF
    obtain ⟨c0, c1, c2, c3, c4, c5, c6, c7, c8, c9⟩ := (hA10.keep hC).cells
    exact Gives.value (v := .slice ta t.data.length tc) (w' := w2) (by go_simp) ⟨hC, Keep.refl _, rfl⟩
  intro vv w2 hC hF hvv
  clear hC hF
  obtain rfl := hvv
  simp only [Act.put, List.setIfInBounds_toArray, List.set_cons_zero, List.set_cons_succ]
  refine dagT_pure rfl ?_
  go_big_quiet_step (fail)
  refine dagT_on ?_
  refine dagT_pure rfl ?_
  go_big_quiet_step (fail)
  refine dagT_on ?_
  refine dagT_pure rfl ?_
  go_big_quiet_step (fail)
  refine dagT_on ?_
  refine dagT_pure rfl ?_
  go_big_quiet_step (fail)
  refine dagT_on ?_
  refine dagT_pure rfl ?_
  go_big_quiet_step (fail)
  refine dagT_on ?_
  refine dagT_pure rfl ?_
  go_big_quiet_step (fail)
  refine dagT_on ?_
  refine dagT_told (by kernel_rfl) ?_ ?_
  · intro w2 hC hF
    have v0 := (hC.cell hly).trans y0
    exact Gives.value (v := .int .u8 t.kind) (w' := w2) (by go_simp) ⟨hC, Keep.refl _, rfl⟩
  intro vv w2 hC hF hvv
  clear hC hF
  obtain rfl := hvv
  simp only [Act.put, List.setIfInBounds_toArray, List.set_cons_zero, List.set_cons_succ]
  refine dagT_pure rfl ?_
  go_big_quiet_step (fail)
  refine dagT_on ?_
  refine dagT_pure rfl ?_
  go_big_quiet_step (fail)
  refine dagT_on ?_
  refine dagT_told (by kernel_rfl) ?_ ?_
  · intro w2 hC hF
    obtain ⟨c0, c1, c2, c3, c4, c5, c6, c7, c8, c9⟩ := (hA10.keep hC).cells
    exact Gives.value (v := .int .i64 t.kind) (w' := w2) (by go_simp) ⟨hC, Keep.refl _, rfl⟩
  intro vv w2 hC hF hvv
  clear hC hF
  obtain rfl := hvv
  simp only [Act.put, List.setIfInBounds_toArray, List.set_cons_zero, List.set_cons_succ]
  refine dagT_pure rfl ?_
  go_big_quiet_step (fail)
  refine dagT_on ?_
  refine dagT_pure rfl ?_
  go_big_quiet_step (fail)
  refine dagT_on ?_
  refine dagT_pure rfl ?_
  go_big_quiet_step (fail)
  refine dagT_on ?_
  refine dagT_pure rfl ?_
  go_big_quiet_step (fail)
  refine dagT_on ?_
  refine dagT_pure rfl ?_
  go_big_quiet_step (fail)
  refine dagT_on ?_
  refine dagT_told (by kernel_rfl) ?_ ?_
  · intro w2 hC hF
    have v0 := (hC.cell (p := ⟨gb, 1, none⟩) hly).trans y1
    exact Gives.value (v := .int .u8 t.tenant) (w' := w2) (by go_simp) ⟨hC, Keep.refl _, rfl⟩
  intro vv w2 hC hF hvv
  clear hC hF
  obtain rfl := hvv
  simp only [Act.put, List.setIfInBounds_toArray, List.set_cons_zero, List.set_cons_succ]
  refine dagT_pure rfl ?_
  go_big_quiet_step (fail)
  refine dagT_on ?_
  refine dagT_pure rfl ?_
  go_big_quiet_step (fail)
  refine dagT_on ?_
  refine dagT_told (by kernel_rfl) ?_ ?_
  · intro w2 hC hF
    obtain ⟨c0, c1, c2, c3, c4, c5, c6, c7, c8, c9⟩ := (hA10.keep hC).cells
    exact Gives.value (v := .int .i64 t.tenant) (w' := w2) (by go_simp) ⟨hC, Keep.refl _, rfl⟩
  intro vv w2 hC hF hvv
  clear hC hF
  obtain rfl := hvv
  simp only [Act.put, List.setIfInBounds_toArray, List.set_cons_zero, List.set_cons_succ]
  refine dagT_pure rfl ?_
  go_big_quiet_step (fail)
  refine dagT_on ?_
  refine dagT_pure rfl ?_
  go_big_quiet_step (fail)
  refine dagT_on ?_
  refine dagT_done fun w11 hC11 hF => ?_
  clear hF
  have hA11 := hA10.keep hC11
  have hg11 := (hC11.block _ (Array.getElem?_eq_some_iff.1 hg10).1).trans hg10
  have hO11 := hO10s.keep hC11
  have hw11 := hw10.trans' hC11
  have y0' := (hC11.cell hly).trans y0
  have yf' : w11.frozen? ⟨gb, 0, none⟩ = false := (hC11.frozen hly).trans yf
  clear hA10 hg10 hO10s hw10 y0 y1 yf
  go_upto_region 11 with (fail)
  refine wp_region_seq ?_
  refine seqW_pure rfl ?_
  go_big_quiet_step (fail)
  refine seqW_on ?_
  refine seqW_pure rfl ?_
  go_big_quiet_step (fail)
  refine seqW_on ?_
  refine seqW_gives (by kernel_rfl) ?_
  refine Gives.value (v := .int .u8 t.kind) (w' := w11) (by go_simp) ?_
  simp only [Act.put, List.setIfInBounds_toArray, List.set_cons_zero, List.set_cons_succ]
  refine seqW_pure rfl ?_
  go_big_quiet_step (fail)
  refine seqW_on ?_
  refine seqW_pure rfl ?_
  go_big_quiet_step (fail)
  refine seqW_on ?_
  refine seqW_gives (by kernel_rfl) ?_
  refine Gives.skip (w' := w11.setCell ⟨gb, 0, none⟩ (.int .u8 ((t.kind + 1) % 256))) (by go_simp) ?_
  have hset : ∀ b, b < gb → (w11.setCell ⟨gb, 0, none⟩ (.int .u8 ((t.kind + 1) % 256))).heap[b]? = w11.heap[b]? := fun b hb => Below.heap_setCell w11 ⟨gb, 0, none⟩ _ b (by simp only; omega)
  have hg12 := (hset gs hgsb).trans hg11
  have hA12 : RqAt (w11.setCell ⟨gb, 0, none⟩ (.int .u8 ((t.kind + 1) % 256))) g0 t (.slice ta t.data.length tc) := (hset g0 (by omega)).trans hA11
  have hb12 := (hO11.at (w' := w11.setCell ⟨gb, 0, none⟩ (.int .u8 ((t.kind + 1) % 256))) fun g e _ => hset g (hsv g e)).slB
  have hw12 : Keep w (w11.setCell ⟨gb, 0, none⟩ (.int .u8 ((t.kind + 1) % 256))) := Keep.setCell hw11 hwb _
  generalize w11.setCell ⟨gb, 0, none⟩ (.int .u8 ((t.kind + 1) % 256)) = w12 at *
  clear hset hg11 hA11 hO11 hw11 y0' yf' hsv
  simp only [Act.put, List.setIfInBounds_toArray, List.set_cons_zero, List.set_cons_succ]
  refine seqW_done ?_
  have h0L : 0 < L.length := by rw [HLL.out]; omega
  have hnL : L.length = n := HN.out
  go_upto_region 12 with (fail)
  refine wp_region_dag' (C := fun w' => Keep w12 w') (R := Keep) [some (tB L), none, none, none, none, none, some (tB L), none, some (tV (.int .u8 t.kind)), none, none, some (tV (.int .i64 t.kind)), none, none, none]
    (by kernel_rfl) (by kernel_rfl) (Keep.refl w12).drew ?_
  refine dagT_told (by kernel_rfl) ?_ ?_
  · intro w2 hC hF
    refine Gives.call (by go_simp) (bytes_any gs sv L w2 ((hC.block _ (Array.getElem?_eq_some_iff.1 hg12).1).trans hg12) (hb12.keep hC) (by omega)) ?_
    rintro e w' ⟨v', rfl, hO, hk⟩
    exact ⟨_, rfl, hC.trans' hk, hk, hO.slB⟩
  intro b0 w2 hC hF hb0
  clear hC hF
  obtain ⟨ab0, cb0, rfl, -, -, -⟩ := SlB.form hb0
  rw [hnL]
  simp only [Act.put, List.setIfInBounds_toArray, List.set_cons_zero, List.set_cons_succ]
  refine dagT_pure rfl ?_
  go_big_quiet_step (fail)
  refine dagT_on ?_
  refine dagT_pure rfl ?_
  go_big_quiet_step (fail)
  refine dagT_on ?_
  refine dagT_pure rfl ?_
  go_big_quiet_step (fail)
  refine dagT_on ?_
  refine dagT_pure rfl ?_
  go_big_quiet_step (fail)
  refine dagT_on ?_
  refine dagT_pure rfl ?_
  go_big_quiet_step (fail)
  refine dagT_on ?_
  refine dagT_told (by kernel_rfl) ?_ ?_
  · intro w2 hC hF
    refine Gives.call (by go_simp) (bytes_any gs sv L w2 ((hC.block _ (Array.getElem?_eq_some_iff.1 hg12).1).trans hg12) (hb12.keep hC) (by omega)) ?_
    rintro e w' ⟨v', rfl, hO, hk⟩
    exact ⟨_, rfl, hC.trans' hk, hk, hO.slB⟩
  intro b6 w2 hC hF hb6
  clear hC hF
  obtain ⟨ab6, cb6, rfl, -, -, -⟩ := SlB.form hb6
  obtain ⟨bb6, ob6, rfl, hcb6⟩ := SlB.cells hb6 h0L
  rw [hnL]
  simp only [Act.put, List.setIfInBounds_toArray, List.set_cons_zero, List.set_cons_succ]
  refine dagT_pure rfl ?_
  go_big_quiet_step (fail)
  refine dagT_on ?_
  refine dagT_told (by kernel_rfl) ?_ ?_
  · intro w2 hC hF
    have hf := ((hF 6 (by kernel_rfl)).1 rfl)
    obtain ⟨b', o', e', hc'⟩ := SlB.cells hf h0L
    simp only [Option.some.injEq, Addr.mk.injEq, and_true] at e'
    obtain ⟨rfl, rfl⟩ := e'
    have v0 := hc' 0 h0L
    rw [Nat.add_zero, HB0.out h0L] at v0
    exact Gives.value (v := .int .u8 t.kind) (w' := w2) (by go_simp) ⟨hC, Keep.refl _, rfl⟩
  intro vv w2 hC hF hvv
  clear hC hF
  obtain rfl := hvv
  simp only [Act.put, List.setIfInBounds_toArray, List.set_cons_zero, List.set_cons_succ]
  refine dagT_pure rfl ?_
  go_big_quiet_step (fail)
  refine dagT_on ?_
  refine dagT_pure rfl ?_
  go_big_quiet_step (fail)
  refine dagT_on ?_
  refine dagT_told (by kernel_rfl) ?_ ?_
  · intro w2 hC hF
    obtain ⟨c0, c1, c2, c3, c4, c5, c6, c7, c8, c9⟩ := (hA12.keep hC).cells
    exact Gives.value (v := .int .i64 t.kind) (w' := w2) (by go_simp) ⟨hC, Keep.refl _, rfl⟩
  intro vv w2 hC hF hvv
  clear hC hF
  obtain rfl := hvv
  simp only [Act.put, List.setIfInBounds_toArray, List.set_cons_zero, List.set_cons_succ]
  refine dagT_pure rfl ?_
  go_big_quiet_step (fail)
  refine dagT_on ?_
  refine dagT_pure rfl ?_
  go_big_quiet_step (fail)
  refine dagT_on ?_
  refine dagT_pure rfl ?_
  go_big_quiet_step (fail)
  refine dagT_on ?_
  refine dagT_done fun w2 hC hF => ?_
  clear hF
  go_wp2
  go_ret
  exact ⟨rfl, hw12.trans' hC⟩
end Go.Proofs.Ytndndklaaegifaa
