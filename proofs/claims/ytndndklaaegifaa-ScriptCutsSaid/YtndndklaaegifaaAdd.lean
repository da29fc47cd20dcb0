/- The walk of Add. -/
import Derived.Test.YtndndklaaegifaaReqApp
namespace Go.Proofs.Ytndndklaaegifaa
open Go Go.RowKit
attribute [local irreducible] Go.wpQuiet

/-- all blocks but those of T are as they were -/
structure ButS (w w' : World) (T : Nat → Prop) : Prop where
  os : w'.os = w.os
  tape : w'.tape = w.tape
  output : w'.output = w.output
  size : w.heap.size ≤ w'.heap.size
  block : ∀ b, b < w.heap.size → ¬ T b → w'.heap[b]? = w.heap[b]?
theorem ButS.refl (w : World) (T : Nat → Prop) : ButS w w T := ⟨rfl, rfl, rfl, Nat.le_refl _, fun _ _ _ => rfl⟩
theorem ButS.of_keep {w w' : World} {T : Nat → Prop} (h : Keep w w') : ButS w w' T := ⟨h.os, h.tape, h.output, h.size, fun b hb _ => h.block b hb⟩
theorem ButS.keep {w w1 w2 : World} {T : Nat → Prop} (h : ButS w w1 T) (k : Keep w1 w2) : ButS w w2 T :=
  ⟨k.os.trans h.os, k.tape.trans h.tape, k.output.trans h.output, Nat.le_trans h.size k.size, fun b hb ht => (k.block b (Nat.lt_of_lt_of_le hb h.size)).trans (h.block b hb ht)⟩
theorem ButS.grown {w w1 w2 : World} {T : Nat → Prop} {row : Option Nat} (h : ButS w w1 T) (g : w1.grownBy w2 row) (hr : ∀ k, row = some k → k < w.heap.size → T k) : ButS w w2 T :=
  ⟨g.os.trans h.os, g.tape.trans h.tape, g.output.trans h.output, Nat.le_trans h.size g.size, fun b hb ht => (g.block b (Nat.lt_of_lt_of_le hb h.size) (fun e => ht (hr b e.symm hb))).trans (h.block b hb ht)⟩
theorem ButS.set {w w1 : World} {T : Nat → Prop} (h : ButS w w1 T) (p : Addr) (u : Value) (hp : T p.block) : ButS w (w1.setCell p u) T :=
  ⟨h.os, h.tape, h.output, by have := h.size; simpa [World.setCell] using this, fun b hb ht => (Below.heap_setCell w1 p u b (fun e => ht (e ▸ hp))).trans (h.block b hb ht)⟩
theorem ButS.below {w w' : World} {T : Nat → Prop} (h : ButS w w' T) (B : Nat) (hB : B ≤ w.heap.size) (hT : ∀ b, T b → B ≤ b) : Below B w w' :=
  ⟨h.os, h.tape, h.output, h.size, fun b hb => h.block b (by omega) (fun ht => by have := hT b ht; omega)⟩

theorem ButS.weak {w w' : World} {T U : Nat → Prop} (h : ButS w w' T) (hTU : ∀ b, b < w.heap.size → T b → U b) : ButS w w' U := ⟨h.os, h.tape, h.output, h.size, fun b hb hu => h.block b hb fun ht => hu (hTU b hb ht)⟩
theorem ButS.trans {a b c : World} {T : Nat → Prop} (h : ButS a b T) (k : ButS b c T) : ButS a c T :=
  ⟨k.os.trans h.os, k.tape.trans h.tape, k.output.trans h.output, Nat.le_trans h.size k.size, fun x hx ht => (k.block x (Nat.lt_of_lt_of_le hx h.size) ht).trans (h.block x hx ht)⟩
theorem ButS.drew {w w' : World} {T : Nat → Prop} (h : ButS w w' T) : ButS w w'.drew T := ⟨h.os, h.tape, h.output, h.size, h.block⟩
/-- a slice of requests, it and their data in blocks of S -/
def SlQin (w : World) (S : Nat → Prop) (v : Value) (qs : List Rq) : Prop :=
  ∃ css, SlC w v 10 css ∧ (css ≠ [] → In S v) ∧ css.length = qs.length ∧ ∀ i (h : i < css.length) (h' : i < qs.length), ∃ dv, css[i] = qs[i].cells dv ∧ SlB w dv qs[i].data ∧ (qs[i].data ≠ [] → In S dv)
theorem SlQin.slq {w : World} {S : Nat → Prop} {v : Value} {qs : List Rq} (h : SlQin w S v qs) : SlQ w v qs := by
  obtain ⟨css, h1, _, h2, h3⟩ := h
  exact ⟨css, h1, h2, fun i h h' => by
    obtain ⟨dv, e, hd, _⟩ := h3 i h h'
    exact ⟨dv, e, hd⟩⟩
theorem SlQin.at {w w' : World} {S : Nat → Prop} {v : Value} {qs : List Rq} (h : SlQin w S v qs) (hb : ∀ b, b < w.heap.size → S b → w'.heap[b]? = w.heap[b]?) : SlQin w' S v qs := by
  obtain ⟨css, ⟨ao, cap, hv, hm, hcap, hc⟩, hin, hl, hd⟩ := h
  refine ⟨css, ⟨ao, cap, hv, hm, hcap, fun i hi => ?_⟩, hin, hl, fun i hi hi' => ?_⟩
  · obtain ⟨b, off, ha, hcell⟩ := hc i hi
    refine ⟨b, off, ha, fun j c hj => ?_⟩
    have h1 := hcell j c hj
    have hS : S b := hin (fun e => by rw [e] at hi; simp at hi) ⟨b, off, none⟩ css.length cap (by rw [hv, ha])
    exact (World.cell?_of_block (w := w) (a := ⟨b, off + i * 10 + j, none⟩) (hb b (World.block_lt_of_cell? w _ h1) hS)).trans h1
  · obtain ⟨dv, e, hs, hi2⟩ := hd i hi hi'
    exact ⟨dv, e, hs.at hi2 hb, hi2⟩
/-- an element's cells -/
theorem SlQin.elem {w : World} {S : Nat → Prop} {ao : Option Addr} {n cap : Nat} {qs : List Rq} (h : SlQin w S (.slice ao n cap) qs) (i : Nat) (hi : i < qs.length) : ∃ b off, ao = some ⟨b, off, none⟩ ∧ ∃ dv, SlB w dv qs[i].data ∧ (qs[i].data ≠ [] → In S dv) ∧ ∀ j c, (qs[i].cells dv)[j]? = some c → w.cell? ⟨b, off + i * 10 + j, none⟩ = some c := by
  obtain ⟨css, h1, _, h2, h3⟩ := h
  obtain ⟨b, off, ha, hc⟩ := h1.cells (by omega)
  obtain ⟨dv, e, hd, hin⟩ := h3 i (by omega) hi
  exact ⟨b, off, ha, dv, hd, hin, fun j c hj => hc i (by omega) j c (by rw [e]; exact hj)⟩

theorem In.mono {S S' : Nat → Prop} {v : Value} (h : In S v) (hs : ∀ b, S b → S' b) : In S' v := fun a n c e => hs _ (h a n c e)
/-- a script's bytes, ahead of an append -/
def oScr (gs base : Nat) (sw : Value) (L : List UInt8) : Tell := ⟨fun _ w S => w.heap[gs]? = some (.cells #[sw] 28) ∧ S gs ∧ Own w base 5 sw (L.map B) ∧ In S sw, fun _ w w' S S' hs hb ⟨h1, h2, h3, h4⟩ =>
  have h5 := hb gs (Array.getElem?_eq_some_iff.1 h1).1 h2
  have h6 := h3.lasts h4 hb
  ⟨h5.2.trans h1, h5.1, h6.1, h6.2⟩⟩
/-- behind it -/
def oScrApp (gs base : Nat) (sw : Value) (L : List UInt8) (m : Nat) : Tell := ⟨fun v w S => w.heap[gs]? = some (.cells #[sw] 28) ∧ S gs ∧ Own w base 5 v (L.map B) ∧ In S v ∧ ∀ g, v.ownBlock = some g → sw.ownBlock = some g ∨ m ≤ g, fun _ w w' S S' hs hb ⟨h1, h2, h3, h4, h7⟩ =>
  have h5 := hb gs (Array.getElem?_eq_some_iff.1 h1).1 h2
  have h6 := h3.lasts h4 hb
  ⟨h5.2.trans h1, h5.1, h6.1, h6.2, h7⟩⟩
/-- and kept -/
def oScrEnd (gs base : Nat) (sw : Value) (L : List UInt8) (m : Nat) : Tell := ⟨fun _ w S => ∃ v, w.heap[gs]? = some (.cells #[v] 28) ∧ S gs ∧ Own w base 5 v (L.map B) ∧ In S v ∧ ∀ g, v.ownBlock = some g → sw.ownBlock = some g ∨ m ≤ g, fun _ w w' S S' hs hb ⟨v, h1, h2, h3, h4, h7⟩ =>
  have h5 := hb gs (Array.getElem?_eq_some_iff.1 h1).1 h2
  have h6 := h3.lasts h4 hb
  ⟨v, h5.2.trans h1, h5.1, h6.1, h6.2, h7⟩⟩
theorem told_scrApp {acc con : Array Nat} {n : Nat} {C : World → Prop} {i : Nat} {o : Oper} {F : Nat → Fact} {a : Act} (s x : Operand)
    (ho : o.op = .call { callee := .builtin .append, args := #[s, x], argTypes := #[26, 26] }) (gs base K m : Nat) (sw : Value) (L k : List UInt8) (hs : a.eval s = sw) (hn : n ≤ gs) (hgb : gs < base)
    (hbase : ∀ w, C w → base ≤ w.heap.size ∧ m ≤ w.heap.size) (hC : ∀ w w', C w → w.grownBy w' sw.ownBlock → C w') (hlen : L.length + k.length ≤ 140737488355328) (hK : (con.getD i 0).testBit K = true)
    (hF : ∀ w own, C w → (∀ k, (acc.getD i 0).testBit k = true → F k w (blocksOf n own k)) → (oScr gs base sw L).φ undef w (blocksOf n own K) ∧ SlB w (a.eval x) k) :
    toldAt Try.prog acc con n C i o (oScrApp gs base sw (L ++ k) m) F a := by
  intro w own hCw hf
  obtain ⟨⟨h1, h2, h3, h4⟩, hx⟩ := hF w own hCw hf
  obtain ⟨hb1, hb2⟩ := hbase w hCw
  have hl1 : (L.map B).length + (k.map B).length ≤ maxLen := by unfold maxLen; simp; omega
  have hl2 : ((L.map B).length + (k.map B).length) * 1 ≤ 140737488355328 := by simp; omega
  obtain ⟨v', w', hr, h5, h6⟩ := run_append_sl (P := Try.prog) elemB o.type h3 hx (B_oneCell k) hl1 hl2 hb1
  have hwh := append_where elemB o.type h3 hx (B_oneCell k) hl1 hl2 hb1 hr
  have hown : ∀ b, n ≤ b → blocksOf n own K b → own b = K := fun b hb h => h.elim (fun h => absurd h (by omega)) id
  have hcon : ∀ g, sw.ownBlock = some g → (con.getD i 0).testBit (own g) = true := fun g hg => by
    rw [hown g (by have := (World.ownsRow.lt h3 g hg).1; omega) (by
      cases sw <;> try (simp [Value.ownBlock] at hg)
      rename_i ao n' c'
      cases ao with
      | none => simp [Value.ownBlock] at hg
      | some ad =>
        simp only [Value.ownBlock, Option.some.injEq] at hg
        rw [← hg]
        exact h4 _ _ _ rfl)]
    exact hK
  have hgn : sw.ownBlock ≠ some gs := fun e => by have := (World.ownsRow.lt h3 gs e).1; omega
  refine Gives.value (v := v') (w' := w') ?_ ⟨hC w w' hCw h6, ⟨h6.size, fun b hb hor => h6.block b hb fun e => ?_⟩, ?_, ?_, by rw [List.map_append]; exact h5, Own.inOf h5 fun g hg => ?_, fun g hg => (hwh g hg).imp id fun h => by omega⟩
  · unfold execOp
    simp only [ho, resolve, invoke, builtin, Sem.run_bind, Sem.run_pure, Result.andThen_ok, List.map_toArray, List.map_cons, List.map_nil, hs, hr]
  · have h7 := (World.ownsRow.lt h3 b e.symm).1
    rcases hor with h | h
    · omega
    · rw [hcon b e.symm] at h; cases h
  · exact (h6.block gs (Array.getElem?_eq_some_iff.1 h1).1 (fun e => hgn e.symm)).trans h1
  · refine .inr ?_
    unfold ownNext
    rw [if_pos (.inr (by rw [hown gs hn h2]; exact hK))]
  · refine .inr ?_
    unfold ownNext
    rcases hwh g hg with h | h
    · rw [if_pos (.inr (hcon g h))]
    · rw [if_pos (.inl h)]
theorem told_scrPut {acc con : Array Nat} {n : Nat} {C : World → Prop} {i : Nat} {o : Oper} {F : Nat → Fact} {a : Act} (gs base K m : Nat) (sw v : Value) (L : List UInt8) (hn : n ≤ gs) (hgb : gs < base)
    (hC : ∀ w u, C w → C (w.setCell ⟨gs, 0, none⟩ u)) (hK : (con.getD i 0).testBit K = true)
    (hr : ∀ w, w.cell? ⟨gs, 0, none⟩ = some sw → w.frozen? ⟨gs, 0, none⟩ = false → (execOp a.eval o).run Try.prog w = .ok .skip (w.setCell ⟨gs, 0, none⟩ v))
    (hF : ∀ w own, C w → (∀ k, (acc.getD i 0).testBit k = true → F k w (blocksOf n own k)) → (oScrApp gs base sw L m).φ v w (blocksOf n own K)) :
    toldAt Try.prog acc con n C i o (oScrEnd gs base sw L m) F a := by
  intro w own hCw hf
  obtain ⟨h1, h2, h3, h4, h5⟩ := hF w own hCw hf
  have hc0 : w.cell? ⟨gs, 0, none⟩ = some sw := by unfold World.cell?; simp [h1]
  have hf0 : w.frozen? ⟨gs, 0, none⟩ = false := by unfold World.frozen?; simp [h1]
  have hown : ∀ b, n ≤ b → blocksOf n own K b → own b = K := fun b hb h => h.elim (fun h => absurd h (by omega)) id
  have hgn : v.ownBlock ≠ some gs := fun e => by have := (World.ownsRow.lt h3 gs e).1; omega
  refine Gives.skip (hr w hc0 hf0) ⟨hC w v hCw, ⟨by simp [World.setCell], fun b hb hor => Below.heap_setCell _ _ _ _ fun e => ?_⟩, v, ?_, ?_, ?_, Own.inOf h3 fun g hg => ?_, h5⟩
  · simp only at e
    subst e
    rcases hor with h | h
    · omega
    · rw [hown _ hn h2, hK] at h; cases h
  · simp [World.setCell, Array.getElem?_modify, h1]
  · refine .inr ?_
    unfold ownNext
    rw [if_pos (.inr (by rw [hown gs hn h2]; exact hK))]
  · exact ownsRow_setCell_below h3 (by simp only; omega) _
  · refine .inr ?_
    have hg1 := (World.ownsRow.lt h3 g hg).1
    have hs : blocksOf n own K g := by
      cases v <;> try (simp [Value.ownBlock] at hg)
      rename_i ao n' c'
      cases ao with
      | none => simp [Value.ownBlock] at hg
      | some ad =>
        simp only [Value.ownBlock, Option.some.injEq] at hg
        rw [← hg]
        exact h4 _ _ _ rfl
    unfold ownNext
    rw [if_pos (.inr (by rw [hown g (by omega) hs]; exact hK))]
theorem wrap_u (x : Int) : IntKind.u64.wrap x = ((u64 x : Nat) : Int) := by
  rw [IntKind.wrap_u64]
  unfold u64
  omega
theorem one_be (x : Nat) : Pk.be x 1 = [UInt8.ofNat x] := by
  have := be_one x []
  simpa using this
theorem txt_eq (s : List UInt8) : txt s = UInt8.ofNat s.length :: s := be_one s.length s

set_option maxRecDepth 100000 in
set_option maxHeartbeats 8000000 in
theorem add_any (gs base : Nat) (v sv : Value) (qs : List Rq) (l : List UInt8) (w : World) (hg : w.heap[gs]? = some (.cells #[sv] 28)) (hO : Own w base 5 sv (l.map B)) (hgb : gs < base) (hbase : base ≤ w.heap.size)
    (hS : SlQin w (fun b => b ≠ gs ∧ sv.ownBlock ≠ some b ∧ b < w.heap.size) v qs) (hfit : ∀ q ∈ qs, q.Fits) (hlen : l.length + (encL qs).length ≤ 10000000) :
    Calls Try.prog 11 #[.pointer (some ⟨gs, 0, none⟩), v] w fun e w' => e = .returned (.tuple #[]) ∧ ∃ sv', w'.heap[gs]? = some (.cells #[sv'] 28) ∧ Own w' base 5 sv' ((l ++ encL qs).map B) ∧ (∀ g, sv'.ownBlock = some g → sv.ownBlock = some g ∨ w.heap.size ≤ g) ∧ ButS w w' (fun b => b = gs ∨ sv.ownBlock = some b) := by
  obtain ⟨qa, qc, rfl, hm, hc⟩ := hS.slq.form
  have HF := Lib.hid hfit
  clear hfit
  unfold maxLen at hm
  go_enter Try.func11, Try.ntmps11
  go_wp2
  go_loopw [9] (fun i wr => ∃ (j : Nat) (sw : Value), j ≤ qs.length ∧ i = .int .i64 j ∧ wr.heap[gs]? = some (.cells #[sw] 28) ∧ Own wr base 5 sw ((l ++ encL (qs.take j)).map B) ∧ (∀ g, sw.ownBlock = some g → sv.ownBlock = some g ∨ w.heap.size ≤ g) ∧ ButS w wr (fun b => b = gs ∨ sv.ownBlock = some b)) (fun i _ => qs.length - (intOf i).toNat)
  case atStart => exact ⟨0, sv, Nat.zero_le _, rfl, hg, by simpa [encL] using hO, fun g h => .inl h, ButS.refl _ _⟩
  case round =>
    obtain ⟨j, sw, hj, rfl, hgr, hOr, hwr, hbr⟩ := hrel
    clear hO hg
    by_cases hjn : j < qs.length
    rotate_left
    · have hjl : j = qs.length := by omega
      rw [hjl, List.take_length] at hOr
      have hjd : ¬ ((j : Int) < (qs.length : Int)) := by omega
      clear hjl hjn
      go_wp2
      exact bodyPost_end (v := .tuple #[]) (by simp [results, Try.results11, go_sem]) rfl ⟨rfl, sw, hgr, by rw [List.map_append] at hOr; exact hOr, hwr, hbr⟩
    have hq := hS.at (w' := wr) fun b hb hs => hbr.block b hb (fun h => h.elim hs.1 hs.2.1)
    obtain ⟨b, off, rfl, dv, hdv, hdin, hcell⟩ := hq.elem j hjn
    have hf := HF.out qs[j] (List.getElem_mem _)
    have htk : encL (qs.take (j + 1)) = encL (qs.take j) ++ qs[j].enc := by
      unfold encL
      rw [List.take_add_one, List.getElem?_eq_getElem hjn, List.flatMap_append]
      simp
    have hbd : (encL (qs.take (j + 1))).length ≤ (encL qs).length := by
      have h : encL qs = encL (qs.take (j + 1)) ++ encL (qs.drop (j + 1)) := by
        unfold encL
        rw [← List.flatMap_append, List.take_append_drop]
      rw [h, List.length_append]
      omega
    have HTK := Lib.hid htk
    rw [htk, List.length_append] at hbd
    clear htk
    generalize qs[j] = q at *
    have x0 := hcell 0 _ rfl
    have x1 := hcell 1 _ rfl
    have x2 := hcell 2 _ rfl
    have x3 := hcell 3 _ rfl
    have x4 := hcell 4 _ rfl
    have x5 := hcell 5 _ rfl
    have x6 := hcell 6 _ rfl
    have x7 := hcell 7 _ rfl
    have x8 := hcell 8 _ rfl
    have x9 := hcell 9 _ rfl
    rw [Nat.add_zero] at x0
    obtain ⟨da, dc, rfl, hdm, hdc, -⟩ := hdv.form
    have hjl : (j : Int) < (qs.length : Int) := by omega
    clear hcell hq
    go_upto_region 3 with (fail)
    have hA3 : RqAt (wr.alloc (.cells #[.int .i64 q.kind, .int .i64 q.tenant, .int .i64 q.handle, .int .i64 q.table, .string ⟨q.key.toArray⟩, .string ⟨q.value.toArray⟩, .string ⟨q.to_.toArray⟩, .int .i64 q.n, .int .u64 (q.mask : Int), .slice da q.data.length dc] 34)) wr.heap.size q (.slice da q.data.length dc) := heap_alloc_new wr _
    have hk3 := Keep.alloc wr (.cells #[.int .i64 q.kind, .int .i64 q.tenant, .int .i64 q.handle, .int .i64 q.table, .string ⟨q.key.toArray⟩, .string ⟨q.value.toArray⟩, .string ⟨q.to_.toArray⟩, .int .i64 q.n, .int .u64 (q.mask : Int), .slice da q.data.length dc] 34)
    have hlt : gs < wr.heap.size := (Array.getElem?_eq_some_iff.1 hgr).1
    have hol : ∀ g, sw.ownBlock = some g → g < wr.heap.size := fun g e => (World.ownsRow.lt hOr g e).2
    clear x0 x1 x2 x3 x4 x5 x6 x7 x8 x9
    generalize hgq : wr.heap.size = gq at *
    have HGQ := Lib.hid hgq
    generalize wr.alloc (.cells #[.int .i64 q.kind, .int .i64 q.tenant, .int .i64 q.handle, .int .i64 q.table, .string ⟨q.key.toArray⟩, .string ⟨q.value.toArray⟩, .string ⟨q.to_.toArray⟩, .int .i64 q.n, .int .u64 (q.mask : Int), .slice da q.data.length dc] 34) = w3 at *
    obtain ⟨e0, e1, -, e3, -⟩ := hA3.cells
    go_upto_region 4 with (fail)
    have hf' := hf
    obtain ⟨hfk, hft, hfh, hfb, hfk2, hfv, hft2, hfn, hfm, hfd⟩ := hf'
    have h3 : SlB (w3.alloc (.cells #[.int .u8 (q.kind % 256), .int .u8 (q.tenant % 256), .int .u8 (q.table % 256)] 5)) (.slice (some ⟨w3.heap.size, 0, none⟩) 3 3) ([UInt8.ofNat q.kind.toNat, UInt8.ofNat q.tenant.toNat, UInt8.ofNat q.table.toNat]) := by
      have e : ∀ x : Int, 0 ≤ x → Value.int .u8 (x % 256) = B (UInt8.ofNat x.toNat) := fun x hx => by rw [← byte_mod, Int.toNat_of_nonneg hx]
      rw [e _ hfk.1, e _ hft.1, e _ hfb.1]
      exact Sl.laid w3 _ _ _ _ 3 3 rfl rfl (by decide) (Nat.le_refl _)
    have hk4 := Keep.alloc w3 (.cells #[.int .u8 (q.kind % 256), .int .u8 (q.tenant % 256), .int .u8 (q.table % 256)] 5)
    have hA4 := hA3.keep hk4
    have hk04 := hk3.trans' hk4
    have hg3 : gq < w3.heap.size := (Array.getElem?_eq_some_iff.1 hA3).1
    have hb4w : gq < w3.heap.size := hg3
    clear e0 e1 e3 hA3 hk3 hk4
    generalize w3.alloc (.cells #[.int .u8 (q.kind % 256), .int .u8 (q.tenant % 256), .int .u8 (q.table % 256)] 5) = w4 at *
    generalize w3.heap.size = gb at *
    generalize hL0 : [UInt8.ofNat q.kind.toNat, UInt8.ofNat q.tenant.toNat, UInt8.ofNat q.table.toNat] = L0 at *
    have hl0 : L0.length = 3 := by rw [← hL0]; rfl
    have HL0 := Lib.hid hL0
    clear hL0
    refine wp_region_ord' [none, none, some (oV (.int .i64 q.handle)), none, some (oB (L0 ++ Pk.be (u64 q.handle) 8)), none, some (oV (.int .i64 q.n)), none, some (oB ((L0 ++ Pk.be (u64 q.handle) 8) ++ Pk.be q.n.toNat 2)), none]
      #[0, 0, 0, 0, 0, 0, 0, 0, 0, 0] (w4.heap.size) (fun w' => Keep w4 w') (by kernel_rfl) (by kernel_rfl) (by kernel_rfl) ((Keep.refl w4).drew) ?_
    refine ordT_pure rfl ?_
    go_big_quiet_step (fail)
    refine ordT_on ?_
    refine ordT_pure rfl ?_
    go_big_quiet_step (fail)
    refine ordT_on ?_
    refine ordT_same (by kernel_rfl) (fun w2 hC => ?_) ?_
    · obtain ⟨y0, y1, y2, y3, y4, y5, y6, y7, y8, y9⟩ := (hA4.keep hC).cells
      go_simp
    simp only [Act.put, List.setIfInBounds_toArray, List.set_cons_zero, List.set_cons_succ]
    refine ordT_pure rfl ?_
    go_big_quiet_step (fail)
    refine ordT_on ?_
    refine ordT_call (by kernel_rfl) keepK (fun w2 own hC hF => ?_) ?_
    · refine ⟨_, _, by first | (go_simp; done) | (go_simp; rfl), (put_at _ L0 8 (u64 q.handle) _ _ w2 rfl (wrap_u q.handle) (h3.keep hC) (by omega) (u64_lt _) (by omega)).mono ?_⟩
      rintro e w' ⟨v, rfl, hO, hk⟩
      exact ⟨v, rfl, hk, fun S hS => ⟨hO.sl, fun _ => Own.inOf hO fun g hg => hS g (.inr (World.ownsRow.lt hO g hg).1)⟩⟩
    rintro x4 wx4 ownx4 hCx4 hx4
    obtain ⟨ax4, nx4, cx4, rfl⟩ := Sl.shape hx4.1
    simp only [Act.put, List.setIfInBounds_toArray, List.set_cons_zero, List.set_cons_succ]
    refine ordT_pure rfl ?_
    go_big_quiet_step (fail)
    refine ordT_on ?_
    refine ordT_same (by kernel_rfl) (fun w2 hC => ?_) ?_
    · obtain ⟨y0, y1, y2, y3, y4, y5, y6, y7, y8, y9⟩ := (hA4.keep hC).cells
      go_simp
    simp only [Act.put, List.setIfInBounds_toArray, List.set_cons_zero, List.set_cons_succ]
    refine ordT_pure rfl ?_
    go_big_quiet_step (fail)
    refine ordT_on ?_
    refine ordT_call (by kernel_rfl) keepK (fun w2 own hC hF => ?_) ?_
    · have h1 := (((hF 4 rfl).2 rfl).1 rfl)
      refine ⟨_, _, by first | (go_simp; done) | (go_simp; rfl), (put_at _ _ 2 q.n.toNat _ _ w2 rfl (Int.toNat_of_nonneg hfn.1).symm h1.1 (by omega) (by omega) (by rw [List.length_append, Pk.be_length]; omega)).mono ?_⟩
      rintro e w' ⟨v, rfl, hO, hk⟩
      exact ⟨v, rfl, hk, fun S hS => ⟨hO.sl, fun _ => Own.inOf hO fun g hg => hS g (.inr (World.ownsRow.lt hO g hg).1)⟩⟩
    rintro x8 wx8 ownx8 hCx8 hx8
    obtain ⟨ax8, nx8, cx8, rfl⟩ := Sl.shape hx8.1
    simp only [Act.put, List.setIfInBounds_toArray, List.set_cons_zero, List.set_cons_succ]
    refine ordT_pure rfl ?_
    go_big_quiet_step (fail)
    refine ordT_on ?_
    refine ordT_done fun w5 own hC5 hF => ?_
    have h5 := (((hF 8).1 rfl)).1
    clear hF hx4 hx8 h3
    have h5' : SlB w5 (.slice ax8 nx8 cx8) ((L0 ++ Pk.be (u64 q.handle) 8) ++ Pk.be q.n.toNat 2) := h5
    generalize hL1 : (L0 ++ Pk.be (u64 q.handle) 8) ++ Pk.be q.n.toNat 2 = L1 at *
    have hl1 : L1.length = 13 := by rw [← hL1, List.length_append, List.length_append, Pk.be_length, Pk.be_length]; omega
    have HL1 := Lib.hid hL1
    have hA5 := hA4.keep hC5
    have hk05 := hk04.trans' hC5
    clear hL1 h5 hA4 hk04 hC5
    go_upto_region 5 with (fail)
    refine wp_region_ord' [none, none, none, some (oV (.string ⟨q.key.toArray⟩)), some (oB (L1 ++ txt q.key)), none, none, some (oV (.string ⟨q.value.toArray⟩)), some (oB ((L1 ++ txt q.key) ++ txt q.value)), none, some (oV (.string ⟨q.to_.toArray⟩)), some (oOwn w5.heap.size 5 ((((L1 ++ txt q.key) ++ txt q.value) ++ txt q.to_).map B)), none]
      #[0, 0, 0, 0, 0, 0, 0, 0, 0, 0, 0, 0, 0] (w5.heap.size) (fun w' => Keep w5 w') (by kernel_rfl) (by kernel_rfl) (by kernel_rfl) ((Keep.refl w5).drew) ?_
    refine ordT_pure rfl ?_
    go_big_quiet_step (fail)
    refine ordT_on ?_
    refine ordT_pure rfl ?_
    go_big_quiet_step (fail)
    refine ordT_on ?_
    refine ordT_pure rfl ?_
    go_big_quiet_step (fail)
    refine ordT_on ?_
    refine ordT_same (by kernel_rfl) (fun w2 hC => ?_) ?_
    · obtain ⟨y0, y1, y2, y3, y4, y5, y6, y7, y8, y9⟩ := (hA5.keep hC).cells
      go_simp
    simp only [Act.put, List.setIfInBounds_toArray, List.set_cons_zero, List.set_cons_succ]
    refine ordT_call (by kernel_rfl) keepK (fun w2 own hC hF => ?_) ?_
    · have h1 := h5'.keep hC
      rw [txt_eq q.key]
      refine ⟨_, _, by first | (go_simp; done) | (go_simp; rfl), (text_any _ (L1) q.key w2 h1 (by omega) (by (try simp only [List.length_append, txt_length]); omega)).mono ?_⟩
      rintro e w' ⟨v, rfl, hO, hk⟩
      exact ⟨v, rfl, hk, fun S hS => ⟨hO.sl, fun _ => Own.inOf hO fun g hg => hS g (.inr (World.ownsRow.lt hO g hg).1)⟩⟩
    rintro x4 wx4 ownx4 hCx4 hx4
    obtain ⟨ax4, nx4, cx4, rfl⟩ := Sl.shape hx4.1
    simp only [Act.put, List.setIfInBounds_toArray, List.set_cons_zero, List.set_cons_succ]
    refine ordT_pure rfl ?_
    go_big_quiet_step (fail)
    refine ordT_on ?_
    refine ordT_pure rfl ?_
    go_big_quiet_step (fail)
    refine ordT_on ?_
    refine ordT_same (by kernel_rfl) (fun w2 hC => ?_) ?_
    · obtain ⟨y0, y1, y2, y3, y4, y5, y6, y7, y8, y9⟩ := (hA5.keep hC).cells
      go_simp
    simp only [Act.put, List.setIfInBounds_toArray, List.set_cons_zero, List.set_cons_succ]
    refine ordT_call (by kernel_rfl) keepK (fun w2 own hC hF => ?_) ?_
    · have h1 := ((((hF 4 rfl).2 rfl).1 rfl)).1
      rw [txt_eq q.value]
      refine ⟨_, _, by first | (go_simp; done) | (go_simp; rfl), (text_any _ ((L1 ++ txt q.key)) q.value w2 h1 (by omega) (by (try simp only [List.length_append, txt_length]); omega)).mono ?_⟩
      rintro e w' ⟨v, rfl, hO, hk⟩
      exact ⟨v, rfl, hk, fun S hS => ⟨hO.sl, fun _ => Own.inOf hO fun g hg => hS g (.inr (World.ownsRow.lt hO g hg).1)⟩⟩
    rintro x8 wx8 ownx8 hCx8 hx8
    obtain ⟨ax8, nx8, cx8, rfl⟩ := Sl.shape hx8.1
    simp only [Act.put, List.setIfInBounds_toArray, List.set_cons_zero, List.set_cons_succ]
    refine ordT_pure rfl ?_
    go_big_quiet_step (fail)
    refine ordT_on ?_
    refine ordT_same (by kernel_rfl) (fun w2 hC => ?_) ?_
    · obtain ⟨y0, y1, y2, y3, y4, y5, y6, y7, y8, y9⟩ := (hA5.keep hC).cells
      go_simp
    simp only [Act.put, List.setIfInBounds_toArray, List.set_cons_zero, List.set_cons_succ]
    refine ordT_call (by kernel_rfl) keepK (fun w2 own hC hF => ?_) ?_
    · have h1 := ((((hF 8 rfl).2 rfl).1 rfl)).1
      rw [txt_eq q.to_]
      refine ⟨_, _, by first | (go_simp; done) | (go_simp; rfl), (text_any _ ((L1 ++ txt q.key) ++ txt q.value) q.to_ w2 h1 (by omega) (by simp only [List.length_append, txt_length]; omega)).mono ?_⟩
      rintro e w' ⟨v, rfl, hO, hk⟩
      exact ⟨v, rfl, hk, fun S hS => ⟨hO.mono hC.size, Own.inOf hO fun g hg => hS g (.inr (World.ownsRow.lt hO g hg).1)⟩⟩
    rintro x11 wx11 ownx11 hCx11 hx11
    obtain ⟨ax11, nx11, cx11, rfl⟩ := Sl.shape hx11.1.sl
    simp only [Act.put, List.setIfInBounds_toArray, List.set_cons_zero, List.set_cons_succ]
    refine ordT_pure rfl ?_
    go_big_quiet_step (fail)
    refine ordT_on ?_
    refine ordT_done fun w6 own hC6 hF => ?_
    have h6 := (((hF 11).1 rfl)).1
    clear hF hx4 hx8 hx11 h5'
    have h6' : SlB w6 (.slice ax11 nx11 cx11) (((L1 ++ txt q.key) ++ txt q.value) ++ txt q.to_) := h6.slB
    have h6in : In (fun b => gq < b) (.slice ax11 nx11 cx11) := Own.inOf h6 fun g hg => Nat.lt_of_lt_of_le (Array.getElem?_eq_some_iff.1 hA5).1 (World.ownsRow.lt h6 g hg).1
    generalize hL2 : ((L1 ++ txt q.key) ++ txt q.value) ++ txt q.to_ = L2 at *
    have hl2 : L2.length ≤ 800 := by rw [← hL2]; simp only [List.length_append, txt_length]; omega
    have HL2 := Lib.hid hL2
    have hA6 := hA5.keep hC6
    have hk06 := hk05.trans' hC6
    clear hL2 h6 hA5 hk05 hC6
    go_upto_region 6 with (fail)
    have hgs6 : w6.heap[gs]? = some (.cells #[sw] 28) := (hk06.block gs (by have := HGQ.out; omega)).trans hgr
    have hO6 := hOr.keep hk06
    have hdv6 := hdv.keep hk06
    have hwl : wr.heap.size ≤ w6.heap.size := hk06.size
    have hgq6 : gq < w6.heap.size := (Array.getElem?_eq_some_iff.1 hA6).1
    have hb6 : base ≤ w6.heap.size := by have := hbr.size; omega
    have hgqo : sw.ownBlock ≠ some gq := fun e => Nat.lt_irrefl _ (hol gq e)
    have hT : ∀ b, b < w.heap.size → b ≠ gs ∧ sv.ownBlock ≠ some b → ¬ (b = gs ∨ sw.ownBlock = some b) := fun b hb h h' => h'.elim h.1 fun e => (hwr b e).elim h.2 (fun h => by omega)
    have hdT : q.data ≠ [] → In (fun b => ¬ (b = gs ∨ sw.ownBlock = some b)) (.slice da q.data.length dc) := fun hne => (hdin hne).mono fun b h => hT b h.2.2 ⟨h.1, h.2.1⟩
    have hbT : L2 ≠ [] → In (fun b => ¬ (b = gs ∨ sw.ownBlock = some b)) (.slice ax11 nx11 cx11) := fun _ => h6in.mono fun b h h' => by
      rcases h' with e | e
      · omega
      · have := hol b e; omega
    have hLl : (l ++ encL (qs.take j)).length ≤ 10000000 := by rw [List.length_append]; omega
    have hqe := q.enc_length
    clear hwl
    refine wp_region_ordI [none, none, some (oV (.pointer (some ⟨gs, 0, none⟩))), none, some (oV (sw)), none, none, some (oV (.int .u64 (q.mask : Int))), some (oB (L2 ++ Pk.be q.mask 8)), none, some (oV (.slice da q.data.length dc)), some (oV (strV (q.data))), some (oB ((L2 ++ Pk.be q.mask 8) ++ txt q.data)), some (oScrApp gs base sw ((l ++ encL (qs.take j)) ++ ((L2 ++ Pk.be q.mask 8) ++ txt q.data)) w6.heap.size), some (oV (.pointer (some ⟨gs, 0, none⟩))), none, some (oScrEnd gs base sw ((l ++ encL (qs.take j)) ++ ((L2 ++ Pk.be q.mask 8) ++ txt q.data)) w6.heap.size)]
      8208 #[0, 0, 0, 0, 0, 0, 0, 0, 0, 0, 0, 0, 0, 131072, 0, 0, 8192] (gs) ((oScr gs base sw (l ++ encL (qs.take j))).φ sw) (fun w' => ButS w6 w' (fun b => b = gs ∨ sw.ownBlock = some b)) (by kernel_rfl) (by kernel_rfl) (by kernel_rfl) ((ButS.refl w6 _).drew) ((oScr gs base sw (l ++ encL (qs.take j))).st sw) (⟨hgs6, trivial, hO6.keep (Keep.refl w6).drew, fun _ _ _ _ => trivial⟩) ?_
    refine ordT_pure rfl ?_
    go_big_quiet_step (fail)
    refine ordT_on ?_
    refine ordT_pure rfl ?_
    go_big_quiet_step (fail)
    refine ordT_on ?_
    refine ordT_same (by kernel_rfl) (fun w2 hC => ?_) ?_
    · go_simp
    simp only [Act.put, List.setIfInBounds_toArray, List.set_cons_zero, List.set_cons_succ]
    refine ordT_pure rfl ?_
    go_big_quiet_step (fail)
    refine ordT_on ?_
    refine ordT_read (by kernel_rfl) (fun w2 own hC hF => ?_) ?_
    · have h1 := (((hF 17 (by kernel_rfl)).2 rfl) rfl)
      have y0 : w2.cell? ⟨gs, 0, none⟩ = some sw := by unfold World.cell?; simp [h1.1]
      go_simp
    simp only [Act.put, List.setIfInBounds_toArray, List.set_cons_zero, List.set_cons_succ]
    refine ordT_pure rfl ?_
    go_big_quiet_step (fail)
    refine ordT_on ?_
    refine ordT_pure rfl ?_
    go_big_quiet_step (fail)
    refine ordT_on ?_
    refine ordT_same (by kernel_rfl) (fun w2 hC => ?_) ?_
    · obtain ⟨y0, y1, y2, y3, y4, y5, y6, y7, y8, y9⟩ := RqAt.cells ((hC.block gq hgq6 (fun h => h.elim (by omega) hgqo)).trans hA6)
      go_simp
    simp only [Act.put, List.setIfInBounds_toArray, List.set_cons_zero, List.set_cons_succ]
    refine ordT_call (by kernel_rfl) (fun _ _ h k => h.keep k) (fun w2 own hC hF => ?_) ?_
    · refine ⟨_, _, by first | (go_simp; done) | (go_simp; rfl), (put_at _ L2 8 q.mask _ _ w2 rfl rfl (h6'.at hbT fun b hb h => hC.block b hb h) (by omega) (by omega) (by omega)).mono ?_⟩
      rintro e w' ⟨v, rfl, hO, hk⟩
      exact ⟨v, rfl, hk, fun S hS => ⟨hO.sl, fun _ => Own.inOf hO fun g hg => hS g (.inr (World.ownsRow.lt hO g hg).1)⟩⟩
    rintro x8 wx8 ownx8 hCx8 hx8
    obtain ⟨ax8, nx8, cx8, rfl⟩ := Sl.shape hx8.1
    simp only [Act.put, List.setIfInBounds_toArray, List.set_cons_zero, List.set_cons_succ]
    refine ordT_pure rfl ?_
    go_big_quiet_step (fail)
    refine ordT_on ?_
    refine ordT_same (by kernel_rfl) (fun w2 hC => ?_) ?_
    · obtain ⟨y0, y1, y2, y3, y4, y5, y6, y7, y8, y9⟩ := RqAt.cells ((hC.block gq hgq6 (fun h => h.elim (by omega) hgqo)).trans hA6)
      go_simp
    simp only [Act.put, List.setIfInBounds_toArray, List.set_cons_zero, List.set_cons_succ]
    refine ordT_str Try.underlying26 Try.underlying5 Try.underlying9 _ rfl (bs := q.data) (by kernel_rfl) (fun w2 own hC hF => ?_) ?_
    · exact hdv6.at hdT fun b hb h => hC.block b hb h
    simp only [Act.put, List.setIfInBounds_toArray, List.set_cons_zero, List.set_cons_succ]
    refine ordT_call (by kernel_rfl) (fun _ _ h k => h.keep k) (fun w2 own hC hF => ?_) ?_
    · have h1 := (((((hF 8 (by kernel_rfl)).2 rfl).2 rfl).1 rfl)).1
      rw [txt_eq q.data]
      refine ⟨_, _, by first | (go_simp; done) | (go_simp; rfl), (text_any _ ((L2 ++ Pk.be q.mask 8)) q.data w2 h1 (by omega) (by simp only [List.length_append, Pk.be_length]; omega)).mono ?_⟩
      rintro e w' ⟨v, rfl, hO, hk⟩
      exact ⟨v, rfl, hk, fun S hS => ⟨hO.sl, fun _ => Own.inOf hO fun g hg => hS g (.inr (World.ownsRow.lt hO g hg).1)⟩⟩
    rintro x12 wx12 ownx12 hCx12 hx12
    obtain ⟨ax12, nx12, cx12, rfl⟩ := Sl.shape hx12.1
    simp only [Act.put, List.setIfInBounds_toArray, List.set_cons_zero, List.set_cons_succ]
    refine ordT_told (by kernel_rfl) (told_scrApp _ _ rfl gs base 17 w6.heap.size sw (l ++ encL (qs.take j)) ((L2 ++ Pk.be q.mask 8) ++ txt q.data) rfl (Nat.le_refl _) hgb (fun w2 hC => ⟨Nat.le_trans hb6 hC.size, hC.size⟩) (fun w2 w3 hC g => hC.grown g fun k e _ => .inr e) (by simp only [List.length_append, Pk.be_length, txt_length] at hLl ⊢; omega) rfl fun w2 own hC hF => ?_) ?_
    · have h1 := (((((((((hF 17 (by kernel_rfl)).2 rfl).2 rfl).2 rfl).2 rfl).2 rfl).2 rfl).2 rfl) rfl)
      exact ⟨h1, (((hF 12 (by kernel_rfl)).1 rfl)).1⟩
    rintro x13 wx13 ownx13 - hx13
    obtain ⟨ax13, nx13, cx13, rfl⟩ := Sl.shape hx13.2.2.1.sl
    simp only [Act.put, List.setIfInBounds_toArray, List.set_cons_zero, List.set_cons_succ]
    refine ordT_same (by kernel_rfl) (fun w2 hC => ?_) ?_
    · go_simp
    simp only [Act.put, List.setIfInBounds_toArray, List.set_cons_zero, List.set_cons_succ]
    refine ordT_pure rfl ?_
    go_big_quiet_step (fail)
    refine ordT_on ?_
    refine ordT_told (by kernel_rfl) (told_scrPut gs base 13 w6.heap.size sw (.slice ax13 nx13 cx13) ((l ++ encL (qs.take j)) ++ ((L2 ++ Pk.be q.mask 8) ++ txt q.data)) (Nat.le_refl _) hgb (fun w2 u hC => hC.set ⟨gs, 0, none⟩ u (.inl rfl)) rfl (fun w2 hc1 hc2 => by go_simp) fun w2 own hC hF => ?_) ?_
    · exact (((hF 13 (by kernel_rfl)).2 rfl).1 rfl)
    rintro _ w_ own_ - -
    simp only [Act.put, List.setIfInBounds_toArray, List.set_cons_zero, List.set_cons_succ]
    refine ordT_done fun w7 own hC7 hF => ?_
    obtain ⟨sv', hg7, -, hO7, -, hw7⟩ := ((hF 16).1 rfl)
    clear hF hx8 hx12 hx13
    have hbr7 : ButS w w7 (fun b => b = gs ∨ sv.ownBlock = some b) := by
      have h := hbr.keep hk06
      exact ⟨hC7.os.trans h.os, hC7.tape.trans h.tape, hC7.output.trans h.output, Nat.le_trans h.size hC7.size, fun b hb ht => (hC7.block b (Nat.lt_of_lt_of_le hb h.size) (fun h' => h'.elim (fun e => ht (.inl e)) fun e => (hwr b e).elim (fun e' => ht (.inr e')) fun h => by omega)).trans (h.block b hb ht)⟩
    have hL7 : (l ++ encL (qs.take j)) ++ ((L2 ++ Pk.be q.mask 8) ++ txt q.data) = l ++ encL (qs.take (j + 1)) := by
      rw [HTK.out, ← HL2.out, ← HL1.out, ← HL0.out]
      unfold Rq.enc
      rw [one_be, one_be, one_be]
      simp only [List.append_assoc, List.cons_append, List.nil_append]
    rw [hL7] at hO7
    have hw7' : ∀ g, sv'.ownBlock = some g → sv.ownBlock = some g ∨ w.heap.size ≤ g := fun g e => (hw7 g e).elim (hwr g) fun h => .inr (by have := hbr.size; omega)
    go_wp2
    go_roundw
    case rel => exact ⟨j + 1, sv', by omega, by go_num, hg7, hO7, hw7', hbr7⟩
    case measure => simp [intOf]; omega
end Go.Proofs.Ytndndklaaegifaa
