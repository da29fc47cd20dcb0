/- The walks of roll.Wipe and roll.Settle. -/
import Derived.Test.YthknhonpcmneaaaRollRead
namespace Go.Proofs.Ythknhonpcmneaaa
open Go Go.RowKit
attribute [local irreducible] Go.wpQuiet

set_option maxRecDepth 100000 in
set_option maxHeartbeats 8000000 in
theorem rwipe_any (p : Nat) (d : Dk) (r K : Nat) (w : World) (S : Nat → Prop) (h : Dsk w S p d) (hr : r < d.regs.length) (hs : d.size = 538) (hsm : d.Small K) (hK : K + 537 < 1000000) :
    Calls Try.prog 23 #[.pointer (some ⟨p, 0, none⟩), .int .i64 r] w fun e w' => ∃ d' x, e = .returned (.int .i64 x) ∧ Dt w S w' (Fresh S w w') p d' ∧ Did d d' r (wipeN 1 538) 537 x := by
  have hr64 := h.ok.r2
  go_enter Try.func23, Try.ntmps23
  go_wp2_with fail
  refine (wipe_any p d r 1 538 K w S h hr (by decide) (by rw [hs]; exact Nat.le_refl _) hsm hK).mono ?_
  rintro e w1 ⟨d', x, rfl, hD, hF⟩
  go_wp2
  go_ret
  exact ⟨d', x, rfl, hD, hF⟩
/-- what Settle does -/
def Settled (d d' : Dk) (r st' : Nat) (e : Int) : Prop :=
  ((lineOf (d.read r 0)).1 = 1 ∧ d' = d ∧ st' = 1 ∧ e = 0) ∨
  ((lineOf (d.read r 0)).1 ≠ 1 ∧ ∃ d1 e1, Did d d1 r (wipeN 1 538) 537 e1 ∧
    ((e1 ≠ 0 ∧ d' = d1 ∧ e = e1 ∧ st' = (lineOf (d.read r 0)).1) ∨ (e1 = 0 ∧ (lineOf (d.read r 0)).1 ≠ 2 ∧ d' = d1 ∧ e = 0 ∧ st' = (lineOf (d.read r 0)).1) ∨
      (e1 = 0 ∧ (lineOf (d.read r 0)).1 = 2 ∧ st' = 0 ∧ Did d1 d' r (lineN 0 (lineOf (d.read r 0)).2) 1 e)))
set_option maxRecDepth 100000 in
set_option maxHeartbeats 8000000 in
theorem settle_any (p : Nat) (d : Dk) (r K : Nat) (w : World) (S : Nat → Prop) (h : Dsk w S p d) (hr : r < d.regs.length) (hs : d.size = 538) (hsm : d.Small K) (hK : K + 600 < 1000000) :
    Calls Try.prog 13 #[.pointer (some ⟨p, 0, none⟩), .int .i64 r] w fun e w' => ∃ d' st' x, e = .returned (.tuple #[.agg #[.int .i64 (st' : Nat), .int .u64 (lineOf (d.read r 0)).2], .int .i64 x]) ∧ Dt w S w' (Fresh S w w') p d' ∧ Settled d d' r st' x := by
  have hr64 := h.ok.r2
  have HSM := Lib.hid hsm
  have hlo := h.low
  go_enter Try.func13, Try.ntmps13
  go_wp2_with fail
  have k0 := Keep.alloc w (.cells #[.int .i64 0, .int .u64 0] 29)
  have hz := heap_alloc_new w (.cells #[.int .i64 0, .int .u64 0] 29)
  generalize w.alloc (.cells #[.int .i64 0, .int .u64 0] 29) = w0 at *
  generalize hgl : w.heap.size = gl at hz ⊢
  have hglw : w.heap.size ≤ gl := Nat.le_of_eq hgl
  clear hgl
  refine (rread_any p d r w0 S (h.keep k0) hr).mono ?_
  rintro e w1 ⟨rfl, k1⟩
  have kk : Keep w w1 := k0.trans' k1
  have hz1 := (k1.block gl (Array.getElem?_eq_some_iff.1 hz).1).trans hz
  clear k0 k1 hz
  have HST := Lib.hid (lineOf_lt (d.read r 0))
  obtain ⟨q, hq⟩ : ∃ x, lineOf (d.read r 0) = x := ⟨_, rfl⟩
  have HQ := Lib.hid hq
  rw [hq]
  have HY : Hid ((lineOf (d.read r 0)).2 = q.2) := Lib.hid (by rw [hq])
  have hst : q.1 ≤ 2 := by rw [← hq]; exact HST.out.1
  clear hq
  go_upto_region 2 with (fail)
  have k2 := Keep.alloc w1 (.cells #[.int .i64 q.1, .int .u64 q.2] 29)
  have hx := heap_alloc_new w1 (.cells #[.int .i64 q.1, .int .u64 q.2] 29)
  have hz2 := (k2.block gl (Array.getElem?_eq_some_iff.1 hz1).1).trans hz1
  have kk2 := kk.trans' k2
  have hxw : w.heap.size ≤ w1.heap.size := kk.size
  have hgx : gl ≠ w1.heap.size := fun e => by have := (Array.getElem?_eq_some_iff.1 hz1).1; omega
  generalize w1.alloc (.cells #[.int .i64 q.1, .int .u64 q.2] 29) = w2 at *
  generalize w1.heap.size = gx at *
  have hgn : ¬ S gl := fun hh => by have := hlo gl hh; omega
  have hxn : ¬ S gx := fun hh => by have := hlo gx hh; omega
  have hD := (Dt.start h).keep kk2
  have hgl2 := (Array.getElem?_eq_some_iff.1 hz2).1
  have hgx2 := (Array.getElem?_eq_some_iff.1 hx).1
  clear h k2 kk kk2 hz1 hlo
  have f0 := free_of hz2 0
  have f1 := free_of hz2 1
  have x0 : w2.cell? ⟨gl, 0, none⟩ = some (.int .i64 0) := cell_of_row w2 gl 0 _ _ _ hz2
  have x1 : w2.cell? ⟨gl, 1, none⟩ = some (.int .u64 0) := cell_of_row w2 gl 1 _ _ _ hz2
  have y0 : w2.cell? ⟨gx, 0, none⟩ = some (.int .i64 q.1) := cell_of_row w2 gx 0 _ _ _ hx
  have y1 : w2.cell? ⟨gx, 1, none⟩ = some (.int .u64 q.2) := cell_of_row w2 gx 1 _ _ _ hx
  by_cases h1 : q.1 = 1
  · have h1i : (q.1 : Int) = 1 := by omega
    have hDq := ((hD.own hglw hgn 0 (.int .i64 q.1)).own hglw hgn 1 (.int .u64 q.2)).lift
    clear hD hglw hgn
    have HR : Hid (Settled d d r q.1 0) := Lib.hid (.inl ⟨by rw [HQ.out]; exact h1, rfl, h1, rfl⟩)
    have H1 := Lib.hid h1i
    rw [H1.out] at y0
    clear h1 h1i
    go_wp2
    exact bodyPost_ret (results_line rfl (line_set hz2 _ _) rfl) rfl ⟨_, q.1, 0, by rw [HY.out, H1.out]; rfl, H1.out ▸ hDq, HR.out⟩
  have h1i : ¬ (q.1 : Int) = 1 := by omega
  go_wp2_with fail
  refine (rwipe_any p d r K w2 S hD.dsk hr hs HSM.out (by omega)).mono ?_
  rintro e w3 ⟨d1, x, rfl, hD3, hF⟩
  have hz3 := (hD3.same hgl2 hgn).trans hz2
  have hx3 := (hD3.same hgx2 hxn).trans hx
  have hgn3 := hD3.not_in hgl2 hgn
  have hxn3 := hD3.not_in hgx2 hxn
  have hD := hD.step hD3
  have HF := Lib.hid hF
  have hgl3 := (Array.getElem?_eq_some_iff.1 hz3).1
  have hgx3 := (Array.getElem?_eq_some_iff.1 hx3).1
  have hz := hz3
  have hx := hx3
  have hgn := hgn3
  clear hD3 hF hz3 hx3 hz2 f0 f1 x0 x1 y0 y1 hgn3
  generalize w3 = wq at *
  by_cases hxe : x = 0
  rotate_left
  · have f0 := free_of hz 0
    have f1 := free_of hz 1
    have x0 : wq.cell? ⟨gl, 0, none⟩ = some (.int .i64 0) := cell_of_row wq gl 0 _ _ _ hz
    have x1 : wq.cell? ⟨gl, 1, none⟩ = some (.int .u64 0) := cell_of_row wq gl 1 _ _ _ hz
    have y0 : wq.cell? ⟨gx, 0, none⟩ = some (.int .i64 (q.1 : Nat)) := cell_of_row wq gx 0 _ _ _ hx
    have y1 : wq.cell? ⟨gx, 1, none⟩ = some (.int .u64 q.2) := cell_of_row wq gx 1 _ _ _ hx
    have hDq := ((hD.own hglw hgn 0 (.int .i64 (q.1 : Nat))).own hglw hgn 1 (.int .u64 q.2)).lift
    clear hD hglw hgn
    go_wp2
    exact bodyPost_ret (results_line rfl (line_set hz _ _) rfl) rfl ⟨_, q.1, x, by rw [HY.out]; rfl, hDq, .inr ⟨by rw [HQ.out]; exact h1, d1, x, HF.out, .inl ⟨hxe, rfl, rfl, by rw [HQ.out]⟩⟩⟩
  subst hxe
  by_cases h2 : q.1 = 2
  rotate_left
  · have h2i : ¬ (q.1 : Int) = 2 := by omega
    have f0 := free_of hz 0
    have f1 := free_of hz 1
    have x0 : wq.cell? ⟨gl, 0, none⟩ = some (.int .i64 0) := cell_of_row wq gl 0 _ _ _ hz
    have x1 : wq.cell? ⟨gl, 1, none⟩ = some (.int .u64 0) := cell_of_row wq gl 1 _ _ _ hz
    have y0 : wq.cell? ⟨gx, 0, none⟩ = some (.int .i64 (q.1 : Nat)) := cell_of_row wq gx 0 _ _ _ hx
    have y1 : wq.cell? ⟨gx, 1, none⟩ = some (.int .u64 q.2) := cell_of_row wq gx 1 _ _ _ hx
    have hDq := ((hD.own hglw hgn 0 (.int .i64 (q.1 : Nat))).own hglw hgn 1 (.int .u64 q.2)).lift
    clear hD hglw hgn
    go_wp2
    exact bodyPost_ret (results_line rfl (line_set hz _ _) rfl) rfl ⟨_, q.1, 0, by rw [HY.out]; rfl, hDq, .inr ⟨by rw [HQ.out]; exact h1, d1, 0, HF.out, .inr (.inl ⟨rfl, by rw [HQ.out]; exact h2, rfl, rfl, by rw [HQ.out]⟩)⟩⟩
  have h2i : (q.1 : Int) = 2 := by omega
  have y0 : wq.cell? ⟨gx, 0, none⟩ = some (.int .i64 q.1) := cell_of_row wq gx 0 _ _ _ hx
  have g0 := free_of hx 0
  go_upto_region 9 with (fail)
  have hxw2 := hxw
  have hx4 := heap_set_same (cs := [.int .i64 q.1, .int .u64 q.2]) (i := 0) hx (.int .i64 0)
  have hz4 := (Below.heap_setCell wq ⟨gx, 0, none⟩ (.int .i64 0) gl (by exact hgx)).trans hz
  have hD4 := hD.own hxw hxn3 0 (.int .i64 0)
  clear hD hx hz y0 g0
  generalize wq.setCell ⟨gx, 0, none⟩ (.int .i64 0) = w4 at *
  have y0 : w4.cell? ⟨gx, 0, none⟩ = some (.int .i64 0) := cell_of_row w4 gx 0 _ _ _ hx4
  have y1 : w4.cell? ⟨gx, 1, none⟩ = some (.int .u64 q.2) := cell_of_row w4 gx 1 _ _ _ hx4
  have hr1 : r < d1.regs.length := by rw [HF.out.regs]; exact hr
  have hq2 : q.2 < 18446744073709551616 := by
    have := HST.out.2
    rw [HQ.out] at this
    exact this
  go_wp2_with fail
  refine (rwrite_any p d1 r 0 q.2 (K + 537) w4 _ hD4.dsk hr1 (by decide) hq2 (HF.out.small K HSM.out) (by omega)).mono ?_
  rintro e w5 ⟨d2, x, rfl, hD5, hF2⟩
  have hgl4 := (Array.getElem?_eq_some_iff.1 hz4).1
  have hgx4 := (Array.getElem?_eq_some_iff.1 hx4).1
  have hz := (hD5.same hgl4 hgn).trans hz4
  have hx := (hD5.same hgx4 hxn3).trans hx4
  have hgn5 := hD5.not_in hgl4 hgn
  have hgn := hgn5
  have hD := hD4.step hD5
  have HF2 := Lib.hid hF2
  clear hD5 hF2 hD4 hz4 hx4 hgn5 y0 y1
  generalize w5 = wq at *
  have f0 := free_of hz 0
  have f1 := free_of hz 1
  have x0 : wq.cell? ⟨gl, 0, none⟩ = some (.int .i64 0) := cell_of_row wq gl 0 _ _ _ hz
  have x1 : wq.cell? ⟨gl, 1, none⟩ = some (.int .u64 0) := cell_of_row wq gl 1 _ _ _ hz
  have y0 : wq.cell? ⟨gx, 0, none⟩ = some (.int .i64 (0 : Nat)) := cell_of_row wq gx 0 _ _ _ hx
  have y1 : wq.cell? ⟨gx, 1, none⟩ = some (.int .u64 q.2) := cell_of_row wq gx 1 _ _ _ hx
  have hDq := ((hD.own hglw hgn 0 (.int .i64 (0 : Nat))).own hglw hgn 1 (.int .u64 q.2)).lift
  clear hD hglw hgn
  go_wp2
  exact bodyPost_ret (results_line rfl (line_set hz _ _) rfl) rfl ⟨_, 0, x, by rw [HY.out]; rfl, hDq, .inr ⟨by rw [HQ.out]; exact h1, d1, 0, HF.out, .inr (.inr ⟨rfl, by rw [HQ.out]; exact h2, rfl, by rw [HQ.out]; exact HF2.out⟩)⟩⟩
end Go.Proofs.Ythknhonpcmneaaa
