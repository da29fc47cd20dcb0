/- Lines of the roll; the walk of roll.Write. -/
import Derived.Test.YthknhonpcmneaaaLaneWipe
import Derived.Test.YthknhonpcmneaaaReaderG
namespace Go.Proofs.Ythknhonpcmneaaa
open Go Go.RowKit
attribute [local irreducible] Go.wpQuiet

/-- a line's bytes -/
def lineB (st ct : Nat) : List UInt8 := Pk.be st 1 ++ Pk.be ct 4
theorem lineB_length (st ct : Nat) : (lineB st ct).length = 5 := by simp [lineB, Pk.be_length]
/-- what bytes tell of a line -/
def lineOf (b : List UInt8) : Nat × Nat := let x := Pk.numN ⟨b, false⟩ 1; let y := Pk.numN x.2 4; (if x.1 ≤ 2 then x.1 else 0, y.1)
def lineN (st ct : Nat) : Nat → Option (List UInt8) := fun t => if t = 0 then some (pad (lineB st ct)) else none
set_option maxRecDepth 100000 in
set_option maxHeartbeats 8000000 in
theorem rwrite_any (p : Nat) (d : Dk) (r st ct K : Nat) (w : World) (S : Nat → Prop) (h : Dsk w S p d) (hr : r < d.regs.length) (hst : st < 256) (hct : ct < 18446744073709551616) (hsm : d.Small K) (hK : K + 1 < 1000000) :
    Calls Try.prog 8 #[.pointer (some ⟨p, 0, none⟩), .int .i64 r, .agg #[.int .i64 st, .int .u64 ct]] w fun e w' => ∃ d' x, e = .returned (.int .i64 x) ∧ Dt w S w' (Fresh S w w') p d' ∧ Did d d' r (lineN st ct) 1 x := by
  have hr64 := h.ok.r2
  have HSM := Lib.hid hsm
  clear hsm
  go_enter Try.func8, Try.ntmps8
  go_upto_region 1 with (fail)
  have hD0 := (Dt.start h).keep (Keep.alloc w (.cells #[.int .i64 st, .int .u64 ct] 29))
  have hl := heap_alloc_new w (.cells #[.int .i64 st, .int .u64 ct] 29)
  generalize w.alloc (.cells #[.int .i64 st, .int .u64 ct] 29) = w0 at *
  generalize w.heap.size = gl at hl ⊢
  have x0 : w0.cell? ⟨gl, 0, none⟩ = some (.int .i64 st) := cell_of_row w0 gl 0 _ _ _ hl
  have x1 : w0.cell? ⟨gl, 1, none⟩ = some (.int .u64 ct) := cell_of_row w0 gl 1 _ _ _ hl
  clear h hl
  refine wp_region_dag_tail (C := fun w' => Keep w0 w') (R := Keep) 9 [none, none, none, some (tV (.int .i64 st)), some (tV (.int .u64 st)), some (tB (Pk.be st 1)), none, some (tV (.int .u64 ct)), some (tB (lineB st ct))] (by kernel_rfl) (by kernel_rfl) (by kernel_rfl) (Keep.refl w0).drew ?_
  refine dagT_pure rfl ?_
  go_big_quiet_step (fail)
  refine dagT_on ?_
  refine dagT_pure rfl ?_
  go_big_quiet_step (fail)
  refine dagT_on ?_
  refine dagT_pure rfl ?_
  go_big_quiet_step (fail)
  refine dagT_on ?_
  refine dagT_told (by kernel_rfl) ?_ ?_
  · intro w2 hC hF
    have zz := hC.cellk x0
    exact Gives.value (v := .int .i64 st) (w' := w2) (by go_simp) ⟨hC, Keep.refl _, rfl⟩
  intro vv w2 hC hF hvv
  clear hC hF
  obtain rfl := hvv
  simp only [Act.put, List.setIfInBounds_toArray, List.set_cons_zero, List.set_cons_succ]
  refine dagT_told (by kernel_rfl) ?_ ?_
  · intro w2 hC hF
    skip
    exact Gives.value (v := .int .u64 st) (w' := w2) (by go_simp; rw [IntKind.wrap_u64]; omega) ⟨hC, Keep.refl _, rfl⟩
  intro vv w2 hC hF hvv
  clear hC hF
  obtain rfl := hvv
  simp only [Act.put, List.setIfInBounds_toArray, List.set_cons_zero, List.set_cons_succ]
  refine dagT_told (by kernel_rfl) ?_ ?_
  · intro w2 hC hF
    refine Gives.call (by first | (go_simp; done) | (go_simp; rfl)) (put_at (.slice none 0 0) [] 1 st 1 st w2 rfl rfl (SlB.nil w2) (by decide) (by omega) (by decide)) ?_
    rintro e w' ⟨v', rfl, hO, hk⟩
    exact ⟨_, rfl, hC.trans' hk, hk, hO.slB⟩
  intro x5 w2 hC hF hx5
  clear hC hF
  simp only [Act.put, List.setIfInBounds_toArray, List.set_cons_zero, List.set_cons_succ]
  refine dagT_pure rfl ?_
  go_big_quiet_step (fail)
  refine dagT_on ?_
  refine dagT_told (by kernel_rfl) ?_ ?_
  · intro w2 hC hF
    have zz := hC.cellk x1
    exact Gives.value (v := .int .u64 ct) (w' := w2) (by go_simp) ⟨hC, Keep.refl _, rfl⟩
  intro vv w2 hC hF hvv
  clear hC hF
  obtain rfl := hvv
  simp only [Act.put, List.setIfInBounds_toArray, List.set_cons_zero, List.set_cons_succ]
  refine dagT_told (by kernel_rfl) ?_ ?_
  · intro w2 hC hF
    refine Gives.call (by first | (go_simp; done) | (go_simp; rfl)) (put_at _ (Pk.be st 1) 4 ct 4 ct w2 rfl rfl ((hF 5 (by kernel_rfl)).2.1 rfl) (by decide) hct (by rw [Pk.be_length]; decide)) ?_
    rintro e w' ⟨v', rfl, hO, hk⟩
    exact ⟨_, rfl, hC.trans' hk, hk, hO.slB⟩
  intro x8 w2 hC hF hx8
  clear hC hF
  simp only [Act.put, List.setIfInBounds_toArray, List.set_cons_zero, List.set_cons_succ]
  refine dagT_done fun w2 hC hF => ?_
  have hD2 := hD0.keep hC
  have hb2 := ((hF 8).1 rfl)
  have hroom : d.Room := HSM.out.room (by omega)
  clear hF hC hD0 hx5 hx8 x0 x1
  refine seqW_gives (by kernel_rfl) ?_
  refine Gives.call (by first | (go_simp; done) | (go_simp; rfl)) (write_any p d r 0 _ (lineB st ct) w2 S hD2.dsk hb2 hroom) ?_
  rintro e w3 ⟨rfl, h3, k3⟩
  refine ⟨_, rfl, ?_⟩
  have hD3 := (hD2.step (Dt.of hD2.dsk.low h3 k3)).lift
  rw [show d.wrE r 0 (lineB st ct) = if d.down r = true then 10 else 0 from Dk.wrE_at (s := 0) hD2.ok hr hD2.ok.s1 (by rw [lineB_length]; decide)]
  rw [show d.wrD r 0 (lineB st ct) = if d.down r = true then d else d.write r 0 (lineB st ct) from Dk.wrD_at (s := 0) hD2.ok hr hD2.ok.s1 (by rw [lineB_length]; decide)] at hD3
  have hok := hD2.ok
  clear hD2 h3 k3 hb2
  simp only [Act.put, List.setIfInBounds_toArray, List.set_cons_zero, List.set_cons_succ]
  refine seqW_pure rfl ?_
  go_big_quiet_step (fail)
  refine seqW_on ?_
  refine seqW_done ?_
  by_cases hdn : d.down r = true
  · rw [if_pos hdn]
    rw [if_pos hdn] at hD3
    have hF := (Mid.start d r).fail (n2 := 1) (new2 := lineN st ct) (by omega) hdn (fun t x hx => by cases hx)
    go_wp2
    go_ret
    exact ⟨_, _, rfl, hD3, hF⟩
  rw [if_neg hdn]
  rw [if_neg hdn] at hD3
  have HM := Lib.hid ((Mid.start d r).write (b := lineB st ct) (s := 0) (new2 := lineN st ct) hr rfl (fun t => rfl))
  clear hdn
  go_wp2_with fail
  refine (barrier_any p _ r w3 _ hD3.dsk).mono ?_
  rintro e w4 ⟨rfl, h4, k4⟩
  have hF := HM.out.bar hD3.ok hr (Nat.le_refl _)
  have hD4 := (hD3.step (Dt.old hD3.dsk.low h4 k4)).lift
  clear hD3 HM h4 k4
  go_wp2
  go_ret
  exact ⟨_, _, rfl, hD4, hF⟩
end Go.Proofs.Ythknhonpcmneaaa
