/- The walk of RollSettles. -/
import Derived.Test.YthknhonpcmneaaaFit15
import Derived.Test.YthknhonpcmneaaaRollS
import Derived.Deep.CutRange
namespace Go.Proofs.Ythknhonpcmneaaa
open Go Go.RowKit
attribute [local irreducible] Go.wpQuiet

theorem lt_at {w : World} {g : Nat} {o : Obj} (h : w.heap[g]? = some o) : g < w.heap.size := (Array.getElem?_eq_some_iff.1 h).1
theorem keyed_int : Go.Maps.Keyed Try.prog 3 := Go.Maps.int_keyed Try.underlying3
theorem zero_bool (w : World) : (zeroValue 4).run Try.prog w = .ok (.bool false) w := by kernel_rfl
theorem own_keep {w w' : World} {b n : Nat} {D : DataW Unit} (h : w.ownsMap Try.prog 3 (plainElem Try.prog 4) b n D) (k : Keep w w') : w'.ownsMap Try.prog 3 (plainElem Try.prog 4) b n D := by
  have hl := h.lt
  obtain ⟨es, clock, hb, F, hs, hD⟩ := h
  exact ⟨es, clock, (k.block b hl).trans hb, F, hs, hD⟩
theorem key_int {a : Int} (h : -9223372036854775808 ≤ a ∧ a ≤ 9223372036854775807) : keyOf Try.prog 3 (.int .i64 a) = some (.int .i64 a) := Go.Maps.keyOf_int_mk Try.underlying3 (by simp [Lit.wf, IntKind.min, IntKind.max, IntKind.signed, IntKind.bits]; omega)
set_option maxRecDepth 100000 in
set_option maxHeartbeats 8000000 in
theorem rollSettles_any (h0 h1 : Int) (ct : Nat) (v : Value) (l : List Int) (w : World) (hv : SlN w v l) (hct : ct < 4294967296) :
    Calls Try.prog 4 #[.agg #[.int .i64 h0, .int .i64 h1], .int .u32 ct, v] w fun e w' => e = .returned (.bool true) ∧ Keep w w' := by
  obtain ⟨a, c, rfl, hmx⟩ := hv.form
  unfold maxLen at hmx
  obtain ⟨c3, hc3, hce⟩ := and_low h0 3 2 rfl (by decide)
  have hce2 : Go.bits .and .i64 h0 3 = (c3 : Int) := hce
  obtain ⟨mk, hmk, hme⟩ : ∃ mk : Nat, mk < 18446744073709551616 ∧ IntKind.u64.wrap h1 = (mk : Int) := by
    refine ⟨(IntKind.u64.wrap h1).toNat, ?_, ?_⟩ <;> (rw [IntKind.wrap_u64]; omega)
  clear hce
  go_enter Try.func4, Try.ntmps4
  go_upto_region 1 with (fail)
  have kb : Keep w (w.alloc (.cells #[.int .i64 h0, .int .i64 h1] 36)) := Keep.alloc w (.cells #[.int .i64 h0, .int .i64 h1] 36)
  have hA := heap_alloc_new w (.cells #[.int .i64 h0, .int .i64 h1] 36)
  generalize w.alloc (.cells #[.int .i64 h0, .int .i64 h1] 36) = w0 at *
  generalize w.heap.size = gA at hA ⊢
  go_wp2_with fail
  refine (fit_any _).mono ?_
  rintro e w1 ⟨rfl, k1⟩
  have hA := (k1.block gA (lt_at hA)).trans hA
  have k1 := kb.trans' k1
  clear kb
  by_cases hn : 50 < l.length
  · have hni : (50 : Int) < (l.length : Int) := by omega
    clear hA
    go_wp2
    go_ret
    exact ⟨rfl, k1⟩
  have hni : ¬ (50 : Int) < (l.length : Int) := by omega
  have xh0 : w1.cell? ⟨gA, 0, none⟩ = some (.int .i64 h0) := cell_of_row w1 gA 0 _ _ _ hA
  have xh1 : w1.cell? ⟨gA, 1, none⟩ = some (.int .i64 h1) := cell_of_row w1 gA 1 _ _ _ hA
  have e3 : (c3 : Int).tmod 3 = ((c3 % 3 : Nat) : Int) := rfl
  have hs3 : c3 % 3 < 3 := Nat.mod_lt _ (by decide)
  clear hA
  go_upto_region 5 with (fail)
  refine wp_region_ord' [some (oV (.pointer (some ⟨gA, 0, none⟩))), some (oV (.int .i64 h0)), some (oV (.int .i64 (c3 : Int))), some (oV (.int .i64 ((c3 % 3 : Nat) : Int))), some (oV (.pointer (some ⟨gA, 1, none⟩))), some (oV (.int .i64 h1)), some (oV (.int .u64 mk)), none, none]
    #[0, 0, 0, 0, 0, 0, 0, 0, 0] (w1.heap.size) (fun w' => Keep w1 w') (by kernel_rfl) (by kernel_rfl) (by kernel_rfl) ((Keep.refl w1).drew) ?_
  refine ordT_same (by kernel_rfl) (fun w2 hC => ?_) ?_
  · go_simp
  simp only [Act.put, List.setIfInBounds_toArray, List.set_cons_zero, List.set_cons_succ]
  refine ordT_same (by kernel_rfl) (fun w2 hC => ?_) ?_
  · have zz := hC.cellk xh0
    go_simp
  simp only [Act.put, List.setIfInBounds_toArray, List.set_cons_zero, List.set_cons_succ]
  refine ordT_same (by kernel_rfl) (fun w2 hC => ?_) ?_
  · go_simp
  simp only [Act.put, List.setIfInBounds_toArray, List.set_cons_zero, List.set_cons_succ]
  refine ordT_same (by kernel_rfl) (fun w2 hC => ?_) ?_
  · first | (go_simp; done) | (go_simp; rw [e3]; done) | (go_simp; rw [e3]; rw [IntKind.wrap_i64]; omega)
  simp only [Act.put, List.setIfInBounds_toArray, List.set_cons_zero, List.set_cons_succ]
  refine ordT_same (by kernel_rfl) (fun w2 hC => ?_) ?_
  · go_simp
  simp only [Act.put, List.setIfInBounds_toArray, List.set_cons_zero, List.set_cons_succ]
  refine ordT_same (by kernel_rfl) (fun w2 hC => ?_) ?_
  · have zz := hC.cellk xh1
    go_simp
  simp only [Act.put, List.setIfInBounds_toArray, List.set_cons_zero, List.set_cons_succ]
  refine ordT_same (by kernel_rfl) (fun w2 hC => ?_) ?_
  · go_simp; first | done | rw [hme]
  simp only [Act.put, List.setIfInBounds_toArray, List.set_cons_zero, List.set_cons_succ]
  refine ordT_pure rfl ?_
  go_big_quiet_step (fail)
  refine ordT_on ?_
  refine ordT_pure rfl ?_
  go_big_quiet_step (fail)
  refine ordT_on ?_
  refine ordT_done fun w2 own hC hF => ?_
  skip
  have k2 := k1.trans' hC
  clear hF hC xh0 xh1 e3 hce2 hme k1
  generalize c3 % 3 = st at *
  clear hc3
  go_wp2_with fail
  refine (newDk_any 2 538 w2 (by decide) (by decide) (by decide) (by decide)).mono ?_
  rintro e w3 ⟨p, rfl, hN, kN⟩
  have hSw : ∀ b, (fun b => w2.heap.size ≤ b ∧ b < w3.heap.size) b → w.heap.size ≤ b := fun b h => Nat.le_trans k2.size h.1
  have k3 := k2.trans' kN
  generalize (fun b => w2.heap.size ≤ b ∧ b < w3.heap.size) = S at *
  have hD1 := Dt.start hN
  have hlw := hN.low
  clear hN kN k2
  go_wp2_with fail
  go_loopw [38] (fun z wr => ∃ (i : Nat) (S1 : Nat → Prop) (dk : Dk), i ≤ l.length ∧ z = .int .i64 i ∧ Dt w3 S wr S1 p dk ∧ Hid (Jnk (l.take i) dk i)) (fun z _ => l.length - (intOf z).toNat)
  case atStart => exact ⟨0, S, _, Nat.zero_le _, rfl, hD1, Lib.hid newD_jnk⟩
  case round =>
    obtain ⟨i, S1, dk, hij, rfl, hD, HU⟩ := hrel
    clear hD1
    by_cases hi : i < l.length
    rotate_left
    · have hii : ¬ (i : Int) < (l.length : Int) := by omega
      have eij : i = l.length := by omega
      have HJ : Hid (Jnk l dk l.length) := Lib.hid (by have := HU.out; rw [eij, List.take_length] at this; exact this)
      clear HU hi hij
      go_wp2_with fail
      refine (barrier_any p dk 1 wr S1 hD.dsk).mono ?_
      rintro e w5 ⟨rfl, h5, b5⟩
      have HB := Lib.hid (HJ.out.bar hD.ok)
      have hD3 := hD.step (Dt.old hD.dsk.low h5 b5)
      clear hD h5 b5 HJ hii eij
      generalize dk.barD 1 = d5 at *
      go_wp2_with fail
      refine (rwrite_any p d5 1 st ct _ w5 S1 hD3.dsk (by rw [HB.out.regs]; decide) (by omega) (by omega) HB.out.small (by omega)).mono ?_
      rintro e w6 ⟨d6, x, rfl, hD6, hF6⟩
      obtain ⟨rfl, hJ6⟩ := HB.out.line (by omega) hct hF6
      have HJ := Lib.hid hJ6
      have hE6 := hD3.step hD6
      clear hD3 hD6 hF6 HB hJ6
      generalize Fresh S1 w5 w6 = S6 at *
      go_wp2_with fail
      refine (settle_any p d6 1 _ w6 S6 hE6.dsk (by rw [HJ.out.regs]; decide) HJ.out.size HJ.out.small (by omega)).mono ?_
      rintro e w7 ⟨d7, st', x, rfl, hD7, hS⟩
      obtain ⟨rfl, rfl, hct7, hJ7⟩ := HJ.out.settled (by omega) hct hS
      rw [hct7]
      have HF := Lib.hid hJ7
      have hE7 := hE6.step hD7
      clear hE6 hD7 HJ hJ7 hct7 hS
      generalize Fresh S6 w6 w7 = S7 at *
      go_upto_region 16 with (fail)
      have hE8 := hE7.keep (Keep.alloc w7 (.cells #[.int .i64 ((wantS st : Nat) : Int), .int .u64 ((ct : Nat) : Int)] 29))
      have hl12 := heap_alloc_new w7 (.cells #[.int .i64 ((wantS st : Nat) : Int), .int .u64 ((ct : Nat) : Int)] 29)
      have n12 : ¬ S7 w7.heap.size := fun h => by have := hE7.dsk.low _ h; omega
      generalize w7.alloc (.cells #[.int .i64 ((wantS st : Nat) : Int), .int .u64 ((ct : Nat) : Int)] 29) = w8 at *
      generalize w7.heap.size = g12 at *
      clear hE7
      go_wp2_with fail
      refine (crash_any p d7 mk w8 S7 hE8.dsk hmk).mono ?_
      rintro e w9 ⟨rfl, h9, b9⟩
      have HC := Lib.hid (HF.out.crash mk)
      have hD9 := Dt.old hE8.dsk.low h9 b9
      have hl12 := (hD9.same (lt_at hl12) n12).trans hl12
      have hE9 := hE8.step hD9
      clear hE8 hD9 h9 b9 HF n12
      generalize d7.crash mk = d9 at *
      go_wp2_with fail
      refine (rread_any p d9 1 w9 S7 hE9.dsk (by rw [HC.out.regs]; decide)).mono ?_
      rintro e w10 ⟨rfl, k10⟩
      rw [HC.out.line]
      have hE10 := hE9.keep k10
      have hl12 := (k10.block g12 (lt_at hl12)).trans hl12
      clear hE9 k10
      go_upto_region 18 with (fail)
      have kA := Keep.alloc w10 (.cells #[.int .i64 ((wantS st : Nat) : Int), .int .u64 ((ct : Nat) : Int)] 29)
      have hE11 := hE10.keep kA
      have hl12 := (kA.block g12 (lt_at hl12)).trans hl12
      have hl14 := heap_alloc_new w10 (.cells #[.int .i64 ((wantS st : Nat) : Int), .int .u64 ((ct : Nat) : Int)] 29)
      generalize w10.alloc (.cells #[.int .i64 ((wantS st : Nat) : Int), .int .u64 ((ct : Nat) : Int)] 29) = w11 at *
      generalize w10.heap.size = g14 at *
      clear hE10 kA
      go_upto_if 73 with (fail)
      go_cut [16] from 73 to 73 (fun z w' => z = .int .i64 ((wantS st : Nat) : Int) ∧ w' = w11)
      case first =>
        by_cases hs2 : st = 2
        · have hs2i : (st : Int) = 2 := by omega
          clear hl12 hl14 hE11 HC
          subst hs2
          go_wp2
          go_meet
          case rel => exact ⟨rfl, rfl⟩
        · have hs2i : ¬ (st : Int) = 2 := by omega
          have hw : wantS st = st := by unfold wantS; rw [if_neg hs2]
          have HW := Lib.hid hw
          clear hl12 hl14 hE11 HC hw
          go_wp2
          go_meet
          case rel => exact ⟨by rw [HW.out], rfl⟩
      obtain ⟨rfl, rfl⟩ := hcut
      have x0 : wc.cell? ⟨g12, 0, none⟩ = some (.int .i64 (wantS st : Nat)) := cell_of_row wc g12 0 _ _ _ hl12
      have x1 : wc.cell? ⟨g12, 1, none⟩ = some (.int .u64 ct) := cell_of_row wc g12 1 _ _ _ hl12
      have y0 : wc.cell? ⟨g14, 0, none⟩ = some (.int .i64 (wantS st : Nat)) := cell_of_row wc g14 0 _ _ _ hl14
      have y1 : wc.cell? ⟨g14, 1, none⟩ = some (.int .u64 ct) := cell_of_row wc g14 1 _ _ _ hl14
      clear hl12 hl14
      go_upto_region 23 with (fail)
      clear x0 x1 y0 y1
      refine wp_region_seq ?_
      refine seqW_gives (by kernel_rfl) ?_
      refine Gives.value (v := .map (some wc.heap.size)) (w' := wc.alloc (.map #[] 0)) (by first | (go_simp; done) | (go_simp; rfl)) ?_
      have hm0 := World.ownsMap_made (H := Unit) wc Try.prog 3 (plainElem Try.prog 4)
      have hEm := hE11.keep (Keep.alloc wc (.map #[] 0))
      have nm : ¬ S7 wc.heap.size := fun h => by have := hE11.dsk.low _ h; omega
      have hmw : w3.heap.size ≤ wc.heap.size := hE11.but.size
      generalize wc.alloc (.map #[] 0) = w12 at *
      generalize wc.heap.size = gm at *
      clear hE11
      simp only [Act.put, List.setIfInBounds_toArray, List.set_cons_zero, List.set_cons_succ]
      refine seqW_pure rfl ?_
      go_big_quiet_step (fail)
      refine seqW_on ?_
      refine seqW_done ?_
      go_wp2_with fail
      go_loopw [101] (fun z wr => ∃ i : Nat, i ≤ l.length ∧ z = .int .i64 i ∧ Dt w3 S wr S7 p d9 ∧ wr.ownsMap Try.prog 3 (plainElem Try.prog 4) gm i (jD (l.take i))) (fun z _ => l.length - (intOf z).toNat)
      case atStart => exact ⟨0, Nat.zero_le _, rfl, hEm, hm0⟩
      case round =>
        obtain ⟨i, hij, rfl, hD, hM⟩ := hrel
        clear hEm hm0
        by_cases hi : i < l.length
        rotate_left
        · have hii : ¬ (i : Int) < (l.length : Int) := by omega
          have eij : i = l.length := by omega
          rw [eij, List.take_length] at hM
          clear eij hi hij
          have hst3 := hs3
          go_wp2_with fail
          go_loopw [20] (fun z wr => ∃ t : Nat, 1 ≤ t ∧ t ≤ 538 ∧ z = .int .i64 t ∧ Dt w3 S wr S7 p d9 ∧ wr.ownsMap Try.prog 3 (plainElem Try.prog 4) gm l.length (jD l)) (fun z _ => 538 - (intOf z).toNat)
          case atStart => exact ⟨1, by decide, by decide, rfl, hD, hM⟩
          case round =>
            obtain ⟨t, ht1, ht2, rfl, hD2, hM2⟩ := hrel
            clear hD hM
            by_cases ht : t < 538
            rotate_left
            · have hti : ¬ (t : Int) < 538 := by omega
              have hkw := hD2.keeps k3 hSw
              clear ht ht1 ht2
              go_wp2
              go_ret
              exact ⟨rfl, hkw⟩
            have hti : (t : Int) < 538 := by omega
            have htl : (1 : Int) ≤ (t : Int) := by omega
            have hr1 : 1 < d9.regs.length := by rw [HC.out.regs]; decide
            have hrd := HC.out.read t ht1 ht
            have hs9 : t < d9.size := by rw [HC.out.size]; exact ht
            go_wp2_with fail
            refine (read_any p d9 1 t wr S7 hD2.dsk).mono ?_
            rintro e w20 ⟨v8, rfl, hO, k8⟩
            rw [show d9.readI 1 t = d9.read 1 t from Dk.readI_at (r := 1) hD2.ok hr1 hs9, hrd] at hO
            rw [show d9.there 1 t = true from Dk.there_at (r := 1) hD2.ok hr1 hs9, if_pos rfl]
            have hD8 := hD2.keep k8
            have hM8 := own_keep hM2 k8
            have hb8 := hO.slB
            clear hD2 hM2 k8 hO hrd hr1 hs9
            by_cases hjb : jb l t = true
            · by_cases hs1 : st = 1
              · rw [if_pos ⟨hjb, hs1⟩] at hb8
                have HS1 := Lib.hid hs1
                clear hs1
                have HJ2 : Hid (jb l t = true) := Lib.hid (by exact hjb)
                clear hjb
                obtain ⟨a8, c8, rfl, -, -, -⟩ := hb8.form
                rw [sev_length] at hb8 ⊢
                obtain ⟨b8, o8, rfl, hc8⟩ := hb8.cells (by rw [sev_length]; decide)
                have y0 : w20.cell? ⟨b8, o8, none⟩ = some (.int .u8 7) := hc8 0 (by rw [sev_length]; decide)
                clear hb8 hc8
                go_upto_region 33 with (fail)
                refine wp_region_dag' (C := fun w' => Keep w20 w') (R := Keep) [none, some (tV (.pointer (some ⟨b8, o8, none⟩))), some (tV (.int .u8 7)), none, none, none, some (tV (.bool true)), none, none, some (tV (.bool true)), none, none]
                  (by kernel_rfl) (by kernel_rfl) (Keep.refl w20).drew ?_
                refine dagT_pure rfl ?_
                go_big_quiet_step (fail)
                refine dagT_on ?_
                refine dagT_told (by kernel_rfl) ?_ ?_
                · intro w2 hC hF
                  skip
                  exact Gives.value (v := .pointer (some ⟨b8, o8, none⟩)) (w' := w2) (by go_simp) ⟨hC, Keep.refl _, rfl⟩
                intro vv w2 hC hF hvv
                clear hC hF
                obtain rfl := hvv
                simp only [Act.put, List.setIfInBounds_toArray, List.set_cons_zero, List.set_cons_succ]
                refine dagT_told (by kernel_rfl) ?_ ?_
                · intro w2 hC hF
                  have zz := hC.cellk y0
                  exact Gives.value (v := .int .u8 7) (w' := w2) (by go_simp) ⟨hC, Keep.refl _, rfl⟩
                intro vv w2 hC hF hvv
                clear hC hF
                obtain rfl := hvv
                simp only [Act.put, List.setIfInBounds_toArray, List.set_cons_zero, List.set_cons_succ]
                refine dagT_pure rfl ?_
                go_big_quiet_step (fail)
                refine dagT_on ?_
                refine dagT_pure rfl ?_
                go_big_quiet_step (fail)
                refine dagT_on ?_
                refine dagT_pure rfl ?_
                go_big_quiet_step (fail)
                refine dagT_on ?_
                refine dagT_told (by kernel_rfl) ?_ ?_
                · intro w2 hC hF
                  obtain ⟨vv, ps, hrun, hvv⟩ := (own_keep hM8 hC).lookup keyed_int Try.underlying41 (zero_bool w2) (plainElem_bool Try.underlying4 false) (key_int (a := (t : Int)) (by omega))
                  have hvq := plainElem_bool_inv Try.underlying4 hvv (jD_look l t)
                  rw [HJ2.out] at hvq
                  subst hvq
                  exact Gives.value (v := .bool true) (w' := w2) (by first | (go_simp; done) | (go_simp; rfl)) ⟨hC, Keep.refl _, rfl⟩
                intro vv w2 hC hF hvv
                clear hC hF
                obtain rfl := hvv
                simp only [Act.put, List.setIfInBounds_toArray, List.set_cons_zero, List.set_cons_succ]
                refine dagT_pure rfl ?_
                go_big_quiet_step (fail)
                refine dagT_on ?_
                refine dagT_pure rfl ?_
                go_big_quiet_step (fail)
                refine dagT_on ?_
                refine dagT_told (by kernel_rfl) ?_ ?_
                · intro w2 hC hF
                  have e1 : (st : Int) = 1 := by rw [HS1.out]; rfl
                  exact Gives.value (v := .bool true) (w' := w2) (by go_simp) ⟨hC, Keep.refl _, rfl⟩
                intro vv w2 hC hF hvv
                clear hC hF
                obtain rfl := hvv
                simp only [Act.put, List.setIfInBounds_toArray, List.set_cons_zero, List.set_cons_succ]
                refine dagT_pure rfl ?_
                go_big_quiet_step (fail)
                refine dagT_on ?_
                refine dagT_pure rfl ?_
                go_big_quiet_step (fail)
                refine dagT_on ?_
                refine dagT_done fun w21 hC hF => ?_
                have kE := hC
                clear hF hC
                have hD9 := hD8.keep kE
                have hM9 := own_keep hM8 kE
                clear hD8 hM8 kE y0
                go_wp2
                go_roundw
                case rel => exact ⟨t + 1, by omega, by omega, by go_num, hD9, hM9⟩
                case measure => simp [intOf]; omega
              · rw [if_neg (fun h => hs1 h.2)] at hb8
                have hs1i : ¬ (st : Int) = 1 := by omega
                have HJ2 : Hid (jb l t = true) := Lib.hid (by exact hjb)
                clear hjb
                obtain ⟨a8, c8, rfl, -, -, -⟩ := hb8.form
                rw [z64_length] at hb8 ⊢
                obtain ⟨b8, o8, rfl, hc8⟩ := hb8.cells (by rw [z64_length]; decide)
                have y0 : w20.cell? ⟨b8, o8, none⟩ = some (.int .u8 0) := hc8 0 (by rw [z64_length]; decide)
                clear hb8 hc8
                go_upto_region 33 with (fail)
                refine wp_region_dag' (C := fun w' => Keep w20 w') (R := Keep) [none, some (tV (.pointer (some ⟨b8, o8, none⟩))), some (tV (.int .u8 0)), none, none, none, some (tV (.bool true)), none, none, none, none, none]
                  (by kernel_rfl) (by kernel_rfl) (Keep.refl w20).drew ?_
                refine dagT_pure rfl ?_
                go_big_quiet_step (fail)
                refine dagT_on ?_
                refine dagT_told (by kernel_rfl) ?_ ?_
                · intro w2 hC hF
                  skip
                  exact Gives.value (v := .pointer (some ⟨b8, o8, none⟩)) (w' := w2) (by go_simp) ⟨hC, Keep.refl _, rfl⟩
                intro vv w2 hC hF hvv
                clear hC hF
                obtain rfl := hvv
                simp only [Act.put, List.setIfInBounds_toArray, List.set_cons_zero, List.set_cons_succ]
                refine dagT_told (by kernel_rfl) ?_ ?_
                · intro w2 hC hF
                  have zz := hC.cellk y0
                  exact Gives.value (v := .int .u8 0) (w' := w2) (by go_simp) ⟨hC, Keep.refl _, rfl⟩
                intro vv w2 hC hF hvv
                clear hC hF
                obtain rfl := hvv
                simp only [Act.put, List.setIfInBounds_toArray, List.set_cons_zero, List.set_cons_succ]
                refine dagT_pure rfl ?_
                go_big_quiet_step (fail)
                refine dagT_on ?_
                refine dagT_pure rfl ?_
                go_big_quiet_step (fail)
                refine dagT_on ?_
                refine dagT_pure rfl ?_
                go_big_quiet_step (fail)
                refine dagT_on ?_
                refine dagT_told (by kernel_rfl) ?_ ?_
                · intro w2 hC hF
                  obtain ⟨vv, ps, hrun, hvv⟩ := (own_keep hM8 hC).lookup keyed_int Try.underlying41 (zero_bool w2) (plainElem_bool Try.underlying4 false) (key_int (a := (t : Int)) (by omega))
                  have hvq := plainElem_bool_inv Try.underlying4 hvv (jD_look l t)
                  rw [HJ2.out] at hvq
                  subst hvq
                  exact Gives.value (v := .bool true) (w' := w2) (by first | (go_simp; done) | (go_simp; rfl)) ⟨hC, Keep.refl _, rfl⟩
                intro vv w2 hC hF hvv
                clear hC hF
                obtain rfl := hvv
                simp only [Act.put, List.setIfInBounds_toArray, List.set_cons_zero, List.set_cons_succ]
                refine dagT_pure rfl ?_
                go_big_quiet_step (fail)
                refine dagT_on ?_
                refine dagT_pure rfl ?_
                go_big_quiet_step (fail)
                refine dagT_on ?_
                refine dagT_pure rfl ?_
                go_big_quiet_step (fail)
                refine dagT_on ?_
                refine dagT_pure rfl ?_
                go_big_quiet_step (fail)
                refine dagT_on ?_
                refine dagT_pure rfl ?_
                go_big_quiet_step (fail)
                refine dagT_on ?_
                refine dagT_done fun w21 hC hF => ?_
                have kE := hC
                clear hF hC
                have hD9 := hD8.keep kE
                have hM9 := own_keep hM8 kE
                clear hD8 hM8 kE y0
                go_wp2
                go_roundw
                case rel => exact ⟨t + 1, by omega, by omega, by go_num, hD9, hM9⟩
                case measure => simp [intOf]; omega
            · rw [if_neg (fun h => hjb h.1)] at hb8
              have HJ2 : Hid (jb l t = false) := Lib.hid (by cases h : jb l t with | true => exact absurd h hjb | false => rfl)
              clear hjb
              obtain ⟨a8, c8, rfl, -, -, -⟩ := hb8.form
              rw [z64_length] at hb8 ⊢
              obtain ⟨b8, o8, rfl, hc8⟩ := hb8.cells (by rw [z64_length]; decide)
              have y0 : w20.cell? ⟨b8, o8, none⟩ = some (.int .u8 0) := hc8 0 (by rw [z64_length]; decide)
              clear hb8 hc8
              go_upto_region 33 with (fail)
              refine wp_region_dag' (C := fun w' => Keep w20 w') (R := Keep) [none, some (tV (.pointer (some ⟨b8, o8, none⟩))), some (tV (.int .u8 0)), none, none, none, some (tV (.bool false)), none, none, none, none, none]
                (by kernel_rfl) (by kernel_rfl) (Keep.refl w20).drew ?_
              refine dagT_pure rfl ?_
              go_big_quiet_step (fail)
              refine dagT_on ?_
              refine dagT_told (by kernel_rfl) ?_ ?_
              · intro w2 hC hF
                skip
                exact Gives.value (v := .pointer (some ⟨b8, o8, none⟩)) (w' := w2) (by go_simp) ⟨hC, Keep.refl _, rfl⟩
              intro vv w2 hC hF hvv
              clear hC hF
              obtain rfl := hvv
              simp only [Act.put, List.setIfInBounds_toArray, List.set_cons_zero, List.set_cons_succ]
              refine dagT_told (by kernel_rfl) ?_ ?_
              · intro w2 hC hF
                have zz := hC.cellk y0
                exact Gives.value (v := .int .u8 0) (w' := w2) (by go_simp) ⟨hC, Keep.refl _, rfl⟩
              intro vv w2 hC hF hvv
              clear hC hF
              obtain rfl := hvv
              simp only [Act.put, List.setIfInBounds_toArray, List.set_cons_zero, List.set_cons_succ]
              refine dagT_pure rfl ?_
              go_big_quiet_step (fail)
              refine dagT_on ?_
              refine dagT_pure rfl ?_
              go_big_quiet_step (fail)
              refine dagT_on ?_
              refine dagT_pure rfl ?_
              go_big_quiet_step (fail)
              refine dagT_on ?_
              refine dagT_told (by kernel_rfl) ?_ ?_
              · intro w2 hC hF
                obtain ⟨vv, ps, hrun, hvv⟩ := (own_keep hM8 hC).lookup keyed_int Try.underlying41 (zero_bool w2) (plainElem_bool Try.underlying4 false) (key_int (a := (t : Int)) (by omega))
                have hvq := plainElem_bool_inv Try.underlying4 hvv (jD_look l t)
                rw [HJ2.out] at hvq
                subst hvq
                exact Gives.value (v := .bool false) (w' := w2) (by first | (go_simp; done) | (go_simp; rfl)) ⟨hC, Keep.refl _, rfl⟩
              intro vv w2 hC hF hvv
              clear hC hF
              obtain rfl := hvv
              simp only [Act.put, List.setIfInBounds_toArray, List.set_cons_zero, List.set_cons_succ]
              refine dagT_pure rfl ?_
              go_big_quiet_step (fail)
              refine dagT_on ?_
              refine dagT_skip (by kernel_rfl) ?_
              simp only [Act.put, List.setIfInBounds_toArray, List.set_cons_zero, List.set_cons_succ]
              refine dagT_skip (by kernel_rfl) ?_
              simp only [Act.put, List.setIfInBounds_toArray, List.set_cons_zero, List.set_cons_succ]
              refine dagT_pure rfl ?_
              go_big_quiet_step (fail)
              refine dagT_on ?_
              refine dagT_pure rfl ?_
              go_big_quiet_step (fail)
              refine dagT_on ?_
              refine dagT_done fun w21 hC hF => ?_
              have kE := hC
              clear hF hC
              have hD9 := hD8.keep kE
              have hM9 := own_keep hM8 kE
              clear hD8 hM8 kE y0
              go_wp2
              go_roundw
              case rel => exact ⟨t + 1, by omega, by omega, by go_num, hD9, hM9⟩
              case measure => simp [intOf]; omega
        have hii : (i : Int) < (l.length : Int) := by omega
        obtain ⟨b, off, rfl, x0⟩ := (SlN.keep hv (hD.keeps k3 hSw)).elem i hi
        obtain ⟨c9, hc9, hce, hse⟩ := secI_nat l[i]
        have HJT := Lib.hid (jD_take l i hi)
        rw [hse] at HJT
        clear hse
        generalize l[i] = x at *
        have hc9i : (c9 : Int) ≤ 511 := by omega
        have hc90 : (0 : Int) ≤ (c9 : Int) := by omega
        go_upto_region 27 with (fail)
        refine wp_region_seq ?_
        refine seqW_pure rfl ?_
        go_big_quiet_step (fail)
        refine seqW_on ?_
        refine seqW_pure rfl ?_
        go_big_quiet_step (fail)
        refine seqW_on ?_
        refine seqW_pure rfl ?_
        go_big_quiet_step (fail)
        refine seqW_on ?_
        refine seqW_pure rfl ?_
        go_big_quiet_step (fail)
        refine seqW_on ?_
        obtain ⟨w13, hrun, hM2, hg13⟩ := hM.update keyed_int Try.underlying41 (by unfold maxLen; omega) (key := .int .i64 (1 + (c9 : Int))) (val := .bool true) (key_int (by omega)) (plainElem_bool Try.underlying4 true)
        rw [show (1 : Int) + (c9 : Int) = ((1 + c9 : Nat) : Int) by omega, ← HJT.out] at hM2
        have hD13 := hD.other hmw nm hg13
        refine seqW_gives (by kernel_rfl) ?_
        refine Gives.skip (w' := w13) (by first | (go_simp; done) | (go_simp; rfl) | trace_state) ?_
        simp only [Act.put, List.setIfInBounds_toArray, List.set_cons_zero, List.set_cons_succ]
        refine seqW_done ?_
        clear hM hD hrun hg13 x0 hce
        go_wp2
        go_roundw
        case rel => exact ⟨i + 1, by omega, by go_num, hD13, hM2⟩
        case measure => simp [intOf]; omega
    have hii : (i : Int) < (l.length : Int) := by omega
    obtain ⟨b, off, rfl, x0⟩ := (SlN.keep hv (hD.keeps k3 hSw)).elem i hi
    obtain ⟨c9, hc9, hce, hse⟩ := secI_nat l[i]
    have HV := Lib.hid (HU.out.write hD.ok l[i] hc9 hse)
    have HT : Hid (l.take i ++ [l[i]] = l.take (i + 1)) := Lib.hid (List.take_succ_eq_append_getElem hi).symm
    have hroom := HU.out.small.room (n := i) (by omega)
    rw [HT.out] at HV
    clear HT hse HU
    generalize l[i] = x at *
    go_wp2_with fail
    have hD2 := hD.keep (Keep.alloc wr (.cells #[.int .u8 7] 5))
    have hb := slB_one wr 7
    have es : (1 : Int) + (c9 : Int) = ((1 + c9 : Nat) : Int) := by omega
    rw [es]
    refine (write_any p dk 1 ((1 + c9 : Nat) : Int) _ [7] _ S1 hD2.dsk hb hroom).mono ?_
    rintro e w5 ⟨rfl, h5, b5⟩
    have hD3 := hD2.step (Dt.of hD2.dsk.low h5 b5)
    clear hD hD2 h5 b5 hb x0 hce es
    go_wp2
    go_roundw
    case rel => exact ⟨i + 1, _, _, by omega, by go_num, hD3, HV⟩
    case measure => simp [intOf]; omega
end Go.Proofs.Ythknhonpcmneaaa
