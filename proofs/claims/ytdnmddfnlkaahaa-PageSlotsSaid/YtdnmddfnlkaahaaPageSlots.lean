/- The walk of PageSlots. -/
import Derived.Test.YtdnmddfnlkaahaaPageL
import Derived.Test.YtdnmddfnlkaahaaFillP
import Derived.Test.YtdnmddfnlkaahaaPgW
import Derived.Test.YtdnmddfnlkaahaaInRound
import Derived.Test.YtdnmddfnlkaahaaTail
namespace Go.Proofs.Ytdnmddfnlkaahaa
open Go Go.RowKit
attribute [local irreducible] Go.wpQuiet

attribute [local go_sem] Oper.semAt_some
theorem results_cellB {fn : Func} {a : Tmp} (h : fn.results = #[.cell a 4]) {tmps : Array Value} {g : Nat} {b : Bool} {w : World} (hc : w.cell? ⟨g, 0, none⟩ = some (.bool b)) (ha : tmps.getD a undef = .pointer (some ⟨g, 0, none⟩)) :
    (results fn tmps).run Try.prog w = .ok (.bool b) w := by
  have ha' : tmps[a]?.getD undef = .pointer (some ⟨g, 0, none⟩) := by simpa using ha
  simp only [results, h]
  simp [ha', asAddr]
  go_simp
theorem Pg.str_at {p : Pg} {w : World} {gm : Nat} (h : w.heap[gm]? = some (.cells p.strs.toArray 9)) (i : Nat) (hi : i < 5) : w.cell? ⟨gm, i, none⟩ = some (strV (p.slot (i : Int))) :=
  cell_of h i _ (by simp [Pg.strs, hi])
theorem SlI.three {W : World} {g : Nat} (h : W.heap[g]? = some (.cells #[.int .i64 1, .int .i64 9, .int .i64 (-3)] 3)) : SlI W (.slice (some ⟨g, 0, none⟩) 3 3) [1, 9, -3] := by
  refine ⟨some ⟨g, 0, none⟩, 3, rfl, by decide, ⟨by decide, fun h => by cases h⟩, fun i hi => ⟨g, 0, rfl, ?_⟩⟩
  have hi3 : i < 3 := hi
  rw [Nat.zero_add]
  refine cell_of h i _ ?_
  match i, hi3 with
  | 0, _ => rfl
  | 1, _ => rfl
  | 2, _ => rfl
theorem Pg.rowsTo_le (p : Pg) (k : Nat) : (p.rowsTo k).length ≤ k := by
  unfold Pg.rowsTo
  exact Nat.le_trans (List.length_filterMap_le _ _) (by simp)
structure Sx (w wr : World) (g gm gx gs gb : Nat) (stop : Int) (Q : Pg) (M : List Value) : Prop where
  pg : PgAt wr g Q
  ro : Q.RowsOk
  st : wr.heap[gm]? = some (.cells M.toArray 9)
  mx : wr.heap[gx]? = some (.cells #[.slice (some ⟨gm, 0, none⟩) 5 5] 29)
  sp : wr.heap[gs]? = some (.cells #[.int .i64 stop] 3)
  bb : wr.heap[gb]? = some (.cells #[.bool false] 4)
  k : Keep w wr
  ne : g ≠ gm ∧ g ≠ gx ∧ g ≠ gs ∧ g ≠ gb ∧ gm ≠ gx ∧ gm ≠ gs ∧ gm ≠ gb
  lo : w.heap.size ≤ g ∧ w.heap.size ≤ gm ∧ w.heap.size ≤ gb
section
variable {w wr w' : World} {g gm gx gs gb : Nat} {stop : Int} {Q Q' : Pg} {M : List Value}
theorem lt_of {w : World} {g : Nat} {o : Obj} (h : w.heap[g]? = some o) : g < w.heap.size := (Array.getElem?_eq_some_iff.1 h).1
theorem Sx.keep (h : Sx w wr g gm gx gs gb stop Q M) (k : Keep wr w') : Sx w w' g gm gx gs gb stop Q M :=
  ⟨h.pg.keep k, h.ro, (k.block _ (lt_of h.st)).trans h.st, (k.block _ (lt_of h.mx)).trans h.mx, (k.block _ (lt_of h.sp)).trans h.sp, (k.block _ (lt_of h.bb)).trans h.bb, h.k.trans' k, h.ne, h.lo⟩
theorem Sx.below {b : Nat} (h : Sx w wr g gm gx gs gb stop Q M) (k : Below b wr w') (h1 : g < b) (h2 : gm < b) (h3 : gx < b) (h4 : gs < b) (h5 : gb < b) (h6 : w.heap.size ≤ b) : Sx w w' g gm gx gs gb stop Q M :=
  ⟨h.pg.at (k.block _ h1), h.ro, (k.block _ h2).trans h.st, (k.block _ h3).trans h.mx, (k.block _ h4).trans h.sp, (k.block _ h5).trans h.bb, h.k.trans (k.mono h6), h.ne, h.lo⟩
theorem Sx.page (h : Sx w wr g gm gx gs gb stop Q M) (hb : wr.grownBy w' (some g)) (hp : PgAt w' g Q') (hr : Q'.RowsOk) : Sx w w' g gm gx gs gb stop Q' M :=
  have q : ∀ {b : Nat} {o : Obj}, g ≠ b → wr.heap[b]? = some o → w'.heap[b]? = some o := fun hn he => (hb.block _ (lt_of he) (fun e => hn (Option.some.inj e).symm)).trans he
  ⟨hp, hr, q h.ne.1 h.st, q h.ne.2.1 h.mx, q h.ne.2.2.1 h.sp, q h.ne.2.2.2.1 h.bb, h.k.trans (But.below hb h.lo.1 h.k.size), h.ne, h.lo⟩
theorem Sx.text (h : Sx w wr g gm gx gs gb stop Q M) (i : Nat) (v : Value) : Sx w (wr.setCell ⟨gm, i, none⟩ v) g gm gx gs gb stop Q (M.set i v) :=
  have q : ∀ {b : Nat} {o : Obj}, b ≠ gm → wr.heap[b]? = some o → (wr.setCell ⟨gm, i, none⟩ v).heap[b]? = some o := fun hn he => (Below.heap_setCell wr ⟨gm, i, none⟩ v _ hn).trans he
  ⟨h.pg.at (Below.heap_setCell wr ⟨gm, i, none⟩ v g h.ne.1), h.ro, heap_set_same h.st v, q h.ne.2.2.2.2.1.symm h.mx, q h.ne.2.2.2.2.2.1.symm h.sp, q h.ne.2.2.2.2.2.2.symm h.bb, Keep.setCell h.k h.lo.2.1 v, h.ne, h.lo⟩
end
set_option maxRecDepth 100000 in
set_option maxHeartbeats 8000000 in
theorem pageSlots_any (v u : Value) (l : List Rw) (sets : List Int) (stop : Int) (w : World) (hS : SlR w v l) (hU : SlI w u sets) : Calls Try.prog 4 #[v, u, .int .i64 stop] w fun e w' => e = .returned (.bool true) ∧ Keep w w' := by
  obtain ⟨va, vc, rfl, hmx, -⟩ := hS.form
  obtain ⟨ua, uc, rfl, hux⟩ := hU.form
  unfold maxLen at hmx hux
  refine (callsIn_wide (n := 8)).1 ?_
  refine callsIn_of_wp_marks Try.func4 rfl trivial ?_ rfl
  simp only [Try.ntmps4, List.size_toArray, List.length_cons, List.length_nil, Nat.reduceAdd, Nat.reduceSub, Array.replicate_succ, Array.replicate_zero, List.push_toArray, List.append_toArray, List.nil_append, List.cons_append]
  refine wpIn_wide.2 ?_
  go_upto_region 1 with (fail)
  have kb := (Keep.alloc w (.cells #[.int .i64 stop] 3)).trans' (Keep.alloc _ (.cells #[.bool false] 4))
  have hs := (Keep.alloc (w.alloc (.cells #[.int .i64 stop] 3)) (.cells #[.bool false] 4)).block w.heap.size (by simp)
  rw [heap_alloc_new w (.cells #[.int .i64 stop] 3)] at hs
  have hb := heap_alloc_new (w.alloc (.cells #[.int .i64 stop] 3)) (.cells #[.bool false] 4)
  have hz : (w.alloc (.cells #[.int .i64 stop] 3)).heap.size = w.heap.size + 1 := by simp
  rw [hz] at hb
  generalize (w.alloc (.cells #[.int .i64 stop] 3)).alloc (.cells #[.bool false] 4) = w0 at *
  obtain ⟨gs, hgs⟩ : ∃ x, x = w.heap.size := ⟨_, rfl⟩
  obtain ⟨gb, hgbe⟩ : ∃ x, x = gs + 1 := ⟨_, rfl⟩
  rw [← hgs] at hs hb
  rw [← hgbe] at hb
  rw [← hgs, ← hgbe]
  have hgb : w.heap.size ≤ gb := by omega
  have hgsb : gs ≠ gb := by omega
  clear hgs hgbe hz
  go_wp2_with fail
  refine (fit_any _).mono ?_
  rintro e w1 ⟨rfl, k1⟩
  have hs := (k1.block gs (Array.getElem?_eq_some_iff.1 hs).1).trans hs
  have hb := (k1.block gb (Array.getElem?_eq_some_iff.1 hb).1).trans hb
  have k1 := kb.trans' k1
  clear kb
  go_wp2_with fail
  refine (light_any _ l w1 (hS.keep k1)).mono ?_
  rintro e w2 ⟨bb, rfl, -, k2⟩
  have hs := (k2.block gs (Array.getElem?_eq_some_iff.1 hs).1).trans hs
  have hb := (k2.block gb (Array.getElem?_eq_some_iff.1 hb).1).trans hb
  have kw2 := k1.trans' k2
  clear k1 k2
  have c0 : w2.cell? ⟨gb, 0, none⟩ = some (.bool false) := cell_of hb 0 _ rfl
  have f0 := free_of hb 0
  cases bb
  · go_wp2
    exact ⟨_, results_cellB rfl (cell_of (heap_set_same hb _) 0 _ rfl) rfl, rfl, Keep.setCell kw2 hgb _⟩
  by_cases hn : 100 < sets.length
  · have hni : (100 : Int) < (sets.length : Int) := by omega
    go_wp2
    exact ⟨_, results_cellB rfl (cell_of (heap_set_same hb _) 0 _ rfl) rfl, rfl, Keep.setCell kw2 hgb _⟩
  have hni : ¬ (100 : Int) < (sets.length : Int) := by omega
  clear c0 f0
  go_wp2_with fail
  refine (fill_any _ l 0 (3) (4) w2 (hS.keep kw2) (by first | assumption | decide)).mono ?_
  rintro e w3 ⟨p, g, gm, rfl, H⟩
  have hP := H.at_
  have hst := H.strs
  have hro := H.rows
  have kw3 := kw2.trans' H.k
  have hsl : gs < w2.heap.size := (Array.getElem?_eq_some_iff.1 hs).1
  have hs := (H.k.block gs hsl).trans hs
  have hbl : gb < w2.heap.size := (Array.getElem?_eq_some_iff.1 hb).1
  have hb := (H.k.block gb hbl).trans hb
  have n1 : g ≠ gs := fun e => by have := H.gw; omega
  have n2 : g ≠ gb := fun e => by have := H.gw; omega
  have n3 : gm ≠ gs := fun e => by have := H.gmw; omega
  have n4 : gm ≠ gb := fun e => by have := H.gmw; omega
  have n5 := H.ne
  have hgw : w.heap.size ≤ g := Nat.le_trans kw2.size H.gw
  have hgmw : w.heap.size ≤ gm := Nat.le_trans kw2.size H.gmw
  clear H kw2 hsl hbl hni
  go_upto_region 6 with (fail)
  have hx := heap_alloc_new w3 (.cells #[.slice (some ⟨gm, 0, none⟩) 5 5] 29)
  have kx := Keep.alloc w3 (.cells #[.slice (some ⟨gm, 0, none⟩) 5 5] 29)
  have X0 : Sx w (w3.alloc (.cells #[.slice (some ⟨gm, 0, none⟩) 5 5] 29)) g gm w3.heap.size gs gb stop p p.strs := ⟨hP.keep kx, hro, (kx.block _ (lt_of hst)).trans hst, hx, (kx.block _ (lt_of hs)).trans hs, (kx.block _ (lt_of hb)).trans hb, kw3.trans' kx,
    ⟨n5, fun e => by have := hP.lt; omega, n1, n2, fun e => by have := lt_of hst; omega, n3, n4⟩, ⟨hgw, hgmw, hgb⟩⟩
  generalize w3.alloc (.cells #[.slice (some ⟨gm, 0, none⟩) 5 5] 29) = w4 at *
  generalize w3.heap.size = gx at *
  clear hx kx hP hst hs hb kw3 hro n1 n2 n3 n4 n5 hgw hgmw
  go_wp2_with fail
  go_loopw [38] (fun z wr => ∃ (j : Nat) (Q : Pg), j ≤ sets.length ∧ z = .int .i64 j ∧ Sx w wr g gm gx gs gb stop Q Q.strs) (fun z _ => sets.length - (intOf z).toNat)
  case atStart => exact ⟨0, p, Nat.zero_le _, rfl, X0⟩
  case round =>
    obtain ⟨j, Q, hj, rfl, X⟩ := hrel
    clear X0
    by_cases hjn : j < sets.length
    rotate_left
    · have hjd : ¬ ((j : Int) < (sets.length : Int)) := by omega
      have y0 : wr.cell? ⟨gx, 0, none⟩ = some (.slice (some ⟨gm, 0, none⟩) 5 5) := cell_of X.mx 0 _ rfl
      have HX := Lib.hid X
      clear X hj
      go_wp2_with fail
      clear y0
      generalize wr = wz at *
      go_loopw [14, 15] (fun y z wr => ∃ (k : Nat) (fv : Int), k ≤ 5 ∧ Hid (Q.freeFrom [1, 9, -3] k (5 - k) = fv) ∧ y = .int .i64 fv ∧ z = .int .i64 ((k : Int) - 1) ∧ Hid (Sx w wr g gm gx gs gb stop Q Q.strs)) (fun _ z _ => (intOf z + 1).toNat)
      case atStart => exact ⟨5, -1, by decide, Lib.hid rfl, rfl, rfl, HX⟩
      case round =>
        obtain ⟨k, fv, hk, HFV, rfl, rfl, HX2⟩ := hrel
        clear HX
        by_cases hk0 : k = 0
        · subst hk0
          rw [show ((0 : Nat) : Int) - 1 = -1 by rfl]
          have X := HX2.out
          clear HX2
          have hmf : ∀ (fn : Fn) (first cap : Array Value) (w : World), (Instr.makeFunc fn first cap).run Try.prog w = .ok (.func fn first cap) w := fun _ _ _ _ => rfl
          have HX := Lib.hid X
          clear X hk
          go_wp2_with fail
          have kz := (Keep.alloc wr (.cells #[.int .i64 (-1)] 3)).trans' (Keep.alloc _ (.cells #[.int .i64 0] 3))
          have hLc := (Keep.alloc (wr.alloc (.cells #[.int .i64 (-1)] 3)) (.cells #[.int .i64 0] 3)).block wr.heap.size (by simp)
          rw [heap_alloc_new wr (.cells #[.int .i64 (-1)] 3)] at hLc
          have hNc := heap_alloc_new (wr.alloc (.cells #[.int .i64 (-1)] 3)) (.cells #[.int .i64 0] 3)
          rw [World.size_alloc] at hNc
          have hzz : ((wr.alloc (.cells #[.int .i64 (-1)] 3)).alloc (.cells #[.int .i64 0] 3)).heap.size = wr.heap.size + 2 := by simp
          have XZ := HX.out.keep kz
          generalize (wr.alloc (.cells #[.int .i64 (-1)] 3)).alloc (.cells #[.int .i64 0] 3) = w5 at *
          have hgl : g < wr.heap.size := HX.out.pg.lt
          have hml : gm < wr.heap.size := lt_of HX.out.st
          have hxl : gx < wr.heap.size := lt_of HX.out.mx
          have hsl : gs < wr.heap.size := lt_of HX.out.sp
          have hbl : gb < wr.heap.size := lt_of HX.out.bb
          have hww := HX.out.k.size
          clear HX kz
          generalize wr.heap.size = n0 at *
          refine wpIn_wide.1 (wpIn_rangeFuncBox (n := 8) rfl (by decide) (gf := 18) (fst := #[.pointer (some ⟨g, 0, none⟩)]) rfl trivial (enters_of Try.func18 (by kernel_rfl) rfl) encR1 encR2 (fun x => #[.int .i64 x.2.t, .string ⟨x.2.k.toArray⟩, .string ⟨x.2.v.toArray⟩]) 24 18 19 (n₀ := n0) (by omega) (rows_seq _ _ g Q w5 XZ.pg hgl)
            (fun pre W => Sx w W g gm gx gs gb stop Q Q.strs ∧ W.heap[n0]? = some (.cells #[.int .i64 (lastOf pre)] 3) ∧ W.heap[n0 + 1]? = some (.cells #[.int .i64 (pre.length : Int)] 3))
            (fun c pre W => c = .exit 4 ∧ Sx w W g gm gx gs gb stop Q Q.strs)
            (fun s A B h hb => ⟨h.1.below hb (by omega) (by omega) (by omega) (by omega) (by omega) (by omega), (hb.block _ (by omega)).trans h.2.1, (hb.block _ (by omega)).trans h.2.2⟩)
            (fun c s A B h hb => ⟨h.1, h.2.below hb (by omega) (by omega) (by omega) (by omega) (by omega) (by omega)⟩) ⟨XZ, hLc, hNc⟩ ?_ ?_ ?_ ?_)
          · intro l x W K hK0 hK
            simp only [encR1, encR2, List.setIfInBounds_toArray, List.set_cons_zero, List.set_cons_succ] at hK ⊢
            gi_wp2
            exact hK _ _ ((Below.refl _ W).alloc (Nat.le_refl _) _) ⟨W.heap.size, heap_alloc_new W _, rfl⟩
          · rintro l pre x post a1 W hx hsz ⟨X, hL, hN⟩ ⟨B, hB, rfl⟩
            simp only [encR1, encR2, List.setIfInBounds_toArray, List.set_cons_zero, List.set_cons_succ]
            have c5 : W.cell? ⟨gs, 0, none⟩ = some (.int .i64 stop) := cell_of X.sp 0 _ rfl
            have c16 : W.cell? ⟨n0, 0, none⟩ = some (.int .i64 (lastOf pre)) := cell_of hL 0 _ rfl
            have c17 : W.cell? ⟨n0 + 1, 0, none⟩ = some (.int .i64 (pre.length : Int)) := cell_of hN 0 _ rfl
            by_cases hst : (pre.length : Int) = stop
            · have HX := Lib.hid X
              clear X
              gi_wp2
              exact ⟨KeepsOthers.refl _, rfl, HX.out⟩
            have hlast := Pg.last_lt hx
            obtain ⟨hx5, hxr, hxs⟩ := Pg.rowsTo_mem X.pg.ok X.ro (x := x) (by rw [hx]; simp)
            have y0 : W.cell? ⟨gx, 0, none⟩ = some (.slice (some ⟨gm, 0, none⟩) 5 5) := cell_of X.mx 0 _ rfl
            have y1 : W.cell? ⟨gm, x.1, none⟩ = some (strV (Q.slot (x.1 : Int))) := Pg.str_at X.st x.1 hx5
            rw [hxs] at y1
            unfold strV at y1
            have b0 : W.cell? ⟨B, 0, none⟩ = some (.int .i64 x.2.t) := cell_of hB 0 _ rfl
            have b1 : W.cell? ⟨B, 1, none⟩ = some (.string ⟨x.2.k.toArray⟩) := cell_of hB 1 _ rfl
            have b2 : W.cell? ⟨B, 2, none⟩ = some (.string ⟨x.2.v.toArray⟩) := cell_of hB 2 _ rfl
            have hle : ¬ (x.1 : Int) ≤ lastOf pre := by omega
            have hxi : (x.1 : Int) < 5 := by omega
            have HX := Lib.hid X
            have HXR := Lib.hid hxr
            have HXX := Lib.hid hx
            clear X hxr hx hxs hlast
            gi_wp2_with fail
            have hle2 : decide ((x.1 : Int) ≤ lastOf pre) = false := decide_eq_false (by omega)
            have hle3 : ¬ (x.1 : Int) ≤ lastOf pre := by omega
            refine wpIn_region_dagR (C := fun w' => Keep W w') (R := Keep) [none, some (tV (.int .i64 (lastOf pre))), none, none, some (tV (.agg #[.int .i64 x.2.t, .string ⟨x.2.k.toArray⟩, .string ⟨x.2.v.toArray⟩])), some (tB x.2.slot), some (tV (.string ⟨(x.2.slot).toArray⟩)), some (tV (.slice (some ⟨gm, 0, none⟩) 5 5)), none, some (tV (.pointer (some ⟨gm, x.1, none⟩))), some (tV (.string ⟨x.2.slot.toArray⟩)), none, none]
              (by kernel_rfl) (by kernel_rfl) (by kernel_rfl) (Keep.refl W).drew ?_
            refine dagT_pure rfl ?_
            go_big_quiet_step (fail)
            refine dagT_on ?_
            refine dagT_told (by kernel_rfl) ?_ ?_
            · intro w2 hC hF
              have zz := hC.cellk c16
              exact Gives.value (v := .int .i64 (lastOf pre)) (w' := w2) (by go_simp) ⟨hC, Keep.refl _, rfl⟩
            intro vv w2 hC hF hvv
            clear hC hF
            obtain rfl := hvv
            simp only [Act.put, List.setIfInBounds_toArray, List.set_cons_zero, List.set_cons_succ]
            refine dagT_pure rfl ?_
            go_big_quiet_step (fail)
            refine dagT_on ?_
            refine dagT_pure rfl ?_
            go_big_quiet_step (fail)
            refine dagT_on ?_
            refine dagT_told (by kernel_rfl) ?_ ?_
            · intro w2 hC hF
              have z0 := hC.cellk b0
              have z1 := hC.cellk b1
              have z2 := hC.cellk b2
              exact Gives.value (v := .agg #[.int .i64 x.2.t, .string ⟨x.2.k.toArray⟩, .string ⟨x.2.v.toArray⟩]) (w' := w2) (by go_simp) ⟨hC, Keep.refl _, rfl⟩
            intro vv w2 hC hF hvv
            clear hC hF
            obtain rfl := hvv
            simp only [Act.put, List.setIfInBounds_toArray, List.set_cons_zero, List.set_cons_succ]
            refine dagT_told (by kernel_rfl) ?_ ?_
            · intro w2 hC hF
              refine Gives.call (by first | (go_simp; done) | (go_simp; rfl)) (encode_any x.2 HXR.out w2) ?_
              rintro e w' ⟨v', rfl, hO, hk⟩
              exact ⟨_, rfl, hC.trans' hk, hk, hO.slB⟩
            intro x5 w2 hC hF hx5
            clear hC hF
            obtain ⟨a5, n5, c5, rfl⟩ := SlB.shape hx5
            simp only [Act.put, List.setIfInBounds_toArray, List.set_cons_zero, List.set_cons_succ]
            refine dagT_told (by kernel_rfl) ?_ ?_
            · intro w2 hC hF
              have hto := run_toString (P := Try.prog) Try.underlying38 Try.underlying5 Try.underlying9 (((hF 5 (by kernel_rfl)).1 rfl))
              unfold strV at hto
              exact Gives.value (v := .string ⟨(x.2.slot).toArray⟩) (w' := w2) (by go_simp) ⟨hC, Keep.refl _, rfl⟩
            intro vv w2 hC hF hvv
            clear hC hF
            obtain rfl := hvv
            simp only [Act.put, List.setIfInBounds_toArray, List.set_cons_zero, List.set_cons_succ]
            refine dagT_told (by kernel_rfl) ?_ ?_
            · intro w2 hC hF
              have zz := hC.cellk y0
              exact Gives.value (v := .slice (some ⟨gm, 0, none⟩) 5 5) (w' := w2) (by go_simp) ⟨hC, Keep.refl _, rfl⟩
            intro vv w2 hC hF hvv
            clear hC hF
            obtain rfl := hvv
            simp only [Act.put, List.setIfInBounds_toArray, List.set_cons_zero, List.set_cons_succ]
            refine dagT_pure rfl ?_
            go_big_quiet_step (fail)
            refine dagT_on ?_
            refine dagT_told (by kernel_rfl) ?_ ?_
            · intro w2 hC hF
              skip
              exact Gives.value (v := .pointer (some ⟨gm, x.1, none⟩)) (w' := w2) (by go_simp) ⟨hC, Keep.refl _, rfl⟩
            intro vv w2 hC hF hvv
            clear hC hF
            obtain rfl := hvv
            simp only [Act.put, List.setIfInBounds_toArray, List.set_cons_zero, List.set_cons_succ]
            refine dagT_told (by kernel_rfl) ?_ ?_
            · intro w2 hC hF
              have zz := hC.cellk y1
              exact Gives.value (v := .string ⟨x.2.slot.toArray⟩) (w' := w2) (by go_simp) ⟨hC, Keep.refl _, rfl⟩
            intro vv w2 hC hF hvv
            clear hC hF
            obtain rfl := hvv
            simp only [Act.put, List.setIfInBounds_toArray, List.set_cons_zero, List.set_cons_succ]
            refine dagT_pure rfl ?_
            go_big_quiet_step (fail)
            refine dagT_on ?_
            refine dagT_pure rfl ?_
            go_big_quiet_step (fail)
            refine dagT_on ?_
            refine dagT_done fun w2 hC hF => ?_
            have kE := hC
            clear hF hC hx5
            have hLB := (kE.block n0 (lt_of hL)).trans hL
            have hNB := (kE.block (n0 + 1) (lt_of hN)).trans hN
            have XB := HX.out.keep kE
            have d16 : w2.cell? ⟨n0, 0, none⟩ = some (.int .i64 (lastOf pre)) := cell_of hLB 0 _ rfl
            have d17 : w2.cell? ⟨n0 + 1, 0, none⟩ = some (.int .i64 (pre.length : Int)) := cell_of hNB 0 _ rfl
            have g16 := free_of hLB 0
            have g17 := free_of hNB 0
            have HXB := Lib.hid XB
            have HLB := Lib.hid hLB
            have HNB := Lib.hid hNB
            clear XB hLB hNB HX c16 c17 y0 y1 b0 b1 b2 hB hL hN XZ hLc hNc
            have hle4 : (pre.length : Int) + 1 ≤ 5 := by
              have := congrArg List.length HXX.out
              have h5 := Q.rowsTo_le 5
              simp at this
              omega
            gi_wp2
            have hW0 : n0 ≤ W.heap.size := by omega
            have b1 : Below n0 w2 (w2.setCell ⟨n0, 0, none⟩ (.int .i64 (x.1 : Int))) := (Below.refl n0 w2).setCell (Nat.le_refl _) _
            have hL4 := heap_set_same (i := 0) HLB.out (.int .i64 (x.1 : Int))
            have hN4 := (Below.heap_setCell w2 ⟨n0, 0, none⟩ (.int .i64 (x.1 : Int)) (n0 + 1) (by intro h; simp at h)).trans HNB.out
            have o1 : KeepsOthers W (w2.setCell ⟨n0, 0, none⟩ (.int .i64 (x.1 : Int))) := KeepsOthers.trans ⟨kE.size, fun k o hk _ => (kE.block k (lt_of hk)).trans hk⟩ (KeepsOthers.setCell _ _ _)
            have kE0 := (kE.mono hW0).trans b1
            have XB := HXB.out.below b1 (by omega) (by omega) (by omega) (by omega) (by omega) (by omega)
            clear HLB HNB HXB kE b1 d16 d17 g16 g17
            generalize w2.setCell ⟨n0, 0, none⟩ (.int .i64 (x.1 : Int)) = w3 at *
            have b2 : Below n0 w3 (w3.setCell ⟨n0 + 1, 0, none⟩ (.int .i64 ((pre.length : Int) + 1))) := (Below.refl n0 w3).setCell (Nat.le_succ _) _
            have e1 : (pre.length : Int) + 1 = ((pre ++ [x]).length : Int) := by
              rw [List.length_append, List.length_singleton]
              omega
            refine ⟨o1.trans (KeepsOthers.setCell _ _ _), kE0.trans b2, XB.below b2 (by omega) (by omega) (by omega) (by omega) (by omega) (by omega), ?_, ?_⟩
            · rw [lastOf_snoc]
              exact (Below.heap_setCell w3 _ _ n0 (by simp)).trans hL4
            · rw [heap_set_same hN4, e1]
              rfl
          · rintro D W hD ⟨X, hL, hN⟩ hKD
            have k6 := X.k
            have hQ := X.pg
            have hbb := X.bb
            clear XZ hLc hNc hL hN X
            go_wp2_with fail
            have hO := heap_alloc_new W (.cells #[.int .i64 1, .int .i64 9, .int .i64 (-3)] 3)
            have kO := Keep.alloc W (.cells #[.int .i64 1, .int .i64 9, .int .i64 (-3)] 3)
            generalize W.alloc (.cells #[.int .i64 1, .int .i64 9, .int .i64 (-3)] 3) = wO at *
            have hv := SlI.three hO
            have hb3 := (kO.block gb (lt_of hbb)).trans hbb
            have hKE := (kO.block D (lt_of hKD)).trans hKD
            have kkE := k6.trans' kO
            have hQO := hQ.keep kO
            have hDw : w.heap.size ≤ D := by omega
            have ndb : gb ≠ D := by omega
            clear hO kO hbb hKD k6 hQ
            refine (free_any g Q [1, 9, -3] _ wO hQO hv).mono ?_
            rintro e w8 ⟨rfl, rfl⟩
            rw [show Q.free [1, 9, -3] = fv from HFV.out]
            clear hQO hv
            go_wp2_with fail
            refine (free_nil _ wO).mono ?_
            rintro e w8 ⟨rfl, rfl⟩
            go_wp2_with fail
            refine (set_nil 0 [] wO).mono ?_
            rintro e w8 ⟨rfl, rfl⟩
            go_wp2_with fail
            refine (slot_nil 0 wO).mono ?_
            rintro e w8 ⟨rfl, rfl⟩
            have c0 : wO.cell? ⟨gb, 0, none⟩ = some (.bool false) := cell_of hb3 0 _ rfl
            have f0 := free_of hb3 0
            go_wp2
            have hb4 := heap_set_same (i := 0) hb3 (.bool true)
            have hK4 : (wO.setCell ⟨gb, 0, none⟩ (.bool true)).heap[D]? = some (.deferred (some [])) := (Below.heap_setCell wO ⟨gb, 0, none⟩ (.bool true) D (fun e => ndb e.symm)).trans hKE
            have kk4 : Keep w (wO.setCell ⟨gb, 0, none⟩ (.bool true)) := Keep.setCell kkE hgb _
            refine ⟨by simp, .inl ⟨_, _, rfl, run_takeDeferred hK4, ?_⟩⟩
            exact ⟨_, results_cellB rfl (cell_of ((World.putObj_heap_other ndb).trans hb4) 0 _ rfl) rfl, rfl, kk4.trans (belowK_b (w := w) (Nat.le_refl _) _ D _ _ hDw hK4 rfl rfl)⟩
          · rintro D c pre W hD hpre ⟨rfl, X⟩ hKD
            refine wpIn_wide.2 ?_
            have hL := 0
            have hN := 0
            have k6 := X.k
            have hQ := X.pg
            have hbb := X.bb
            clear XZ hLc hNc hL hN X
            go_wp2_with fail
            have hO := heap_alloc_new W (.cells #[.int .i64 1, .int .i64 9, .int .i64 (-3)] 3)
            have kO := Keep.alloc W (.cells #[.int .i64 1, .int .i64 9, .int .i64 (-3)] 3)
            generalize W.alloc (.cells #[.int .i64 1, .int .i64 9, .int .i64 (-3)] 3) = wO at *
            have hv := SlI.three hO
            have hb3 := (kO.block gb (lt_of hbb)).trans hbb
            have hKE := (kO.block D (lt_of hKD)).trans hKD
            have kkE := k6.trans' kO
            have hQO := hQ.keep kO
            have hDw : w.heap.size ≤ D := by omega
            have ndb : gb ≠ D := by omega
            clear hO kO hbb hKD k6 hQ
            refine (free_any g Q [1, 9, -3] _ wO hQO hv).mono ?_
            rintro e w8 ⟨rfl, rfl⟩
            rw [show Q.free [1, 9, -3] = fv from HFV.out]
            clear hQO hv
            go_wp2_with fail
            refine (free_nil _ wO).mono ?_
            rintro e w8 ⟨rfl, rfl⟩
            go_wp2_with fail
            refine (set_nil 0 [] wO).mono ?_
            rintro e w8 ⟨rfl, rfl⟩
            go_wp2_with fail
            refine (slot_nil 0 wO).mono ?_
            rintro e w8 ⟨rfl, rfl⟩
            have c0 : wO.cell? ⟨gb, 0, none⟩ = some (.bool false) := cell_of hb3 0 _ rfl
            have f0 := free_of hb3 0
            go_wp2
            have hb4 := heap_set_same (i := 0) hb3 (.bool true)
            have hK4 : (wO.setCell ⟨gb, 0, none⟩ (.bool true)).heap[D]? = some (.deferred (some [])) := (Below.heap_setCell wO ⟨gb, 0, none⟩ (.bool true) D (fun e => ndb e.symm)).trans hKE
            have kk4 : Keep w (wO.setCell ⟨gb, 0, none⟩ (.bool true)) := Keep.setCell kkE hgb _
            refine ⟨by simp, .inl ⟨_, _, rfl, run_takeDeferred hK4, ?_⟩⟩
            exact ⟨_, results_cellB rfl (cell_of ((World.putObj_heap_other ndb).trans hb4) 0 _ rfl) rfl, rfl, kk4.trans (belowK_b (w := w) (Nat.le_refl _) _ D _ _ hDw hK4 rfl rfl)⟩
        obtain ⟨i, rfl⟩ : ∃ i, k = i + 1 := ⟨k - 1, by omega⟩
        rw [show ((i + 1 : Nat) : Int) - 1 = (i : Int) by omega]
        have hi5 : i < 5 := by omega
        have hi0 : (0 : Int) ≤ (i : Int) := by omega
        have hi6 : (i : Int) < 5 := by omega
        have X := HX2.out
        have y0 : wr.cell? ⟨gx, 0, none⟩ = some (.slice (some ⟨gm, 0, none⟩) 5 5) := cell_of X.mx 0 _ rfl
        have y1 : wr.cell? ⟨gm, i, none⟩ = some (strV (Q.slot (i : Int))) := Pg.str_at X.st i hi5
        have HST := Lib.hid (Pg.freeFrom_step X.pg.ok X.ro i hi5)
        clear X hk hk0
        unfold strV at y1
        by_cases hs0 : Q.slot (i : Int) = []
        · rw [hs0] at y1
          by_cases h1 : i = 1
          · have h1i : (i : Int) = 1 := by omega
            have hn : Hid (Q.freeFrom [1, 9, -3] i (5 - i) = fv) := Lib.hid (by rw [HST.out, if_neg (fun h => h.2 h1)]; exact HFV.out)
            clear hs0
            subst h1
            go_wp2
            go_roundw
            case rel => exact ⟨1, fv, by omega, hn, rfl, by go_num, HX2⟩
            case measure => first | (simp [intOf]; done) | (simp [intOf]; omega)
          · have h1i : ¬ (i : Int) = 1 := by omega
            have hn : Hid (Q.freeFrom [1, 9, -3] i (5 - i) = (i : Int)) := Lib.hid (by rw [HST.out, if_pos ⟨hs0, h1⟩])
            clear hs0
            go_wp2
            go_roundw
            case rel => exact ⟨i, (i : Int), by omega, hn, rfl, by go_num, HX2⟩
            case measure => first | (simp [intOf]; done) | (simp [intOf]; omega)
        · have hn : Hid (Q.freeFrom [1, 9, -3] i (5 - i) = fv) := Lib.hid (by rw [HST.out, if_neg (fun h => hs0 h.1)]; exact HFV.out)
          generalize Q.slot (i : Int) = D at y1 hs0
          go_wp2
          go_roundw
          case rel => exact ⟨i, fv, by omega, hn, rfl, by go_num, HX2⟩
          case measure => first | (simp [intOf]; done) | (simp [intOf]; omega)
    have hjd : (j : Int) < (sets.length : Int) := by omega
    obtain ⟨b, off, rfl, x0⟩ := SlI.elem (Sl.keep X.k hU) j hjn
    generalize sets[j] = sv at *
    go_upto_region 9 with (fail)
    clear x0 hj
    obtain ⟨ii, hii⟩ : ∃ ii, ii = sv.tmod 9 - 1 := ⟨_, rfl⟩
    obtain ⟨tm, htm⟩ : ∃ tm, tm = sv.tmod 9 := ⟨_, rfl⟩
    have htb : -9 < tm ∧ tm < 9 := by rw [htm]; exact ⟨Int.lt_tmod_of_pos sv (by decide), Int.tmod_lt_of_pos sv (by decide)⟩
    rw [← htm] at hii
    refine wp_region_seq ?_
    refine seqW_pure rfl ?_
    go_big_quiet_step (fail)
    refine seqW_on ?_
    refine seqW_gives (by kernel_rfl) ?_
    refine Gives.value (v := .int .i64 tm) (w' := wr) (by rw [htm]; go_simp) ?_
    simp only [Act.put, List.setIfInBounds_toArray, List.set_cons_zero, List.set_cons_succ]
    refine seqW_gives (by kernel_rfl) ?_
    refine Gives.value (v := .int .i64 ii) (w' := wr) (by clear htm; rw [hii]; go_simp; rw [IntKind.wrap_i64]; omega) ?_
    simp only [Act.put, List.setIfInBounds_toArray, List.set_cons_zero, List.set_cons_succ]
    refine seqW_pure rfl ?_
    go_big_quiet_step (fail)
    refine seqW_on ?_
    refine seqW_done ?_
    have hib : -10 < ii ∧ ii < 8 := by omega
    clear htm htb hii
    go_upto_region 11 with (fail)
    go_cut [59] from 45 to 58 (fun z w' => ∃ bq : Bool, z = .bool bq ∧ Hid (bq = true → ∃ h : 0 < l.length, (l[0]'h).right = true) ∧ Sx w w' g gm gx gs gb stop Q Q.strs)
    case first =>
      as_aux_lemma =>
        by_cases hq : Go.bits .and .i64 (sv / 16) 1 = 1
        rotate_left
        · go_wp2
          go_meet
          case rel => exact ⟨false, rfl, Lib.hid (fun h => by cases h), X⟩
        by_cases hl0 : 0 < l.length
        rotate_left
        · have hl0i : ¬ (0 : Int) < (l.length : Int) := by omega
          go_wp2
          go_meet
          case rel => exact ⟨false, rfl, Lib.hid (fun h => by cases h), X⟩
        have hl0i : (0 : Int) < (l.length : Int) := by omega
        have hl0j : (1 : Int) ≤ (l.length : Int) := by omega
        obtain ⟨b2, off2, rfl, x0, x1, x2⟩ := (hS.keep X.k).elem 0 hl0
        simp only [Nat.zero_mul, Nat.add_zero] at x0 x1 x2
        have HL0 := Lib.hid hl0
        go_wp2_with fail
        refine (right_any (l[0]'HL0.out) wr).mono ?_
        rintro e w5 ⟨rfl, k5⟩
        have X5 := X.keep k5
        have HBQ : Hid ((l[0]'HL0.out).right = true → ∃ h : 0 < l.length, (l[0]'h).right = true) := Lib.hid (fun h => ⟨HL0.out, h⟩)
        generalize (l[0]'HL0.out).right = bq at *
        clear x0 x1 x2
        go_wp2
        go_meet
        case rel => exact ⟨bq, rfl, HBQ, X5⟩
    obtain ⟨bq, rfl, HBQ, X5⟩ := hcut
    clear X
    generalize wc = w5 at *
    go_upto_if 59 with (fail)
    go_cut [12] from 60 to 64 (fun z w' => ∃ vv : List UInt8, z = .string ⟨vv.toArray⟩ ∧ Hid (slotTxt vv) ∧ Sx w w' g gm gx gs gb stop Q Q.strs)
    case first =>
      as_aux_lemma =>
        cases bq
        · clear HBQ
          go_wp2
          go_meet
          case rel => exact ⟨[], rfl, Lib.hid (.inl rfl), X5⟩
        obtain ⟨hl0, hr⟩ := HBQ.out rfl
        have hl0i : (0 : Int) < (l.length : Int) := by omega
        have hl0j : (1 : Int) ≤ (l.length : Int) := by omega
        obtain ⟨b2, off2, rfl, x0, x1, x2⟩ := (hS.keep X5.k).elem 0 hl0
        simp only [Nat.zero_mul, Nat.add_zero] at x0 x1 x2
        have HL0 := Lib.hid hl0
        generalize l[0]'hl0 = r at *
        have HRR := Lib.hid hr
        clear hr HBQ
        go_upto_region 12 with (fail)
        refine wp_region_seq ?_
        refine seqW_pure rfl ?_
        go_big_quiet_step (fail)
        refine seqW_on ?_
        refine seqW_gives (by kernel_rfl) ?_
        refine Gives.value (v := .pointer (some ⟨b2, off2, none⟩)) (w' := w5) (by go_simp) ?_
        simp only [Act.put, List.setIfInBounds_toArray, List.set_cons_zero, List.set_cons_succ]
        refine seqW_gives (by kernel_rfl) ?_
        refine Gives.value (v := r.val) (w' := w5) (by unfold Rw.val strV; go_simp) ?_
        simp only [Act.put, List.setIfInBounds_toArray, List.set_cons_zero, List.set_cons_succ]
        refine seqW_gives (by kernel_rfl) ?_
        refine Gives.call (by first | (go_simp; done) | (go_simp; rfl)) (encode_any r HRR.out w5) ?_
        rintro e w7 ⟨v7, rfl, hO7, k7⟩
        refine ⟨_, rfl, ?_⟩
        have hs7 := hO7.slB
        have X7 := X5.keep k7
        clear hO7 x0 x1 x2
        simp only [Act.put, List.setIfInBounds_toArray, List.set_cons_zero, List.set_cons_succ]
        refine seqW_gives (by kernel_rfl) ?_
        refine Gives.toStr Try.underlying38 Try.underlying5 Try.underlying9 _ rfl rfl hs7 ?_
        simp only [Act.put, List.setIfInBounds_toArray, List.set_cons_zero, List.set_cons_succ]
        unfold strV
        refine seqW_pure rfl ?_
        go_big_quiet_step (fail)
        refine seqW_on ?_
        refine seqW_done ?_
        go_wp2
        go_meet
        case rel => exact ⟨r.slot, rfl, Lib.hid (.inr ⟨r, HRR.out, rfl⟩), X7⟩
    obtain ⟨vv, rfl, HVV, X6⟩ := hcut
    clear X5 HBQ
    generalize wc = w6 at *
    have HM := Lib.hid (HVV.out.may ii)
    have HMN := Lib.hid (may_none ii)
    have HLV := Lib.hid HVV.out.len
    by_cases h0 : 0 ≤ ii
    rotate_left
    · have h5n : ¬ (5 : Int) ≤ ii := by omega
      have hmay : Pg.may ii vv = false := by rw [HM.out]; exact decide_eq_false (by omega)
      have HS1 := Lib.hid (fun w (h : PgAt w g Q) => hmay ▸ Pg.set_no (p := Q) hmay ▸ set_any g Q ii vv w h (by have := HLV.out; omega))
      have HS2 := Lib.hid (fun w (h : PgAt w g Q) => HMN.out ▸ Pg.set_no (p := Q) HMN.out ▸ set_any g Q ii [110, 111, 110, 101] w h (by decide))
      have hso : Q.slot ii = [] := Pg.slot_out (by omega)
      have HSL := Lib.hid (fun w (h : PgAt w g Q) => hso ▸ slot_any g Q ii w h)
      clear hmay HM HMN HLV hso
      go_wp2_with fail
      refine (HS1.out w6 X6.pg).mono ?_
      rintro e w7 ⟨rfl, hQ7, hb7⟩
      have X7 := X6.page hb7 hQ7 X6.ro
      clear X6 hQ7 hb7 HS1
      go_wp2_with fail
      refine (HS2.out w7 X7.pg).mono ?_
      rintro e w8 ⟨rfl, hQ8, hb8⟩
      have X8 := X7.page hb8 hQ8 X7.ro
      clear X7 hQ8 hb8 HS2
      go_wp2_with fail
      refine (HSL.out w8 X8.pg).mono ?_
      rintro e w9 ⟨rfl, rfl⟩
      clear HSL
      have HX8 := Lib.hid X8
      clear X8
      by_cases hvv : vv = []
      · subst hvv
        go_wp2
        go_roundw
        case rel => exact ⟨j + 1, Q, by omega, by go_num, HX8.out⟩
        case measure => simp [intOf]; omega
      · go_wp2
        go_roundw
        case rel => exact ⟨j + 1, Q, by omega, by go_num, HX8.out⟩
        case measure => simp [intOf]; omega
    by_cases h5 : ii < 5
    rotate_left
    · have h5n : (5 : Int) ≤ ii := by omega
      have hmay : Pg.may ii vv = false := by rw [HM.out]; exact decide_eq_false (by omega)
      have HS1 := Lib.hid (fun w (h : PgAt w g Q) => hmay ▸ Pg.set_no (p := Q) hmay ▸ set_any g Q ii vv w h (by have := HLV.out; omega))
      have HS2 := Lib.hid (fun w (h : PgAt w g Q) => HMN.out ▸ Pg.set_no (p := Q) HMN.out ▸ set_any g Q ii [110, 111, 110, 101] w h (by decide))
      have hso : Q.slot ii = [] := Pg.slot_out (by omega)
      have HSL := Lib.hid (fun w (h : PgAt w g Q) => hso ▸ slot_any g Q ii w h)
      clear hmay HM HMN HLV hso
      go_wp2_with fail
      refine (HS1.out w6 X6.pg).mono ?_
      rintro e w7 ⟨rfl, hQ7, hb7⟩
      have X7 := X6.page hb7 hQ7 X6.ro
      clear X6 hQ7 hb7 HS1
      go_wp2_with fail
      refine (HS2.out w7 X7.pg).mono ?_
      rintro e w8 ⟨rfl, hQ8, hb8⟩
      have X8 := X7.page hb8 hQ8 X7.ro
      clear X7 hQ8 hb8 HS2
      go_wp2_with fail
      refine (HSL.out w8 X8.pg).mono ?_
      rintro e w9 ⟨rfl, rfl⟩
      clear HSL
      have HX8 := Lib.hid X8
      clear X8
      by_cases hvv : vv = []
      · subst hvv
        go_wp2
        go_roundw
        case rel => exact ⟨j + 1, Q, by omega, by go_num, HX8.out⟩
        case measure => simp [intOf]; omega
      · go_wp2
        go_roundw
        case rel => exact ⟨j + 1, Q, by omega, by go_num, HX8.out⟩
        case measure => simp [intOf]; omega
    obtain ⟨i, rfl⟩ := Int.eq_ofNat_of_zero_le h0
    have hi5 : i < 5 := by omega
    have HP := Lib.hid (Pg.put_txt X6.pg.ok X6.ro hi5 HVV.out)
    have hmay : Pg.may (i : Int) vv = true := by rw [HM.out]; exact decide_eq_true ⟨h0, h5⟩
    have HS1 := Lib.hid (fun w (h : PgAt w g Q) => hmay ▸ Pg.set_txt (p := Q) hi5 HVV.out ▸ set_any g Q (i : Int) vv w h (by have := HLV.out; omega))
    have HS2 := Lib.hid (fun w (h : PgAt w g (Q.put i (slotRaw vv))) => HMN.out ▸ Pg.set_no (p := Q.put i (slotRaw vv)) HMN.out ▸ set_any g (Q.put i (slotRaw vv)) (i : Int) [110, 111, 110, 101] w h (by decide))
    have HSL := Lib.hid (fun w (h : PgAt w g (Q.put i (slotRaw vv))) => HP.out.2.2.2 ▸ slot_any g (Q.put i (slotRaw vv)) (i : Int) w h)
    clear hmay HM HMN HLV
    go_wp2_with fail
    refine (HS1.out w6 X6.pg).mono ?_
    rintro e w7 ⟨rfl, hQ7, hb7⟩
    have X7 := X6.page hb7 hQ7 HP.out.2.1
    clear X6 hQ7 hb7 HS1
    go_wp2_with fail
    refine (HS2.out w7 X7.pg).mono ?_
    rintro e w8 ⟨rfl, hQ8, hb8⟩
    have X8 := X7.page hb8 hQ8 HP.out.2.1
    clear X7 hQ8 hb8 HS2
    have y0 : w8.cell? ⟨gx, 0, none⟩ = some (.slice (some ⟨gm, 0, none⟩) 5 5) := cell_of X8.mx 0 _ rfl
    have y1 : w8.cell? ⟨gm, i, none⟩ = some (strV (Q.slot (i : Int))) := Pg.str_at X8.st i hi5
    unfold strV at y1
    have f1 := free_of X8.st i
    have X9 := X8.text i (.string ⟨vv.toArray⟩)
    rw [show Q.strs.set i (.string ⟨vv.toArray⟩) = (Q.put i (slotRaw vv)).strs from HP.out.2.2.1.symm] at X9
    have h5m : ¬ (5 : Int) ≤ (i : Int) := by omega
    have HX9 := Lib.hid X9
    have HPG := Lib.hid X9.pg
    clear X9 X8
    go_upto_region 18 with (fail)
    generalize w8.setCell ⟨gm, i, none⟩ (.string ⟨vv.toArray⟩) = w9 at *
    clear y0 y1 f1
    go_wp2_with fail
    refine (HSL.out w9 HPG.out).mono ?_
    rintro e w10 ⟨rfl, rfl⟩
    clear HSL
    go_wp2
    go_roundw
    case rel => exact ⟨j + 1, _, by omega, by go_num, HX9.out⟩
    case measure => simp [intOf]; omega
end Go.Proofs.Ytdnmddfnlkaahaa
