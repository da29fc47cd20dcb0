/- The walk of PageEmpties. -/
import Derived.Test.YtdnmddfnlkaahaaPageL
import Derived.Test.YtdnmddfnlkaahaaFillP
import Derived.Test.YtdnmddfnlkaahaaRowsI
import Derived.Test.YtdnmddfnlkaahaaTail
namespace Go.Proofs.Ytdnmddfnlkaahaa
open Go Go.RowKit
attribute [local irreducible] Go.wpQuiet

attribute [local go_sem] Oper.semAt_some
theorem results_cellB {fn : Func} {a : Tmp} (h : fn.results = #[.cell a 4]) {tmps : Array Value} {g : Nat} {b : Bool} {w : World} (hc : w.cell? ⟨g, 0, none⟩ = some (.bool b)) (ha : tmps.getD a undef = .pointer (some ⟨g, 0, none⟩)) :
    (results fn tmps).run Try.prog w = .ok (.bool b) w := by
  have ha' : tmps[a]?.getD undef = .pointer (some ⟨g, 0, none⟩) := by simpa using ha
  simp only [results, h]
  simp [ha', asAddr]
  go_simp
theorem Pg.eq_blank {Q : Pg} (h : Q.Ok) (m : Nat) (t n : Int) (e1 : Q.mark = m) (e2 : Q.tenant = t) (e3 : Q.number = n) (e : ∀ k, k < 5 → Q.raw k = zB 40) : Q = (Pg.blank t n).withMark m := by
  cases Q with
  | mk a b c sl =>
    simp only at e1 e2 e3
    subst e1 e2 e3
    unfold Pg.blank Pg.withMark
    congr 1
    have hn := h.n
    simp only at hn
    refine List.ext_getElem (by simp [hn]) fun i h1 h2 => ?_
    have := e i (by omega)
    rw [Pg.raw_get (by simpa using h1)] at this
    exact this.trans (List.getElem_replicate ..).symm
theorem blank_norows (m : Nat) (t n : Int) : ((Pg.blank t n).withMark m).rowsTo 5 = [] := by
  have h : ∀ i, i < 5 → ((Pg.blank t n).withMark m).raw i = zB 40 := fun i hi => by
    rw [Pg.raw_get (by show i < 5; exact hi)]
    exact List.getElem_replicate ..
  unfold Pg.rowsTo
  refine List.filterMap_eq_nil_iff.2 fun i hi => ?_
  rw [h i (List.mem_range.1 hi), dec_zeros]
  rfl
theorem blank_free (m : Nat) (t n : Int) : ((Pg.blank t n).withMark m).free [] = 0 := by
  have h : ((Pg.blank t n).withMark m).raw 0 = zB 40 := rfl
  unfold Pg.free
  rw [Pg.freeFrom, if_pos ⟨decide_eq_true h, by simp⟩]
  rfl
set_option maxRecDepth 100000 in
set_option maxHeartbeats 8000000 in
theorem pageEmpties_any (v : Value) (l : List Rw) (mark : Nat) (w : World) (hS : SlR w v l) (hmk : mark < 18446744073709551616) : Calls Try.prog 7 #[v, .int .u64 mark] w fun e w' => e = .returned (.bool true) ∧ Keep w w' := by
  obtain ⟨va, vc, rfl, hmx, -⟩ := hS.form
  unfold maxLen at hmx
  refine (callsIn_wide (n := 8)).1 ?_
  refine callsIn_of_wp_marks Try.func7 rfl trivial ?_ rfl
  simp only [Try.ntmps7, List.size_toArray, List.length_cons, List.length_nil, Nat.reduceAdd, Nat.reduceSub, Array.replicate_succ, Array.replicate_zero, List.push_toArray, List.append_toArray, List.nil_append, List.cons_append]
  refine wpIn_wide.2 ?_
  go_upto_region 1 with (fail)
  have kb := Keep.alloc w (.cells #[.bool false] 4)
  have hbb := heap_alloc_new w (.cells #[.bool false] 4)
  have hbw : w.heap.size < (w.alloc (.cells #[.bool false] 4)).heap.size := by simp
  generalize w.alloc (.cells #[.bool false] 4) = w0 at *
  obtain ⟨gb, hge⟩ : ∃ x, x = w.heap.size := ⟨_, rfl⟩
  rw [← hge] at hbb hbw ⊢
  have hgb : w.heap.size ≤ gb := Nat.le_of_eq hge.symm
  clear hge
  go_wp2_with fail
  refine (fit_any _).mono ?_
  rintro e w1 ⟨rfl, k1⟩
  have hbb := (k1.block gb hbw).trans hbb
  have k1 := kb.trans' k1
  clear kb hbw
  go_wp2_with fail
  refine (light_any _ l w1 (hS.keep k1)).mono ?_
  rintro e w2 ⟨bb, rfl, -, k2⟩
  have hbb := (k2.block gb (Array.getElem?_eq_some_iff.1 hbb).1).trans hbb
  have kw2 := k1.trans' k2
  clear k1 k2
  cases bb
  · have c0 : w2.cell? ⟨gb, 0, none⟩ = some (.bool false) := cell_of hbb 0 _ rfl
    have f0 := free_of hbb 0
    go_wp2
    exact ⟨_, results_cellB rfl (cell_of (heap_set_same hbb _) 0 _ rfl) rfl, rfl, Keep.setCell kw2 hgb _⟩
  go_upto_region 5 with (fail)
  refine wp_region_seq ?_
  refine seqW_pure rfl ?_
  go_big_quiet_step (fail)
  refine seqW_on ?_
  refine seqW_gives (by kernel_rfl) ?_
  refine Gives.value (v := .agg ((Pg.blank 3 1).withMark mark).cells.toArray) (w' := w2) (exec_buildM rfl mark 3 1 rfl rfl rfl w2) ?_
  have hok0 : ((Pg.blank 3 1).withMark mark).Ok := ⟨hmk, rfl, Pg.zero_ok.k⟩
  have hno := blank_norows mark 3 1
  have hfr := blank_free mark 3 1
  have hbl : ∀ Q : Pg, Q.Ok → Q.mark = mark → Q.tenant = 3 → Q.number = 1 → (∀ k, k < 5 → Q.raw k = zB 40) → Q = (Pg.blank 3 1).withMark mark := fun Q h a b c d => Pg.eq_blank h mark 3 1 a b c d
  have hpm : ((Pg.blank 3 1).withMark mark).mark = mark := rfl
  have hpt : ((Pg.blank 3 1).withMark mark).tenant = 3 := rfl
  have hpn : ((Pg.blank 3 1).withMark mark).number = 1 := rfl
  generalize (Pg.blank 3 1).withMark mark = p at *
  have HNO := Lib.hid hno
  have HFR := Lib.hid hfr
  have HBL := Lib.hid hbl
  have HPM := Lib.hid hpm
  have HPT := Lib.hid hpt
  have HPN := Lib.hid hpn
  clear hno hfr hbl hpm hpt hpn
  simp only [Act.put, List.setIfInBounds_toArray, List.set_cons_zero, List.set_cons_succ]
  have hb2 := hbb
  refine seqW_gives (by kernel_rfl) ?_
  refine Gives.allocBig bigP rfl ?_
  have hz : PgAt (w2.alloc (.cells Pg.zero.cells.toArray 36)) w2.heap.size Pg.zero := ⟨heap_alloc_new w2 _, Pg.zero_ok⟩
  have ka := Keep.alloc w2 (.cells Pg.zero.cells.toArray 36)
  obtain ⟨gp, heq⟩ : ∃ x, x = w2.heap.size := ⟨_, rfl⟩
  rw [← heq] at hz
  rw [← heq]
  generalize w2.alloc (.cells Pg.zero.cells.toArray 36) = wa at *
  simp only [Act.put, List.setIfInBounds_toArray, List.set_cons_zero, List.set_cons_succ]
  refine seqW_gives (by kernel_rfl) ?_
  refine Gives.storeBig bigP _ _ rfl (g := gp) (off := 0) rfl p.cells rfl hz.h hok0.cells (by rw [List.size_toArray, hz.ok.cells]; exact Nat.le_refl _) (Pg.cells_one _) ?_
  have hP := hz.over hok0
  have hb := row_but wa gp (Pg.zero.cells.toArray.toList.take 0 ++ p.cells ++ Pg.zero.cells.toArray.toList.drop (0 + 203)).toArray
  generalize wa.setRow gp (Pg.zero.cells.toArray.toList.take 0 ++ p.cells ++ Pg.zero.cells.toArray.toList.drop (0 + 203)).toArray = w3 at *
  have kx : Keep w2 w3 := ka.trans (But.below hb (Nat.le_of_eq heq.symm) ka.size)
  have hbb := (kx.block gb (Array.getElem?_eq_some_iff.1 hbb).1).trans hbb
  have hgpw : w.heap.size ≤ gp := by rw [heq]; exact kw2.size
  have npb : gp ≠ gb := fun e => by have hlt := (Array.getElem?_eq_some_iff.1 hb2).1; omega
  have kw3 := kw2.trans' kx
  clear hz ka hb heq kx kw2 hb2
  simp only [Act.put, List.setIfInBounds_toArray, List.set_cons_zero, List.set_cons_succ]
  refine seqW_done ?_
  go_upto_region 6 with (fail)
  refine wp_region_seq ?_
  refine seqW_gives (by kernel_rfl) ?_
  refine Gives.loadBig bigP _ rfl (g := gp) (off := 0) rfl p.cells hok0.cells (fun j v hj => cell_of hP.h _ v (by rw [Nat.zero_add]; exact hj)) ?_
  simp only [Act.put, List.setIfInBounds_toArray, List.set_cons_zero, List.set_cons_succ]
  have hb2 := hbb
  refine seqW_gives (by kernel_rfl) ?_
  refine Gives.allocBig bigP rfl ?_
  have hz : PgAt (w3.alloc (.cells Pg.zero.cells.toArray 36)) w3.heap.size Pg.zero := ⟨heap_alloc_new w3 _, Pg.zero_ok⟩
  have ka := Keep.alloc w3 (.cells Pg.zero.cells.toArray 36)
  obtain ⟨gq, heq⟩ : ∃ x, x = w3.heap.size := ⟨_, rfl⟩
  rw [← heq] at hz
  rw [← heq]
  generalize w3.alloc (.cells Pg.zero.cells.toArray 36) = wc at *
  simp only [Act.put, List.setIfInBounds_toArray, List.set_cons_zero, List.set_cons_succ]
  refine seqW_gives (by kernel_rfl) ?_
  refine Gives.storeBig bigP _ _ rfl (g := gq) (off := 0) rfl p.cells rfl hz.h hok0.cells (by rw [List.size_toArray, hz.ok.cells]; exact Nat.le_refl _) (Pg.cells_one _) ?_
  have hQ := hz.over hok0
  have hb := row_but wc gq (Pg.zero.cells.toArray.toList.take 0 ++ p.cells ++ Pg.zero.cells.toArray.toList.drop (0 + 203)).toArray
  generalize wc.setRow gq (Pg.zero.cells.toArray.toList.take 0 ++ p.cells ++ Pg.zero.cells.toArray.toList.drop (0 + 203)).toArray = w4 at *
  have kx : Keep w3 w4 := ka.trans (But.below hb (Nat.le_of_eq heq.symm) ka.size)
  have hbb := (kx.block gb (Array.getElem?_eq_some_iff.1 hbb).1).trans hbb
  have hgqw : w.heap.size ≤ gq := by rw [heq]; exact kw3.size
  have nqb : gq ≠ gb := fun e => by have hlt := (Array.getElem?_eq_some_iff.1 hb2).1; omega
  have nqp : gq ≠ gp := fun e => by have hlt := hP.lt; omega
  have hP := hP.keep kx
  have kw4 := kw3.trans' kx
  clear hz ka hb heq kx kw3 hb2
  simp only [Act.put, List.setIfInBounds_toArray, List.set_cons_zero, List.set_cons_succ]
  refine seqW_done ?_
  go_wp2_with fail
  go_loopw [20] (fun z wr => ∃ (j : Nat) (Q : Pg), j ≤ l.length ∧ z = .int .i64 j ∧ PgAt wr gq Q ∧ Q.mark = mark ∧ Q.tenant = 3 ∧ Q.number = 1 ∧ PgAt wr gp p ∧ wr.heap[gb]? = some (.cells #[.bool false] 4) ∧ Keep w wr) (fun z _ => l.length - (intOf z).toNat)
  case atStart => exact ⟨0, p, Nat.zero_le _, rfl, hQ, HPM.out, HPT.out, HPN.out, hP, hbb, kw4⟩
  case round =>
    obtain ⟨j, Q, hj, rfl, hQ', em, et, en, hP', hb', kk⟩ := hrel
    have EM := Lib.hid em
    have ET := Lib.hid et
    have EN := Lib.hid en
    clear hQ hP hbb kw4 em et en
    by_cases hjn : j < l.length
    rotate_left
    · have hjd : ¬ ((j : Int) < (l.length : Int)) := by omega
      clear hj
      generalize wr = wz at *
      go_wp2_with fail
      go_loopw [37] (fun z wr => ∃ (i : Nat) (Q2 : Pg), i ≤ 5 ∧ z = .int .i64 i ∧ PgAt wr gq Q2 ∧ Q2.mark = mark ∧ Q2.tenant = 3 ∧ Q2.number = 1 ∧ Hid (∀ k, k < i → Q2.raw k = zB 40) ∧ PgAt wr gp p ∧ wr.heap[gb]? = some (.cells #[.bool false] 4) ∧ Keep w wr) (fun z _ => 5 - (intOf z).toNat)
      case atStart => exact ⟨0, Q, by decide, rfl, hQ', EM.out, ET.out, EN.out, Lib.hid (fun k hk => absurd hk (by omega)), hP', hb', kk⟩
      case round =>
        obtain ⟨i, Q2, hi, rfl, hQ2, em2, et2, en2, HR2, hP2, hb2, kk2⟩ := hrel
        have EM2 := Lib.hid em2
        have ET2 := Lib.hid et2
        have EN2 := Lib.hid en2
        clear hQ' hP' hb' kk em2 et2 en2 EM ET EN
        by_cases hi5 : i < 5
        rotate_left
        · have hid : ¬ ((i : Int) < 5) := by omega
          have e5 : i = 5 := by omega
          subst e5
          have e : p = Q2 := (HBL.out Q2 hQ2.ok EM2.out ET2.out EN2.out HR2.out).symm
          subst e
          clear EM2 ET2 EN2 HR2 HBL
          have hmf : ∀ (fn : Fn) (first cap : Array Value) (w : World), (Instr.makeFunc fn first cap).run Try.prog w = .ok (.func fn first cap) w := fun _ _ _ _ => rfl
          go_wp2_with fail
          generalize wr = w5 at *
          have nqs := hQ2.lt
          have nps := hP2.lt
          have nbs : gb < w5.heap.size := (Array.getElem?_eq_some_iff.1 hb2).1
          refine wpIn_wide.1 (wpIn_rangeFuncB2 (n := 8) rfl (by decide) (gf := 18) (fst := #[.pointer (some ⟨gq, 0, none⟩)]) rfl trivial (enters_of Try.func18 (by kernel_rfl) rfl) encR1 encR2 (n₀ := w5.heap.size) (Nat.le_refl _) (rows_seq _ _ gq p w5 hQ2 nqs)
            (fun pre W => PgAt W gq p ∧ PgAt W gp p ∧ W.heap[gb]? = some (.cells #[.bool false] 4) ∧ Keep w W) (fun _ _ _ => False)
            (fun s A B h hb => ⟨h.1.at (hb.block _ nqs), h.2.1.at (hb.block _ nps), (hb.block _ nbs).trans h.2.2.1, h.2.2.2.trans (hb.mono kk2.size)⟩) (fun _ _ _ _ h _ => h) ⟨hQ2, hP2, hb2, kk2⟩ ?_ ?_ (fun _ _ _ _ _ _ h _ => h.elim))
          · rintro l pre x post W hx - -
            rw [HNO.out] at hx
            exact absurd hx (by simp)
          · rintro D W hD ⟨hQ3, hP3, hb3, hk3⟩ hKD
            have ndb : gb ≠ D := by omega
            have hDw : w.heap.size ≤ D := Nat.le_trans kk2.size hD
            have htr : 0 ≤ p.tenant ∧ p.tenant < 65536 := by rw [HPT.out]; decide
            have hnr : 0 ≤ p.number ∧ p.number < 65536 := by rw [HPN.out]; decide
            clear hQ2 hP2 hb2 kk2 nqs nps nbs
            go_upto_region 21 with (fail)
            refine wp_region_dag_tail (C := fun w' => Keep W w') (R := Keep) 16 [some (tV (.agg p.cells.toArray)), some (tV (.agg p.cells.toArray)), some (tV (.bool true)), none, some (tV (.int .i64 0)), none, none, none, some (tV (.agg p.cells.toArray)), some (tB p.enc), some (tV (.string ⟨(p.enc).toArray⟩)), some (tV (.agg p.cells.toArray)), some (tB p.enc), some (tV (.string ⟨(p.enc).toArray⟩)), none, none] (by kernel_rfl) (by kernel_rfl) (by kernel_rfl) (Keep.refl W).drew ?_
            refine dagT_told (by kernel_rfl) ?_ ?_
            · intro w2 hC hF
              exact Gives.value (v := .agg p.cells.toArray) (w' := w2) (by exact exec_loadBig bigP _ rfl rfl w2 p.cells hok0.cells (fun j v hj => cell_of (hP3.keep hC).h _ v (by rw [Nat.zero_add]; exact hj))) ⟨hC, Keep.refl _, rfl⟩
            intro vv w2 hC hF hvv
            clear hC hF
            obtain rfl := hvv
            simp only [Act.put, List.setIfInBounds_toArray, List.set_cons_zero, List.set_cons_succ]
            refine dagT_told (by kernel_rfl) ?_ ?_
            · intro w2 hC hF
              exact Gives.value (v := .agg p.cells.toArray) (w' := w2) (by exact exec_loadBig bigP _ rfl rfl w2 p.cells hok0.cells (fun j v hj => cell_of (hQ3.keep hC).h _ v (by rw [Nat.zero_add]; exact hj))) ⟨hC, Keep.refl _, rfl⟩
            intro vv w2 hC hF hvv
            clear hC hF
            obtain rfl := hvv
            simp only [Act.put, List.setIfInBounds_toArray, List.set_cons_zero, List.set_cons_succ]
            refine dagT_told (by kernel_rfl) ?_ ?_
            · intro w2 hC hF
              exact Gives.value (v := .bool true) (w' := w2) (by refine (exec_eq_page (p := p) (q := p) _ _ rfl rfl rfl hok0 hok0 w2).trans ?_; rw [decide_eq_true rfl]) ⟨hC, Keep.refl _, rfl⟩
            intro vv w2 hC hF hvv
            clear hC hF
            obtain rfl := hvv
            simp only [Act.put, List.setIfInBounds_toArray, List.set_cons_zero, List.set_cons_succ]
            refine dagT_pure rfl ?_
            go_big_quiet_step (fail)
            refine dagT_on ?_
            refine dagT_told (by kernel_rfl) ?_ ?_
            · intro w2 hC hF
              refine Gives.call (by go_simp) ((free_any gq p [] _ w2 (hQ3.keep hC) (SlI.nil w2)).mono (fun e w' h => (⟨h.1, h.2 ▸ Keep.refl _⟩ : e = .returned (.int .i64 (p.free [])) ∧ Keep w2 w'))) ?_
              rintro e w' ⟨rfl, hk⟩
              exact ⟨_, rfl, hC.trans' hk, hk, by rw [HFR.out]; rfl⟩
            intro vv w2 hC hF hvv
            clear hC hF
            obtain rfl := hvv
            simp only [Act.put, List.setIfInBounds_toArray, List.set_cons_zero, List.set_cons_succ]
            refine dagT_pure rfl ?_
            go_big_quiet_step (fail)
            refine dagT_on ?_
            refine dagT_pure rfl ?_
            go_big_quiet_step (fail)
            refine dagT_on ?_
            refine dagT_pure rfl ?_
            go_big_quiet_step (fail)
            refine dagT_on ?_
            refine dagT_told (by kernel_rfl) ?_ ?_
            · intro w2 hC hF
              exact Gives.value (v := .agg p.cells.toArray) (w' := w2) (by exact exec_loadBig bigP _ rfl rfl w2 p.cells hok0.cells (fun j v hj => cell_of (hP3.keep hC).h _ v (by rw [Nat.zero_add]; exact hj))) ⟨hC, Keep.refl _, rfl⟩
            intro vv w2 hC hF hvv
            clear hC hF
            obtain rfl := hvv
            simp only [Act.put, List.setIfInBounds_toArray, List.set_cons_zero, List.set_cons_succ]
            refine dagT_told (by kernel_rfl) ?_ ?_
            · intro w2 hC hF
              refine Gives.call (by first | (go_simp; done) | (go_simp; rfl)) (pencode_any p hok0 htr hnr w2) ?_
              rintro e w' ⟨v', rfl, hO, hk⟩
              exact ⟨_, rfl, hC.trans' hk, hk, hO.slB⟩
            intro x9 w2 hC hF hx9
            clear hC hF
            obtain ⟨a9, n9, c9, rfl⟩ := SlB.shape hx9
            simp only [Act.put, List.setIfInBounds_toArray, List.set_cons_zero, List.set_cons_succ]
            refine dagT_told (by kernel_rfl) ?_ ?_
            · intro w2 hC hF
              have hto := run_toString (P := Try.prog) Try.underlying38 Try.underlying5 Try.underlying9 (((hF 9 (by kernel_rfl)).1 rfl))
              unfold strV at hto
              exact Gives.value (v := .string ⟨(p.enc).toArray⟩) (w' := w2) (by go_simp) ⟨hC, Keep.refl _, rfl⟩
            intro vv w2 hC hF hvv
            clear hC hF
            obtain rfl := hvv
            simp only [Act.put, List.setIfInBounds_toArray, List.set_cons_zero, List.set_cons_succ]
            refine dagT_told (by kernel_rfl) ?_ ?_
            · intro w2 hC hF
              exact Gives.value (v := .agg p.cells.toArray) (w' := w2) (by exact exec_loadBig bigP _ rfl rfl w2 p.cells hok0.cells (fun j v hj => cell_of (hQ3.keep hC).h _ v (by rw [Nat.zero_add]; exact hj))) ⟨hC, Keep.refl _, rfl⟩
            intro vv w2 hC hF hvv
            clear hC hF
            obtain rfl := hvv
            simp only [Act.put, List.setIfInBounds_toArray, List.set_cons_zero, List.set_cons_succ]
            refine dagT_told (by kernel_rfl) ?_ ?_
            · intro w2 hC hF
              refine Gives.call (by first | (go_simp; done) | (go_simp; rfl)) (pencode_any p hok0 htr hnr w2) ?_
              rintro e w' ⟨v', rfl, hO, hk⟩
              exact ⟨_, rfl, hC.trans' hk, hk, hO.slB⟩
            intro x12 w2 hC hF hx12
            clear hC hF
            obtain ⟨a12, n12, c12, rfl⟩ := SlB.shape hx12
            simp only [Act.put, List.setIfInBounds_toArray, List.set_cons_zero, List.set_cons_succ]
            refine dagT_told (by kernel_rfl) ?_ ?_
            · intro w2 hC hF
              have hto := run_toString (P := Try.prog) Try.underlying38 Try.underlying5 Try.underlying9 (((hF 12 (by kernel_rfl)).1 rfl))
              unfold strV at hto
              exact Gives.value (v := .string ⟨(p.enc).toArray⟩) (w' := w2) (by go_simp) ⟨hC, Keep.refl _, rfl⟩
            intro vv w2 hC hF hvv
            clear hC hF
            obtain rfl := hvv
            simp only [Act.put, List.setIfInBounds_toArray, List.set_cons_zero, List.set_cons_succ]
            refine dagT_pure rfl ?_
            go_big_quiet_step (fail)
            refine dagT_on ?_
            refine dagT_pure rfl ?_
            go_big_quiet_step (fail)
            refine dagT_on ?_
            refine dagT_done fun w2 hC hF => ?_
            have kE := hC
            clear hF hC
            have hbE := (kE.block gb (Array.getElem?_eq_some_iff.1 hb3).1).trans hb3
            have hKE := (kE.block D (Array.getElem?_eq_some_iff.1 hKD).1).trans hKD
            have kkE := hk3.trans' kE
            have c0 : w2.cell? ⟨gb, 0, none⟩ = some (.bool false) := cell_of hbE 0 _ rfl
            have f0 := free_of hbE 0
            clear hb3 hKD hk3 kE hx9 hx12 hQ3 hP3
            refine seqW_gives (by kernel_rfl) ?_
            refine Gives.skip (w' := w2.setCell ⟨gb, 0, none⟩ (.bool true)) (by go_simp) ?_
            simp only [Act.put, List.setIfInBounds_toArray, List.set_cons_zero, List.set_cons_succ]
            refine seqW_done ?_
            have hb4 := heap_set_same (i := 0) hbE (.bool true)
            have hK4 : (w2.setCell ⟨gb, 0, none⟩ (.bool true)).heap[D]? = some (.deferred (some [])) := (Below.heap_setCell w2 ⟨gb, 0, none⟩ (.bool true) D (fun e => ndb e.symm)).trans hKE
            have kk4 : Keep w (w2.setCell ⟨gb, 0, none⟩ (.bool true)) := Keep.setCell kkE hgb _
            clear hbE hKE kkE c0 f0
            go_wp2
            refine ⟨by simp, .inl ⟨_, _, rfl, run_takeDeferred hK4, ?_⟩⟩
            exact ⟨_, results_cellB rfl (cell_of ((World.putObj_heap_other ndb).trans hb4) 0 _ rfl) rfl, rfl, kk4.trans (belowK_b (w := w) (Nat.le_refl _) _ D _ _ hDw hK4 rfl rfl)⟩
        have hid : (i : Int) < 5 := by omega
        have hmay : Pg.may (i : Int) [] = true := decide_eq_true ⟨by omega, by omega, .inl rfl⟩
        have hset : Q2.set (i : Int) [] = Q2.put i (zB 40) := by
          unfold Pg.set
          rw [if_pos hmay, if_pos rfl, Int.toNat_natCast]
        have hraw : ∀ k, k < 5 → (Q2.put i (zB 40)).raw k = if k = i then zB 40 else Q2.raw k := fun k hk => by
          rw [Pg.raw_get (by show k < (Q2.slots.set i (zB 40)).length; rw [List.length_set, hQ2.ok.n]; exact hk), Pg.raw_get (p := Q2) (by rw [hQ2.ok.n]; exact hk)]
          show (Q2.slots.set i (zB 40))[k]'_ = _
          rw [List.getElem_set]
          by_cases e : i = k
          · rw [if_pos e, if_pos e.symm]
          · rw [if_neg e, if_neg (fun h => e h.symm)]
        have hslot : (Q2.put i (zB 40)).slot (i : Int) = [] := Pg.slot_free (by rw [hraw i hi5, if_pos rfl])
        have HN2 : Hid (∀ k, k < i + 1 → (Q2.put i (zB 40)).raw k = zB 40) := Lib.hid (fun k hk => by
          rw [hraw k (by omega)]
          split
          · rfl
          · exact HR2.out k (by omega))
        have HS := Lib.hid (fun w (h : PgAt w gq Q2) => hmay ▸ hset ▸ set_any gq Q2 (i : Int) [] w h (by decide))
        have HL := Lib.hid (fun w (h : PgAt w gq (Q2.put i (zB 40))) => hslot ▸ slot_any gq (Q2.put i (zB 40)) (i : Int) w h)
        clear hmay hset hraw hslot HR2
        go_wp2_with fail
        refine (HS.out wr hQ2).mono ?_
        rintro e w6 ⟨rfl, hQ6, hb6⟩
        have hP6 := hP2.but hb6 nqp.symm
        have hb6' := (hb6.block gb (Array.getElem?_eq_some_iff.1 hb2).1 (fun e => nqb (Option.some.inj e).symm)).trans hb2
        have kk6 : Keep w w6 := kk2.trans (But.below hb6 hgqw kk2.size)
        clear hQ2 hP2 hb2 kk2 hb6
        go_wp2_with fail
        refine (HL.out w6 hQ6).mono ?_
        rintro e w7 ⟨rfl, rfl⟩
        clear HS HL
        go_wp2
        go_roundw
        case rel => exact ⟨i + 1, _, by omega, by go_num, hQ6, EM2.out, ET2.out, EN2.out, HN2, hP6, hb6', kk6⟩
        case measure => simp [intOf]; omega
    have hjd : (j : Int) < (l.length : Int) := by omega
    obtain ⟨b, off, rfl, x0, x1, x2⟩ := (hS.keep kk).elem j hjn
    generalize l[j] = r at *
    go_upto_region 10 with (fail)
    have hA := RwAt.new wr r
    have kA := Keep.alloc wr (.cells #[.int .i64 r.t, .string ⟨r.k.toArray⟩, .string ⟨r.v.toArray⟩] 24)
    have hQA := hQ'.keep kA
    have hPA := hP'.keep kA
    have hbA := (kA.block gb (Array.getElem?_eq_some_iff.1 hb').1).trans hb'
    have kkA := kk.trans' kA
    generalize wr.alloc (.cells #[.int .i64 r.t, .string ⟨r.k.toArray⟩, .string ⟨r.v.toArray⟩] 24) = w5 at *
    generalize wr.heap.size = gr at *
    clear x0 x1 x2 hQ' hP' hb' kk kA hj
    obtain ⟨e0, e1, e2⟩ := hA.cells
    by_cases h5 : j < 5
    rotate_left
    · have h5i : ¬ ((j : Int) < 5) := by omega
      go_wp2
      go_roundw
      case rel => exact ⟨j + 1, Q, by omega, by go_num, hQA, EM.out, ET.out, EN.out, hPA, hbA, kkA⟩
      case measure => simp [intOf]; omega
    have h5i : (j : Int) < 5 := by omega
    go_wp2_with fail
    refine (right_any r w5).mono ?_
    rintro e w6 ⟨rfl, k6⟩
    have hQB := hQA.keep k6
    have hPB := hPA.keep k6
    have hbB := (k6.block gb (Array.getElem?_eq_some_iff.1 hbA).1).trans hbA
    have hB := RwAt.keep k6 hA
    have kkB := kkA.trans' k6
    clear hQA hPA hbA hA kkA k6 e0 e1 e2
    cases hrr : r.right
    · go_wp2
      go_roundw
      case rel => exact ⟨j + 1, Q, by omega, by go_num, hQB, EM.out, ET.out, EN.out, hPB, hbB, kkB⟩
      case measure => simp [intOf]; omega
    have HRR := Lib.hid hrr
    clear hrr
    obtain ⟨e0, e1, e2⟩ := hB.cells
    go_upto_region 11 with (fail)
    refine wp_region_seq ?_
    refine seqW_pure rfl ?_
    go_big_quiet_step (fail)
    refine seqW_on ?_
    refine seqW_gives (by kernel_rfl) ?_
    refine Gives.value (v := r.val) (w' := w6) (by unfold Rw.val strV; go_simp) ?_
    simp only [Act.put, List.setIfInBounds_toArray, List.set_cons_zero, List.set_cons_succ]
    refine seqW_gives (by kernel_rfl) ?_
    refine Gives.call (by first | (go_simp; done) | (go_simp; rfl)) (encode_any r HRR.out w6) ?_
    rintro e w7 ⟨v7, rfl, hO7, k7⟩
    refine ⟨_, rfl, ?_⟩
    have hs7 := hO7.slB
    have hQC := hQB.keep k7
    have hPC := hPB.keep k7
    have hbC := (k7.block gb (Array.getElem?_eq_some_iff.1 hbB).1).trans hbB
    have kkC := kkB.trans' k7
    clear hQB hPB hbB kkB k7 hB e0 e1 e2 hO7
    simp only [Act.put, List.setIfInBounds_toArray, List.set_cons_zero, List.set_cons_succ]
    refine seqW_gives (by kernel_rfl) ?_
    refine Gives.toStr Try.underlying38 Try.underlying5 Try.underlying9 _ rfl rfl hs7 ?_
    simp only [Act.put, List.setIfInBounds_toArray, List.set_cons_zero, List.set_cons_succ]
    unfold strV
    refine seqW_gives (by kernel_rfl) ?_
    refine Gives.call (by first | (go_simp; done) | (go_simp; rfl)) (set_any gq Q j r.slot w7 hQC (by rw [slot_length r HRR.out]; decide)) ?_
    rintro e w8 ⟨rfl, hQD, hb8⟩
    refine ⟨_, rfl, ?_⟩
    rw [(Pg.set_row (p := Q) j h5 r HRR.out).2] at hQD
    have hPD := hPC.but hb8 nqp.symm
    have hbD := (hb8.block gb (Array.getElem?_eq_some_iff.1 hbC).1 (fun e => nqb (Option.some.inj e).symm)).trans hbC
    have kkD : Keep w w8 := kkC.trans (But.below hb8 hgqw kkC.size)
    clear hQC hPC hbC kkC hs7 hb8
    simp only [Act.put, List.setIfInBounds_toArray, List.set_cons_zero, List.set_cons_succ]
    refine seqW_done ?_
    go_wp2
    go_roundw
    case rel => exact ⟨j + 1, _, by omega, by go_num, hQD, EM.out, ET.out, EN.out, hPD, hbD, kkD⟩
    case measure => simp [intOf]; omega
end Go.Proofs.Ytdnmddfnlkaahaa
