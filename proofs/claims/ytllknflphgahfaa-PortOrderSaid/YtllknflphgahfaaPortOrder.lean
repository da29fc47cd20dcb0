/- The walk of PortOrder. -/
import Derived.Test.YtllknflphgahfaaPortL
import Derived.Test.YtllknflphgahfaaRefBytes
namespace Go.Proofs.Ytllknflphgahfaa
open Go Go.RowKit
attribute [local irreducible] Go.wpQuiet

/-- bytes, not too many -/
def tSome : Tells Keep := ⟨fun v w => ∃ x : List UInt8, SlB w v x ∧ x.length ≤ 2000, fun _ _ _ hk ⟨x, h, hx⟩ => ⟨x, h.keep hk, hx⟩⟩
def tRis : Tells Keep := ⟨fun v w => ∃ ls : List Rw, SlR w v ls ∧ Rise ls ∧ ls.length ≤ 30, fun _ _ _ hk ⟨x, h, hx⟩ => ⟨x, h.keep hk, hx⟩⟩
def tThree : Tells Keep := ⟨fun v w => ∃ (g : Nat) (ls : List (List UInt8)), v = .slice (some ⟨g, 0, none⟩) 3 3 ∧ SlBB w v ls ∧ ls.length = 3 ∧ ∀ x ∈ ls, x.length ≤ 2000, fun _ _ _ hk ⟨g, x, e, h, hx⟩ => ⟨g, x, e, h.keep hk, hx⟩⟩
theorem SlBB.at {w : World} {g n c : Nat} {ls : List (List UInt8)} (h : SlBB w (.slice (some ⟨g, 0, none⟩) n c) ls) (j : Nat) (hj : j < ls.length) : ∃ a m k, w.cell? ⟨g, j, none⟩ = some (.slice a m k) ∧ SlB w (.slice a m k) ls[j] := by
  obtain ⟨vs, ⟨ao, cap, hv, -, -, hc⟩, hl, hall⟩ := h
  obtain ⟨b, off, e, hcell⟩ := hc j (by omega)
  simp only [Value.slice.injEq] at hv
  rw [← hv.1] at e
  simp only [Option.some.injEq, Addr.mk.injEq, and_true] at e
  obtain ⟨rfl, rfl⟩ := e
  have h1 := hall j (by omega) hj
  obtain ⟨a, m, k, e1⟩ := h1.shape
  rw [e1] at h1
  rw [e1, Nat.zero_add] at hcell
  exact ⟨a, m, k, hcell, h1⟩
theorem sum_fits {r : Rw} (h1 : r.k.length ≤ 140737488355328) (h2 : r.v.length ≤ 140737488355328) (h : sumW r ≤ 100) : r.enc.length ≤ 103 := by
  unfold sumW at h
  rw [Rw.enc_length]
  have e : wrap64 ((r.k.length : Int) + (r.v.length : Int)) = (r.k.length : Int) + (r.v.length : Int) := by unfold wrap64; omega
  rw [e] at h
  omega
theorem rowsL_sum : ∀ (l : List Rw), (∀ r ∈ l, r.enc.length ≤ 103) → (rowsL l).length ≤ 103 * l.length
  | [], _ => by simp [rowsL]
  | r :: l, h => by
    rw [rowsL_cons, List.length_append, List.length_cons]
    have h1 := h r List.mem_cons_self
    have h2 := rowsL_sum l fun x hx => h x (List.mem_cons_of_mem _ hx)
    omega

set_option maxRecDepth 100000 in
set_option maxHeartbeats 8000000 in
theorem portOrder_any (u v : Value) (b : List UInt8) (l : List Rw) (w : World) (hB : SlB w u b) (hL : SlR w v l) (hs : ∀ r ∈ l, r.k.length ≤ 140737488355328 ∧ r.v.length ≤ 140737488355328) : Calls Try.prog 10 #[u, v] w fun e w' => e = .returned (.bool true) ∧ Keep w w' := by
  obtain ⟨ab, cb, rfl, -, -, -⟩ := hB.form
  obtain ⟨la, lc, rfl, -, hlc⟩ := hL.form
  have HS := Lib.hid hs
  clear hs
  go_enter Try.func10, Try.ntmps10
  go_wp2_with fail
  refine (fit_any w).mono ?_
  rintro e w1 ⟨rfl, hk1⟩
  have hL1 := hL.keep hk1
  have hB1 := hB.keep hk1
  clear hL hB
  by_cases h500 : 500 < b.length
  · have t5 : (500 : Int) < (b.length : Int) := by omega
    clear h500
    go_wp2
    go_ret
    exact ⟨rfl, hk1⟩
  have t5 : ¬ ((500 : Int) < (b.length : Int)) := by omega
  go_wp2_with fail
  refine (light_any _ l w1 hL1).mono ?_
  rintro e y2 ⟨b1, rfl, hb1, hk2⟩
  have hw2 := hk1.trans' hk2
  cases b1
  · go_wp2
    go_ret
    exact ⟨rfl, hw2⟩
  have H1 := Lib.hid (hb1 rfl)
  have hL2 := hL1.keep hk2
  have hB2 := hB1.keep hk2
  clear hb1 hL1 hB1 hk1 hk2 t5
  obtain ⟨M, hM⟩ : ∃ M, M = min l.length 9 := ⟨_, rfl⟩
  have HM := Lib.hid hM
  have hM9 : M ≤ 9 := by omega
  have hMl : M ≤ l.length := by omega
  have hMc : M ≤ lc := by omega
  have hl60 : l.length ≤ 60 := H1.out.1
  clear hM
  have hq1 : (rowsL (l.take M)).length ≤ 1000 := by
    have h := rowsL_sum (l.take M) fun r hr => sum_fits (HS.out r (List.mem_of_mem_take hr)).1 (HS.out r (List.mem_of_mem_take hr)).2 (H1.out.2 r (List.mem_of_mem_take hr))
    rw [List.length_take] at h
    omega
  have hF2 := hL2.first M hMl
  go_upto_region 5 with (fail)
  refine wp_region_dag' (C := fun w' => Keep y2 w') (R := Keep) [none, none, some (tRis), some (tSome), none, none, none, some (tV (.int .i64 (M : Int))), none, some (tSome), some (tThree), none, none]
    (by kernel_rfl) (by kernel_rfl) (Keep.refl y2).drew ?_
  refine dagT_pure rfl ?_
  go_big_quiet_step (fail)
  refine dagT_on ?_
  refine dagT_pure rfl ?_
  go_big_quiet_step (fail)
  refine dagT_on ?_
  refine dagT_told (by kernel_rfl) ?_ ?_
  · intro w2 hC hF
    refine Gives.call (by go_simp) (rising_any _ l w2 (hL2.keep hC) (by omega)) ?_
    rintro e w' ⟨v', rfl, ls, hO, hRi, h3, hk⟩
    exact ⟨_, rfl, hC.trans' hk, hk, ⟨ls, hO.slr, hRi, h3⟩⟩
  intro v2 w2 hC hF hv2
  clear hC hF
  have ⟨as2, hs2⟩ := hv2
  obtain ⟨aa2, cc2, rfl, -, -⟩ := hs2.1.form
  clear hs2
  generalize as2.length = n2
  simp only [Act.put, List.setIfInBounds_toArray, List.set_cons_zero, List.set_cons_succ]
  refine dagT_told (by kernel_rfl) ?_ ?_
  · intro w2 hC hF
    obtain ⟨ls, hS, hRi, h3⟩ := ((hF 2 (by kernel_rfl)).1 rfl)
    refine Gives.call (by go_simp) (encode_any _ ls w2 hS hRi.right (by omega)) ?_
    rintro e w' ⟨v', rfl, hO, hk⟩
    exact ⟨_, rfl, hC.trans' hk, hk, portL ls, hO.slB, portL_le ls hRi h3⟩
  intro v3 w2 hC hF hv3
  clear hC hF
  obtain ⟨a3, n3, c3, rfl⟩ : ∃ a n c, v3 = .slice a n c := by
    obtain ⟨x, h, -⟩ := hv3
    exact h.shape
  simp only [Act.put, List.setIfInBounds_toArray, List.set_cons_zero, List.set_cons_succ]
  refine dagT_pure rfl ?_
  go_big_quiet_step (fail)
  refine dagT_on ?_
  refine dagT_pure rfl ?_
  go_big_quiet_step (fail)
  refine dagT_on ?_
  refine dagT_pure rfl ?_
  go_big_quiet_step (fail)
  refine dagT_on ?_
  refine dagT_told (by kernel_rfl) ?_ ?_
  · intro w2 hC hF
    rcases Nat.lt_or_ge l.length 9 with h | h
    · have e : M = l.length := by have := HM.out; omega
      have h9 : (l.length : Int) ≤ 9 := by omega
      exact Gives.value (v := .int .i64 (M : Int)) (w' := w2) (by rw [e]; go_simp; omega) ⟨hC, Keep.refl _, rfl⟩
    · have e : M = 9 := by have := HM.out; omega
      exact Gives.value (v := .int .i64 (M : Int)) (w' := w2) (by rw [e]; go_simp; omega) ⟨hC, Keep.refl _, rfl⟩
  intro vv w2 hC hF hvv
  clear hC hF
  obtain rfl := hvv
  simp only [Act.put, List.setIfInBounds_toArray, List.set_cons_zero, List.set_cons_succ]
  refine dagT_pure rfl ?_
  go_big_quiet_step (fail)
  refine dagT_on ?_
  refine dagT_told (by kernel_rfl) ?_ ?_
  · intro w2 hC hF
    refine Gives.call (by go_simp) (refbytes_any _ (l.take M) w2 (hF2.keep hC) (by rw [List.length_take]; omega) (by omega)) ?_
    rintro e w' ⟨v', rfl, hO, hk⟩
    exact ⟨_, rfl, hC.trans' hk, hk, portL (l.take M), hO.slB, by rw [portL_length]; omega⟩
  intro v9 w2 hC hF hv9
  clear hC hF
  obtain ⟨a9, n9, c9, rfl⟩ : ∃ a n c, v9 = .slice a n c := by
    obtain ⟨x, h, -⟩ := hv9
    exact h.shape
  simp only [Act.put, List.setIfInBounds_toArray, List.set_cons_zero, List.set_cons_succ]
  refine dagT_told (by kernel_rfl) ?_ ?_
  · intro w2 hC hF
    obtain ⟨x1, hx1, hn1⟩ := ((hF 3 (by kernel_rfl)).2.2.1 rfl)
    obtain ⟨x2, hx2, hn2⟩ := ((hF 9 (by kernel_rfl)).1 rfl)
    have hka := Keep.alloc w2 (.cells #[.slice ab b.length cb, .slice a3 n3 c3, .slice a9 n9 c9] 26)
    refine Gives.value (v := .slice (some ⟨w2.heap.size, 0, none⟩) 3 3) (w' := w2.alloc (.cells #[.slice ab b.length cb, .slice a3 n3 c3, .slice a9 n9 c9] 26)) (by go_simp) ⟨hC.trans' hka, hka, w2.heap.size, [b, x1, x2], rfl, three_parts 26 (heap_alloc_new w2 _) ((hB2.keep hC).keep hka) (hx1.keep hka) (hx2.keep hka), rfl, fun x hx => ?_⟩
    simp only [List.mem_cons, List.not_mem_nil, or_false] at hx
    rcases hx with rfl | rfl | rfl <;> omega
  intro v10 w2 hC hF hv10
  clear hC hF
  obtain ⟨g10, rfl⟩ : ∃ g, v10 = .slice (some ⟨g, 0, none⟩) 3 3 := by
    obtain ⟨g, ls, h, -⟩ := hv10
    exact ⟨g, h⟩
  simp only [Act.put, List.setIfInBounds_toArray, List.set_cons_zero, List.set_cons_succ]
  refine dagT_pure rfl ?_
  go_big_quiet_step (fail)
  refine dagT_on ?_
  refine dagT_pure rfl ?_
  go_big_quiet_step (fail)
  refine dagT_on ?_
  refine dagT_done fun w2 hC hF => ?_
  obtain ⟨-, XS, -, hX, hXl, hX2⟩ := (hF 10).1 rfl
  clear hF hv2 hv3 hv9 hv10
  have hw3 := hw2.trans' hC
  clear hL2 hB2 hF2 hw2 hC
  go_wp2
  go_loopw [33] (fun i wr => ∃ j : Nat, j ≤ 3 ∧ i = .int .i64 j ∧ Keep w2 wr) (fun i _ => 3 - (intOf i).toNat)
  case atStart => exact ⟨0, Nat.zero_le _, rfl, Keep.refl _⟩
  case round =>
    obtain ⟨j, hj, rfl, hk⟩ := hrel
    have hw4 := hw3.trans' hk
    by_cases hjn : j < 3
    rotate_left
    · have hjd : ¬ ((j : Int) < 3) := by omega
      clear hjn
      go_wp2
      go_ret
      exact ⟨rfl, hw4⟩
    have hjl : (j : Int) < 3 := by omega
    obtain ⟨ax, nx, cx, hcx, hbx⟩ := (hX.keep hk).at j (by omega)
    have hxl := hX2 (XS[j]'(by omega)) (List.getElem_mem _)
    generalize XS[j]'(by omega) = x at *
    go_wp2_with fail
    refine (decode_any _ x wr hbx (by omega)).mono ?_
    rintro e w5 ⟨v5, rfl, hG5, hk5⟩
    have hne := portDec_none x
    have hri := portDec_rise x
    have hw5 := hw4.trans' hk5
    have hkk := hk.trans' hk5
    clear hcx hbx hxl hw4 hk hk5
    generalize portDec x = P at *
    obtain ⟨G, z⟩ := P
    simp only at *
    have HRI := Lib.hid hri
    clear hri
    obtain ⟨a5, c5, rfl, hG5m, -⟩ := hG5.form
    unfold maxLen at hG5m
    by_cases hz : z = 0
    rotate_left
    · have hg0 := hne hz
      subst hg0
      have tz : (z != 0) = true := bne_iff_ne.2 hz
      clear hz hne
      go_wp2
      refine wp_loop_rounds 1 ?_
      rw [rounds_succ]
      go_wp2
      go_roundw
      case rel => exact ⟨j + 1, by omega, by go_num, hkk⟩
      case measure => simp [intOf]; omega
    subst hz
    clear hne
    go_wp2
    go_loopw [51] (fun i wq => ∃ m : Nat, m ≤ G.length ∧ i = .int .i64 m ∧ Keep w5 wq) (fun i _ => G.length - (intOf i).toNat)
    case atStart => exact ⟨0, Nat.zero_le _, rfl, Keep.refl _⟩
    case round =>
      obtain ⟨m, hm, rfl, hkq⟩ := hrel
      by_cases hmn : m < G.length
      rotate_left
      · have hmd : ¬ ((m : Int) < (G.length : Int)) := by omega
        clear hmn
        go_wp2
        go_roundw
        case rel => exact ⟨j + 1, by omega, by go_num, hkk.trans' hkq⟩
        case measure => simp [intOf]; omega
      have hml : (m : Int) < (G.length : Int) := by omega
      have hGq := hG5.keep hkq
      obtain ⟨bg, og, rfl, x0, x1, x2⟩ := hGq.elem m hmn
      obtain ⟨r0, r3, rk, rv⟩ := (Rw.right_iff _).1 (HRI.out.right _ (List.getElem_mem hmn))
      generalize hr : G[m]'hmn = r at *
      have HR := Lib.hid hr
      clear hr
      go_upto_region 14 with (fail)
      have hA := RwAt.new wr r
      have hkA := Keep.alloc wr (.cells #[.int .i64 r.t, .string ⟨r.k.toArray⟩, .string ⟨r.v.toArray⟩] 32)
      have hGA := hGq.keep hkA
      have hkB := hkq.trans' hkA
      clear x0 x1 x2 hGq hkq hkA
      generalize wr.alloc (.cells #[.int .i64 r.t, .string ⟨r.k.toArray⟩, .string ⟨r.v.toArray⟩] 32) = y4 at *
      generalize wr.heap.size = gy at *
      have s1 := size_str r.k
      have s2 := size_str r.v
      have t3 : ¬ (3 < r.t) := by omega
      have t0 : ¬ (r.t < 0) := by omega
      have tk : ¬ ((15 : Int) < (r.k.length : Int)) := by omega
      have tv : ¬ ((21 : Int) < (r.v.length : Int)) := by omega
      clear r0 r3 rk rv
      cases m with
      | zero =>
        refine wp_region_dag' (C := fun w' => Keep y4 w') (R := Keep) [none, some (tV (.int .i64 r.t)), none, none, none, some (tV (.int .i64 r.t)), none, none, none, none, some (tV (.string ⟨r.k.toArray⟩)), none, none, none, none, none, some (tV (.string ⟨r.v.toArray⟩)), none, none, none, none, none, none, none, none, none, none, none, none, none, none, none, none, none]
          (by kernel_rfl) (by kernel_rfl) (Keep.refl y4).drew ?_
        refine dagT_pure rfl ?_
        go_big_quiet_step (fail)
        refine dagT_on ?_
        refine dagT_told (by kernel_rfl) ?_ ?_
        · intro w2 hC hF
          obtain ⟨c0, c1, c2⟩ := (hA.keep hC).cells
          exact Gives.value (v := .int .i64 r.t) (w' := w2) (by go_simp) ⟨hC, Keep.refl _, rfl⟩
        intro vv w2 hC hF hvv
        clear hC hF
        obtain rfl := hvv
        simp only [Act.put, List.setIfInBounds_toArray, List.set_cons_zero, List.set_cons_succ]
        refine dagT_pure rfl ?_
        go_big_quiet_step (fail)
        refine dagT_on ?_
        refine dagT_pure rfl ?_
        go_big_quiet_step (fail)
        refine dagT_on ?_
        refine dagT_pure rfl ?_
        go_big_quiet_step (fail)
        refine dagT_on ?_
        refine dagT_told (by kernel_rfl) ?_ ?_
        · intro w2 hC hF
          obtain ⟨c0, c1, c2⟩ := (hA.keep hC).cells
          exact Gives.value (v := .int .i64 r.t) (w' := w2) (by go_simp) ⟨hC, Keep.refl _, rfl⟩
        intro vv w2 hC hF hvv
        clear hC hF
        obtain rfl := hvv
        simp only [Act.put, List.setIfInBounds_toArray, List.set_cons_zero, List.set_cons_succ]
        refine dagT_pure rfl ?_
        go_big_quiet_step (fail)
        refine dagT_on ?_
        refine dagT_pure rfl ?_
        go_big_quiet_step (fail)
        refine dagT_on ?_
        refine dagT_pure rfl ?_
        go_big_quiet_step (fail)
        refine dagT_on ?_
        refine dagT_pure rfl ?_
        go_big_quiet_step (fail)
        refine dagT_on ?_
        refine dagT_told (by kernel_rfl) ?_ ?_
        · intro w2 hC hF
          obtain ⟨c0, c1, c2⟩ := (hA.keep hC).cells
          exact Gives.value (v := .string ⟨r.k.toArray⟩) (w' := w2) (by go_simp) ⟨hC, Keep.refl _, rfl⟩
        intro vv w2 hC hF hvv
        clear hC hF
        obtain rfl := hvv
        simp only [Act.put, List.setIfInBounds_toArray, List.set_cons_zero, List.set_cons_succ]
        refine dagT_pure rfl ?_
        go_big_quiet_step (fail)
        refine dagT_on ?_
        refine dagT_pure rfl ?_
        go_big_quiet_step (fail)
        refine dagT_on ?_
        refine dagT_pure rfl ?_
        go_big_quiet_step (fail)
        refine dagT_on ?_
        refine dagT_pure rfl ?_
        go_big_quiet_step (fail)
        refine dagT_on ?_
        refine dagT_pure rfl ?_
        go_big_quiet_step (fail)
        refine dagT_on ?_
        refine dagT_told (by kernel_rfl) ?_ ?_
        · intro w2 hC hF
          obtain ⟨c0, c1, c2⟩ := (hA.keep hC).cells
          exact Gives.value (v := .string ⟨r.v.toArray⟩) (w' := w2) (by go_simp) ⟨hC, Keep.refl _, rfl⟩
        intro vv w2 hC hF hvv
        clear hC hF
        obtain rfl := hvv
        simp only [Act.put, List.setIfInBounds_toArray, List.set_cons_zero, List.set_cons_succ]
        refine dagT_pure rfl ?_
        go_big_quiet_step (fail)
        refine dagT_on ?_
        refine dagT_pure rfl ?_
        go_big_quiet_step (fail)
        refine dagT_on ?_
        refine dagT_pure rfl ?_
        go_big_quiet_step (fail)
        refine dagT_on ?_
        refine dagT_pure rfl ?_
        go_big_quiet_step (fail)
        refine dagT_on ?_
        refine dagT_pure rfl ?_
        go_big_quiet_step (fail)
        refine dagT_on ?_
        refine dagT_pure rfl ?_
        go_big_quiet_step (fail)
        refine dagT_on ?_
        refine dagT_pure rfl ?_
        go_big_quiet_step (fail)
        refine dagT_on ?_
        refine dagT_skip (by kernel_rfl) ?_
        simp only [Act.put, List.setIfInBounds_toArray, List.set_cons_zero, List.set_cons_succ]
        refine dagT_skip (by kernel_rfl) ?_
        simp only [Act.put, List.setIfInBounds_toArray, List.set_cons_zero, List.set_cons_succ]
        refine dagT_skip (by kernel_rfl) ?_
        simp only [Act.put, List.setIfInBounds_toArray, List.set_cons_zero, List.set_cons_succ]
        refine dagT_skip (by kernel_rfl) ?_
        simp only [Act.put, List.setIfInBounds_toArray, List.set_cons_zero, List.set_cons_succ]
        refine dagT_skip (by kernel_rfl) ?_
        simp only [Act.put, List.setIfInBounds_toArray, List.set_cons_zero, List.set_cons_succ]
        refine dagT_skip (by kernel_rfl) ?_
        simp only [Act.put, List.setIfInBounds_toArray, List.set_cons_zero, List.set_cons_succ]
        refine dagT_skip (by kernel_rfl) ?_
        simp only [Act.put, List.setIfInBounds_toArray, List.set_cons_zero, List.set_cons_succ]
        refine dagT_skip (by kernel_rfl) ?_
        simp only [Act.put, List.setIfInBounds_toArray, List.set_cons_zero, List.set_cons_succ]
        refine dagT_pure rfl ?_
        go_big_quiet_step (fail)
        refine dagT_on ?_
        refine dagT_pure rfl ?_
        go_big_quiet_step (fail)
        refine dagT_on ?_
        refine dagT_done fun w2 hC hF => ?_
        clear hF
        go_wp2
        go_roundw
        case rel => exact ⟨1, by omega, by go_num, hkB.trans' hC⟩
        case measure => simp [intOf]; omega
      | succ q =>
        have hq : q < G.length := by omega
        have hst := HRI.out.step q hmn
        obtain ⟨z0, z1, z2⟩ : y4.cell? ⟨bg, og + q * 3, none⟩ = some (.int .i64 G[q].t) ∧ y4.cell? ⟨bg, og + q * 3 + 1, none⟩ = some (.string ⟨G[q].k.toArray⟩) ∧ y4.cell? ⟨bg, og + q * 3 + 2, none⟩ = some (.string ⟨G[q].v.toArray⟩) := by
          obtain ⟨b', o', e', h'⟩ := hGA.elem q hq
          cases e'
          exact h'
        rw [HR.out] at hst
        generalize G[q]'hq = z at *
        have hLS := rless_any z r
        rw [hst] at hLS
        unfold Rw.val strV at hLS
        have hm1 : ((q + 1 : Nat) : Int) - 1 = (q : Int) := by omega
        have hqb : (q : Int) < (G.length : Int) := by omega
        clear hst
        refine wp_region_dag' (C := fun w' => Keep y4 w') (R := Keep) [none, some (tV (.int .i64 r.t)), none, none, none, some (tV (.int .i64 r.t)), none, none, none, none, some (tV (.string ⟨r.k.toArray⟩)), none, none, none, none, none, some (tV (.string ⟨r.v.toArray⟩)), none, none, none, none, none, none, none, none, none, none, none, some (tV (.agg #[.int .i64 z.t, .string ⟨z.k.toArray⟩, .string ⟨z.v.toArray⟩])), some (tV (.agg #[.int .i64 r.t, .string ⟨r.k.toArray⟩, .string ⟨r.v.toArray⟩])), some (tV (.bool true)), none, none, none]
          (by kernel_rfl) (by kernel_rfl) (Keep.refl y4).drew ?_
        refine dagT_pure rfl ?_
        go_big_quiet_step (fail)
        refine dagT_on ?_
        refine dagT_told (by kernel_rfl) ?_ ?_
        · intro w2 hC hF
          obtain ⟨c0, c1, c2⟩ := (hA.keep hC).cells
          exact Gives.value (v := .int .i64 r.t) (w' := w2) (by go_simp) ⟨hC, Keep.refl _, rfl⟩
        intro vv w2 hC hF hvv
        clear hC hF
        obtain rfl := hvv
        simp only [Act.put, List.setIfInBounds_toArray, List.set_cons_zero, List.set_cons_succ]
        refine dagT_pure rfl ?_
        go_big_quiet_step (fail)
        refine dagT_on ?_
        refine dagT_pure rfl ?_
        go_big_quiet_step (fail)
        refine dagT_on ?_
        refine dagT_pure rfl ?_
        go_big_quiet_step (fail)
        refine dagT_on ?_
        refine dagT_told (by kernel_rfl) ?_ ?_
        · intro w2 hC hF
          obtain ⟨c0, c1, c2⟩ := (hA.keep hC).cells
          exact Gives.value (v := .int .i64 r.t) (w' := w2) (by go_simp) ⟨hC, Keep.refl _, rfl⟩
        intro vv w2 hC hF hvv
        clear hC hF
        obtain rfl := hvv
        simp only [Act.put, List.setIfInBounds_toArray, List.set_cons_zero, List.set_cons_succ]
        refine dagT_pure rfl ?_
        go_big_quiet_step (fail)
        refine dagT_on ?_
        refine dagT_pure rfl ?_
        go_big_quiet_step (fail)
        refine dagT_on ?_
        refine dagT_pure rfl ?_
        go_big_quiet_step (fail)
        refine dagT_on ?_
        refine dagT_pure rfl ?_
        go_big_quiet_step (fail)
        refine dagT_on ?_
        refine dagT_told (by kernel_rfl) ?_ ?_
        · intro w2 hC hF
          obtain ⟨c0, c1, c2⟩ := (hA.keep hC).cells
          exact Gives.value (v := .string ⟨r.k.toArray⟩) (w' := w2) (by go_simp) ⟨hC, Keep.refl _, rfl⟩
        intro vv w2 hC hF hvv
        clear hC hF
        obtain rfl := hvv
        simp only [Act.put, List.setIfInBounds_toArray, List.set_cons_zero, List.set_cons_succ]
        refine dagT_pure rfl ?_
        go_big_quiet_step (fail)
        refine dagT_on ?_
        refine dagT_pure rfl ?_
        go_big_quiet_step (fail)
        refine dagT_on ?_
        refine dagT_pure rfl ?_
        go_big_quiet_step (fail)
        refine dagT_on ?_
        refine dagT_pure rfl ?_
        go_big_quiet_step (fail)
        refine dagT_on ?_
        refine dagT_pure rfl ?_
        go_big_quiet_step (fail)
        refine dagT_on ?_
        refine dagT_told (by kernel_rfl) ?_ ?_
        · intro w2 hC hF
          obtain ⟨c0, c1, c2⟩ := (hA.keep hC).cells
          exact Gives.value (v := .string ⟨r.v.toArray⟩) (w' := w2) (by go_simp) ⟨hC, Keep.refl _, rfl⟩
        intro vv w2 hC hF hvv
        clear hC hF
        obtain rfl := hvv
        simp only [Act.put, List.setIfInBounds_toArray, List.set_cons_zero, List.set_cons_succ]
        refine dagT_pure rfl ?_
        go_big_quiet_step (fail)
        refine dagT_on ?_
        refine dagT_pure rfl ?_
        go_big_quiet_step (fail)
        refine dagT_on ?_
        refine dagT_pure rfl ?_
        go_big_quiet_step (fail)
        refine dagT_on ?_
        refine dagT_pure rfl ?_
        go_big_quiet_step (fail)
        refine dagT_on ?_
        refine dagT_pure rfl ?_
        go_big_quiet_step (fail)
        refine dagT_on ?_
        refine dagT_pure rfl ?_
        go_big_quiet_step (fail)
        refine dagT_on ?_
        refine dagT_pure rfl ?_
        go_big_quiet_step (fail)
        refine dagT_on ?_
        refine dagT_pure rfl ?_
        go_big_quiet_step (fail)
        refine dagT_on ?_
        refine dagT_pure rfl ?_
        go_big_quiet_step (fail)
        refine dagT_on ?_
        refine dagT_pure rfl ?_
        go_big_quiet_step (fail)
        refine dagT_on ?_
        refine dagT_pure rfl ?_
        go_big_quiet_step (fail)
        refine dagT_on ?_
        refine dagT_told (by kernel_rfl) ?_ ?_
        · intro w2 hC hF
          have a0 := (hC.cell (World.block_lt_of_cell? _ _ z0)).trans z0
          have a1 := (hC.cell (World.block_lt_of_cell? _ _ z1)).trans z1
          have a2 := (hC.cell (World.block_lt_of_cell? _ _ z2)).trans z2
          exact Gives.value (v := .agg #[.int .i64 z.t, .string ⟨z.k.toArray⟩, .string ⟨z.v.toArray⟩]) (w' := w2) (by go_simp) ⟨hC, Keep.refl _, rfl⟩
        intro vv w2 hC hF hvv
        clear hC hF
        obtain rfl := hvv
        simp only [Act.put, List.setIfInBounds_toArray, List.set_cons_zero, List.set_cons_succ]
        refine dagT_told (by kernel_rfl) ?_ ?_
        · intro w2 hC hF
          obtain ⟨c0, c1, c2⟩ := (hA.keep hC).cells
          exact Gives.value (v := .agg #[.int .i64 r.t, .string ⟨r.k.toArray⟩, .string ⟨r.v.toArray⟩]) (w' := w2) (by go_simp) ⟨hC, Keep.refl _, rfl⟩
        intro vv w2 hC hF hvv
        clear hC hF
        obtain rfl := hvv
        simp only [Act.put, List.setIfInBounds_toArray, List.set_cons_zero, List.set_cons_succ]
        refine dagT_told (by kernel_rfl) ?_ ?_
        · intro w2 hC hF
          refine Gives.call (by go_simp) (hLS w2) ?_
          rintro e w' ⟨rfl, hk⟩
          exact ⟨_, rfl, hC.trans' hk, hk, rfl⟩
        intro vv w2 hC hF hvv
        clear hC hF
        obtain rfl := hvv
        simp only [Act.put, List.setIfInBounds_toArray, List.set_cons_zero, List.set_cons_succ]
        refine dagT_pure rfl ?_
        go_big_quiet_step (fail)
        refine dagT_on ?_
        refine dagT_pure rfl ?_
        go_big_quiet_step (fail)
        refine dagT_on ?_
        refine dagT_pure rfl ?_
        go_big_quiet_step (fail)
        refine dagT_on ?_
        refine dagT_done fun w2 hC hF => ?_
        clear hF
        go_wp2
        go_roundw
        case rel => exact ⟨q + 1 + 1, by omega, by go_num, hkB.trans' hC⟩
        case measure => simp [intOf]; omega
end Go.Proofs.Ytllknflphgahfaa
