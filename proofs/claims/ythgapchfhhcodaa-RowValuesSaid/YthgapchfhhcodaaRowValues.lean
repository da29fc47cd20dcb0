/- The walk of RowValues. -/
import Derived.Test.YthgapchfhhcodaaFit04
import Derived.Test.YthgapchfhhcodaaRowL
import Derived.Deep.RegionHeld
namespace Go.Proofs.Ythgapchfhhcodaa
open Go.RowKit
attribute [local irreducible] Go.wpQuiet

theorem Rw.enc_head (a : Rw) (x : List UInt8) (h : a.right = true) : a.enc.take 18 = (Rw.mk a.t a.k x).enc.take 18 := by
  obtain ⟨h1, h2, h3, h4⟩ := a.right_iff.1 h
  have e : ∀ r : Rw, r.k.length ≤ 15 → r.enc.take 18 = [1, UInt8.ofNat r.t.toNat, UInt8.ofNat r.k.length] ++ (r.k ++ List.replicate (15 - r.k.length) 0) := by
    intro r hr
    rw [r.enc_eq, ← List.append_assoc, List.take_left' (by simp; omega)]
  rw [e a h3, e ⟨a.t, a.k, x⟩ h3]
theorem Rw.enc_tail (a : Rw) (x : List UInt8) (h : a.right = true) (hx : x.length ≤ 15) : a.enc.drop 18 = (Rw.mk a.t x a.v).enc.drop 18 := by
  obtain ⟨h1, h2, h3, h4⟩ := a.right_iff.1 h
  have e : ∀ r : Rw, r.k.length ≤ 15 → r.enc.drop 18 = [UInt8.ofNat r.v.length] ++ (r.v ++ List.replicate (21 - r.v.length) 0) := by
    intro r hr
    rw [r.enc_eq, ← List.append_assoc, List.drop_left' (by simp; omega)]
  rw [e a h3, e ⟨a.t, x, a.v⟩ hx]
theorem RwAt.far {w : World} {g : Nat} {r : Rw} (h : RwAt w g r) (p : Addr) (u : Value) (hne : p.block ≠ g) : RwAt (w.setCell p u) g r :=
  ⟨(World.cell?_setCell_far _ _ _ _ hne).trans h.1, (World.cell?_setCell_far _ _ _ _ hne).trans h.2.1, (World.cell?_setCell_far _ _ _ _ hne).trans h.2.2⟩
theorem RwAt.setV {w : World} {g : Nat} {r : Rw} (h : RwAt w g r) (x : List UInt8) : RwAt (w.setCell ⟨g, 2, none⟩ (.string ⟨x.toArray⟩)) g ⟨r.t, r.k, x⟩ := by
  refine ⟨(World.cell?_setCell_other _ _ _ _ ?_).trans h.1, (World.cell?_setCell_other _ _ _ _ ?_).trans h.2.1, World.cell?_setCell_same _ _ _ h.2.2⟩ <;> simp
theorem RwAt.setK {w : World} {g : Nat} {r : Rw} (h : RwAt w g r) (x : List UInt8) : RwAt (w.setCell ⟨g, 1, none⟩ (.string ⟨x.toArray⟩)) g ⟨r.t, x, r.v⟩ := by
  refine ⟨(World.cell?_setCell_other _ _ _ _ ?_).trans h.1, World.cell?_setCell_same _ _ _ h.2.1, (World.cell?_setCell_other _ _ _ _ ?_).trans h.2.2⟩ <;> simp

set_option maxHeartbeats 2000000 in
theorem rowValues_any (a : Rw) (key val : List UInt8) (w : World) :
    Calls Try.prog 7 #[a.val, strV key, strV val] w fun e w' => e = .returned (.bool true) ∧ Keep w w' := by
  have hk0 := Keep.alloc w (.cells #[.int .i64 a.t, .string ⟨a.k.toArray⟩, .string ⟨a.v.toArray⟩] 23)
  have hA := RwAt.laid w a
  have L1 := Lib.hid (light_any a)
  have R1 := Lib.hid (right_law_any a)
  have E1 := Lib.hid (encode_any a)
  have hsk := size_str key
  have hsv := size_str val
  unfold Rw.val strV at *
  go_enter Try.func7, Try.ntmps7
  go_wp2_with fail
  generalize w.alloc (.cells #[.int .i64 a.t, .string ⟨a.k.toArray⟩, .string ⟨a.v.toArray⟩] 23) = w0 at *
  refine (fit_any w0).mono ?_
  rintro e w1 ⟨rfl, hk1'⟩
  obtain ⟨a0, a1, a2⟩ := hA.keep hk1'
  go_wp2_with fail
  refine (L1.out w1).mono ?_
  rintro e w2 ⟨⟨bx, rfl⟩, hk⟩
  have hk2' := hk1'.trans' hk
  clear hk a0 a1 a2
  obtain ⟨a0, a1, a2⟩ := hA.keep hk2'
  cases bx
  · go_wp2
    go_ret
    exact ⟨rfl, hk0.trans' hk2'⟩
  go_wp2_with fail
  refine (R1.out w2).mono ?_
  rintro e w3 ⟨rfl, hk⟩
  have hk3' := hk2'.trans' hk
  clear hk a0 a1 a2
  obtain ⟨a0, a1, a2⟩ := hA.keep hk3'
  cases hra : a.right
  · go_wp2
    go_ret
    exact ⟨rfl, hk0.trans' hk3'⟩
  by_cases hk : key.length ≤ 15
  rotate_left
  · have t1 : decide ((15 : Int) < (key.length : Int)) = true := decide_eq_true (by omega)
    go_wp2
    go_ret
    exact ⟨rfl, hk0.trans' hk3'⟩
  have t1 : decide ((15 : Int) < (key.length : Int)) = false := decide_eq_false (by omega)
  by_cases hv : val.length ≤ 21
  rotate_left
  · have t2 : decide ((21 : Int) < (val.length : Int)) = true := decide_eq_true (by omega)
    go_wp2
    go_ret
    exact ⟨rfl, hk0.trans' hk3'⟩
  have t2 : decide ((21 : Int) < (val.length : Int)) = false := decide_eq_false (by omega)
  clear L1 R1
  go_wp2_with fail
  have y1 : ∀ o, RwAt (w3.alloc o) w.heap.size a := fun o => (hA.keep hk3').keep (Keep.alloc _ _)
  have y2 : ∀ o o', RwAt ((w3.alloc o).alloc o') w.heap.size a := fun o o' => (y1 o).keep (Keep.alloc _ _)
  have x0 := fun o => (y1 o).1
  have x1 := fun o => (y1 o).2.1
  have x2 := fun o => (y1 o).2.2
  have z0 := fun o o' => (y2 o o').1
  have z1 := fun o o' => (y2 o o').2.1
  have z2 := fun o o' => (y2 o o').2.2
  clear y1 y2
  go_region
  · have hkw3 := hk0.trans' hk3'
    clear x0 x1 x2 z0 z1 z2 a0 a1 a2
    obtain ⟨w5, hw5, hk35, hS, hT⟩ := RwAt.two w3 a a
    have hf1 : ∀ i, w5.frozen? ⟨w3.heap.size, i, none⟩ = false := by
      rw [hw5]
      intro i
      exact frozen_of_row _ _ _ _ _ ((Below.heap_alloc _ _ _ (by simp)).trans (heap_alloc_new w3 _))
    have hf2 : ∀ i, w5.frozen? ⟨w3.heap.size + 1, i, none⟩ = false := by
      rw [hw5]
      intro i
      exact frozen_of_row _ _ _ _ _ (by have := heap_alloc_new (w3.alloc (.cells #[.int .i64 a.t, .string ⟨a.k.toArray⟩, .string ⟨a.v.toArray⟩] 23)) (.cells #[.int .i64 a.t, .string ⟨a.k.toArray⟩, .string ⟨a.v.toArray⟩] 23); simpa using this)
    rw [← hw5]
    clear hw5
    have hA5 := (hA.keep hk3').keep hk35
    have hne7 : w.heap.size < w3.heap.size := by
      have := hk3'.size
      have := World.block_lt_of_cell? w0 _ hA.1
      simp only at this
      omega
    have hk5 : Keep w3 w5 := hk35
    have HS0 := hS
    have HS1 := hT
    obtain ⟨s0, s1, s2⟩ := hS
    obtain ⟨t0, t1', t2'⟩ := hT
    go_wp2_with fail
    have hw6 : ∃ w6, w6 = ((w5.setCell ⟨w3.heap.size, 2, none⟩ (.string ⟨val.toArray⟩)).setCell ⟨(w3.heap.size + 1), 1, none⟩ (.string ⟨key.toArray⟩)).drew := ⟨_, rfl⟩
    obtain ⟨w6, hw6⟩ := hw6
    have hkA : Keep w3 w6 := by rw [hw6]; exact (Keep.setCell (Keep.setCell hk5 (by first | exact Nat.le_refl _ | exact Nat.le_succ _) _) (by first | exact Nat.le_refl _ | exact Nat.le_succ _) _).drew
    have hA6 : RwAt w6 w.heap.size a := (hA.keep hk3').keep hkA
    obtain ⟨sr, hsr⟩ : ∃ sr : Rw, sr = ⟨a.t, a.k, val⟩ := ⟨_, rfl⟩
    obtain ⟨tr, htr⟩ : ∃ tr : Rw, tr = ⟨a.t, key, a.v⟩ := ⟨_, rfl⟩
    have hS6 : RwAt w6 w3.heap.size sr := by
      rw [hw6, hsr]
      exact ((HS0.setV val).far ⟨(w3.heap.size + 1), 1, none⟩ _ (by simp)).keep (Keep.refl _).drew
    have hT6 : RwAt w6 (w3.heap.size + 1) tr := by
      rw [hw6, htr]
      exact ((HS1.far ⟨w3.heap.size, 2, none⟩ _ (by simp)).setK key).keep (Keep.refl _).drew
    have hk6' := hkw3.trans' hkA
    have hsr1 : sr.right = true := by
      obtain ⟨q1, q2, q3, q4⟩ := a.right_iff.1 hra
      rw [hsr]; exact (Rw.right_iff _).2 ⟨q1, q2, q3, hv⟩
    have htr1 : tr.right = true := by
      obtain ⟨q1, q2, q3, q4⟩ := a.right_iff.1 hra
      rw [htr]; exact (Rw.right_iff _).2 ⟨q1, q2, hk, q4⟩
    have E2 := Lib.hid (encode_any sr)
    have E3 := Lib.hid (encode_any tr)
    unfold Rw.val strV at E2 E3
    rw [← hw6]
    have HSR := Lib.hid hsr
    have HTR := Lib.hid htr
    clear hw6 hsr htr s0 s1 s2 t0 t1' t2' hf1 hf2 hA5 HS0 HS1 hk5 hk35 hkA
    refine wp_region_dag' (C := fun w' => Keep w6 w') (R := Keep) [some (tV a.val), some (tB a.enc), some (tV sr.val), some (tB sr.enc), some (tV tr.val), some (tB tr.enc), none, none, none] (by kernel_rfl) (by kernel_rfl) (Keep.refl w6).drew ?_
    refine dagT_told (by kernel_rfl) ?_ ?_
    · intro w9 hC hF
      obtain ⟨x0, x1, x2⟩ := hA6.keep hC
      refine Gives.value (v := a.val) (w' := w9) (by unfold Rw.val strV; go_simp) ?_
      exact ⟨hC, Keep.refl _, rfl⟩
    intro v w9 hC hF hv
    clear hC hF
    simp only [Act.put, List.setIfInBounds_toArray, List.set_cons_zero, List.set_cons_succ]
    obtain rfl := hv
    refine dagT_told (by kernel_rfl) ?_ ?_
    · intro w9 hC hF
      refine Gives.call (by (try unfold Rw.val strV); go_simp) (E1.out hra w9) ?_
      rintro e w' ⟨v', rfl, ho, hk⟩
      exact ⟨_, rfl, hC.trans' hk, hk, ho.slB⟩
    intro x w9 hC hF hx
    clear hC hF
    simp only [Act.put, List.setIfInBounds_toArray, List.set_cons_zero, List.set_cons_succ]
    obtain ⟨ax, nx, cx, rfl⟩ := SlB.shape hx
    refine dagT_told (by kernel_rfl) ?_ ?_
    · intro w9 hC hF
      obtain ⟨x0, x1, x2⟩ := hS6.keep hC
      refine Gives.value (v := sr.val) (w' := w9) (by unfold Rw.val strV; go_simp) ?_
      exact ⟨hC, Keep.refl _, rfl⟩
    intro v w9 hC hF hv
    clear hC hF
    simp only [Act.put, List.setIfInBounds_toArray, List.set_cons_zero, List.set_cons_succ]
    obtain rfl := hv
    refine dagT_told (by kernel_rfl) ?_ ?_
    · intro w9 hC hF
      refine Gives.call (by (try unfold Rw.val strV); go_simp) (E2.out hsr1 w9) ?_
      rintro e w' ⟨v', rfl, ho, hk⟩
      exact ⟨_, rfl, hC.trans' hk, hk, ho.slB⟩
    intro y w9 hC hF hy
    clear hC hF
    simp only [Act.put, List.setIfInBounds_toArray, List.set_cons_zero, List.set_cons_succ]
    obtain ⟨ay, ny, cy, rfl⟩ := SlB.shape hy
    refine dagT_told (by kernel_rfl) ?_ ?_
    · intro w9 hC hF
      obtain ⟨x0, x1, x2⟩ := hT6.keep hC
      refine Gives.value (v := tr.val) (w' := w9) (by unfold Rw.val strV; go_simp) ?_
      exact ⟨hC, Keep.refl _, rfl⟩
    intro v w9 hC hF hv
    clear hC hF
    simp only [Act.put, List.setIfInBounds_toArray, List.set_cons_zero, List.set_cons_succ]
    obtain rfl := hv
    refine dagT_told (by kernel_rfl) ?_ ?_
    · intro w9 hC hF
      refine Gives.call (by (try unfold Rw.val strV); go_simp) (E3.out htr1 w9) ?_
      rintro e w' ⟨v', rfl, ho, hk⟩
      exact ⟨_, rfl, hC.trans' hk, hk, ho.slB⟩
    intro z w9 hC hF hz
    clear hC hF
    simp only [Act.put, List.setIfInBounds_toArray, List.set_cons_zero, List.set_cons_succ]
    obtain ⟨az, nz, cz, rfl⟩ := SlB.shape hz
    refine dagT_pure rfl ?_
    go_big_quiet_step (fail)
    refine dagT_on ?_
    refine dagT_pure rfl ?_
    go_big_quiet_step (fail)
    refine dagT_on ?_
    refine dagT_pure rfl ?_
    go_big_quiet_step (fail)
    refine dagT_on ?_
    refine dagT_done ?_
    intro w7 hC hF
    have hx7 : SlB w7 _ a.enc := (hF 1).2.2.2.2.1 rfl
    have hy7 : SlB w7 _ sr.enc := (hF 3).2.2.1 rfl
    have hz7 : SlB w7 _ tr.enc := (hF 5).1 rfl
    obtain ⟨_, cx7, ex, _, bx7, _⟩ := hx7.form
    obtain ⟨_, cy7, ey, _, by7, _⟩ := hy7.form
    obtain ⟨_, cz7, ez, _, bz7, _⟩ := hz7.form
    simp only [Value.slice.injEq] at ex ey ez
    obtain ⟨-, hnx, rfl⟩ := ex
    obtain ⟨-, hny, rfl⟩ := ey
    obtain ⟨-, hnz, rfl⟩ := ez
    rw [enc_length a hra] at hnx bx7
    rw [enc_length sr hsr1] at hny by7
    rw [enc_length tr htr1] at hnz bz7
    subst hnx hny hnz
    have hk7' := hk6'.trans' hC
    have q1 : (a.enc.take 18 == sr.enc.take 18) = true := by rw [HSR.out]; exact beq_iff_eq.2 (Rw.enc_head a val hra)
    have q2 : (a.enc.drop 18 == tr.enc.drop 18) = true := by rw [HTR.out]; exact beq_iff_eq.2 (Rw.enc_tail a key hra hk)
    have q3 : (a.enc.take 2 == tr.enc.take 2) = true := by rw [HTR.out]; exact beq_iff_eq.2 (by simp [Rw.enc])
    clear hF hx hy hz hC hA6 hS6 hT6 E1 E2 E3
    go_upto_region 8 with (fail)
    refine wp_region_dag' (C := fun w' => Keep w7 w') (R := Keep) [none, none, none, none, none, none, none, none, none, none, none, none, none, none, none, some (tV (sliced ax 0 18 cx 1)), some (tV (strV (a.enc.take 18))), none, some (tV (sliced ay 0 18 cy 1)), some (tV (strV (sr.enc.take 18))), none, none, none, none, some (tV (sliced ax 18 40 cx 1)), some (tV (strV (a.enc.drop 18))), none, some (tV (sliced az 18 40 cz 1)), some (tV (strV (tr.enc.drop 18))), none, none, none, none, some (tV (sliced ax 0 2 cx 1)), some (tV (strV (a.enc.take 2))), none, some (tV (sliced az 0 2 cz 1)), some (tV (strV (tr.enc.take 2))), none, none, none] (by kernel_rfl) (by kernel_rfl) (Keep.refl w7).drew ?_
    refine dagT_pure rfl ?_
    go_big_quiet_step (fail)
    refine dagT_on ?_
    refine dagT_pure rfl ?_
    go_big_quiet_step (fail)
    refine dagT_on ?_
    refine dagT_pure rfl ?_
    go_big_quiet_step (fail)
    refine dagT_on ?_
    refine dagT_pure rfl ?_
    go_big_quiet_step (fail)
    refine dagT_on ?_
    refine dagT_pure rfl ?_
    go_big_quiet_step (fail)
    refine dagT_on ?_
    refine dagT_pure rfl ?_
    go_big_quiet_step (fail)
    refine dagT_on ?_
    refine dagT_pure rfl ?_
    go_big_quiet_step (fail)
    refine dagT_on ?_
    refine dagT_pure rfl ?_
    go_big_quiet_step (fail)
    refine dagT_on ?_
    refine dagT_pure rfl ?_
    go_big_quiet_step (fail)
    refine dagT_on ?_
    refine dagT_pure rfl ?_
    go_big_quiet_step (fail)
    refine dagT_on ?_
    refine dagT_pure rfl ?_
    go_big_quiet_step (fail)
    refine dagT_on ?_
    refine dagT_pure rfl ?_
    go_big_quiet_step (fail)
    refine dagT_on ?_
    refine dagT_pure rfl ?_
    go_big_quiet_step (fail)
    refine dagT_on ?_
    refine dagT_pure rfl ?_
    go_big_quiet_step (fail)
    refine dagT_on ?_
    refine dagT_pure rfl ?_
    go_big_quiet_step (fail)
    refine dagT_on ?_
    refine dagT_told (by kernel_rfl) ?_ ?_
    · intro w9 hC hF
      refine Gives.value (v := sliced ax 0 18 cx 1) (w' := w9) (by go_simp; first | done | (intro hlt; exfalso; omega) | (rw [if_pos (by omega)])) ?_
      exact ⟨hC, Keep.refl _, rfl⟩
    intro v w9 hC hF hv
    clear hC hF
    simp only [Act.put, List.setIfInBounds_toArray, List.set_cons_zero, List.set_cons_succ]
    obtain rfl := hv
    refine dagT_told (by kernel_rfl) ?_ ?_
    · intro w9 hC hF
      refine Gives.toStr Try.underlying26 Try.underlying5 Try.underlying9 _ rfl rfl ((SlB.keep hC hx7).upto 18 (by omega)) ?_
      exact ⟨hC, Keep.refl _, rfl⟩
    intro v w9 hC hF hv
    clear hC hF
    simp only [Act.put, List.setIfInBounds_toArray, List.set_cons_zero, List.set_cons_succ]
    obtain rfl := hv
    refine dagT_pure rfl ?_
    go_big_quiet_step (fail)
    refine dagT_on ?_
    refine dagT_told (by kernel_rfl) ?_ ?_
    · intro w9 hC hF
      refine Gives.value (v := sliced ay 0 18 cy 1) (w' := w9) (by go_simp; first | done | (intro hlt; exfalso; omega) | (rw [if_pos (by omega)])) ?_
      exact ⟨hC, Keep.refl _, rfl⟩
    intro v w9 hC hF hv
    clear hC hF
    simp only [Act.put, List.setIfInBounds_toArray, List.set_cons_zero, List.set_cons_succ]
    obtain rfl := hv
    refine dagT_told (by kernel_rfl) ?_ ?_
    · intro w9 hC hF
      refine Gives.toStr Try.underlying26 Try.underlying5 Try.underlying9 _ rfl rfl ((SlB.keep hC hy7).upto 18 (by omega)) ?_
      exact ⟨hC, Keep.refl _, rfl⟩
    intro v w9 hC hF hv
    clear hC hF
    simp only [Act.put, List.setIfInBounds_toArray, List.set_cons_zero, List.set_cons_succ]
    obtain rfl := hv
    (try unfold strV)
    refine dagT_pure rfl ?_
    go_big_quiet_step (fail)
    refine dagT_on ?_
    refine dagT_pure rfl ?_
    go_big_quiet_step (fail)
    refine dagT_on ?_
    refine dagT_pure rfl ?_
    go_big_quiet_step (fail)
    refine dagT_on ?_
    refine dagT_pure rfl ?_
    go_big_quiet_step (fail)
    refine dagT_on ?_
    refine dagT_told (by kernel_rfl) ?_ ?_
    · intro w9 hC hF
      refine Gives.value (v := sliced ax 18 40 cx 1) (w' := w9) (by go_simp; first | done | (intro hlt; exfalso; omega) | (rw [if_pos (by omega)])) ?_
      exact ⟨hC, Keep.refl _, rfl⟩
    intro v w9 hC hF hv
    clear hC hF
    simp only [Act.put, List.setIfInBounds_toArray, List.set_cons_zero, List.set_cons_succ]
    obtain rfl := hv
    refine dagT_told (by kernel_rfl) ?_ ?_
    · intro w9 hC hF
      refine Gives.toStr Try.underlying26 Try.underlying5 Try.underlying9 _ rfl rfl ((SlB.keep hC hx7).from 18 (by omega)) ?_
      exact ⟨hC, Keep.refl _, rfl⟩
    intro v w9 hC hF hv
    clear hC hF
    simp only [Act.put, List.setIfInBounds_toArray, List.set_cons_zero, List.set_cons_succ]
    obtain rfl := hv
    refine dagT_pure rfl ?_
    go_big_quiet_step (fail)
    refine dagT_on ?_
    refine dagT_told (by kernel_rfl) ?_ ?_
    · intro w9 hC hF
      refine Gives.value (v := sliced az 18 40 cz 1) (w' := w9) (by go_simp; first | done | (intro hlt; exfalso; omega) | (rw [if_pos (by omega)])) ?_
      exact ⟨hC, Keep.refl _, rfl⟩
    intro v w9 hC hF hv
    clear hC hF
    simp only [Act.put, List.setIfInBounds_toArray, List.set_cons_zero, List.set_cons_succ]
    obtain rfl := hv
    refine dagT_told (by kernel_rfl) ?_ ?_
    · intro w9 hC hF
      refine Gives.toStr Try.underlying26 Try.underlying5 Try.underlying9 _ rfl rfl ((SlB.keep hC hz7).from 18 (by omega)) ?_
      exact ⟨hC, Keep.refl _, rfl⟩
    intro v w9 hC hF hv
    clear hC hF
    simp only [Act.put, List.setIfInBounds_toArray, List.set_cons_zero, List.set_cons_succ]
    obtain rfl := hv
    (try unfold strV)
    refine dagT_pure rfl ?_
    go_big_quiet_step (fail)
    refine dagT_on ?_
    refine dagT_pure rfl ?_
    go_big_quiet_step (fail)
    refine dagT_on ?_
    refine dagT_pure rfl ?_
    go_big_quiet_step (fail)
    refine dagT_on ?_
    refine dagT_pure rfl ?_
    go_big_quiet_step (fail)
    refine dagT_on ?_
    refine dagT_told (by kernel_rfl) ?_ ?_
    · intro w9 hC hF
      refine Gives.value (v := sliced ax 0 2 cx 1) (w' := w9) (by go_simp; first | done | (intro hlt; exfalso; omega) | (rw [if_pos (by omega)])) ?_
      exact ⟨hC, Keep.refl _, rfl⟩
    intro v w9 hC hF hv
    clear hC hF
    simp only [Act.put, List.setIfInBounds_toArray, List.set_cons_zero, List.set_cons_succ]
    obtain rfl := hv
    refine dagT_told (by kernel_rfl) ?_ ?_
    · intro w9 hC hF
      refine Gives.toStr Try.underlying26 Try.underlying5 Try.underlying9 _ rfl rfl ((SlB.keep hC hx7).upto 2 (by omega)) ?_
      exact ⟨hC, Keep.refl _, rfl⟩
    intro v w9 hC hF hv
    clear hC hF
    simp only [Act.put, List.setIfInBounds_toArray, List.set_cons_zero, List.set_cons_succ]
    obtain rfl := hv
    refine dagT_pure rfl ?_
    go_big_quiet_step (fail)
    refine dagT_on ?_
    refine dagT_told (by kernel_rfl) ?_ ?_
    · intro w9 hC hF
      refine Gives.value (v := sliced az 0 2 cz 1) (w' := w9) (by go_simp; first | done | (intro hlt; exfalso; omega) | (rw [if_pos (by omega)])) ?_
      exact ⟨hC, Keep.refl _, rfl⟩
    intro v w9 hC hF hv
    clear hC hF
    simp only [Act.put, List.setIfInBounds_toArray, List.set_cons_zero, List.set_cons_succ]
    obtain rfl := hv
    refine dagT_told (by kernel_rfl) ?_ ?_
    · intro w9 hC hF
      refine Gives.toStr Try.underlying26 Try.underlying5 Try.underlying9 _ rfl rfl ((SlB.keep hC hz7).upto 2 (by omega)) ?_
      exact ⟨hC, Keep.refl _, rfl⟩
    intro v w9 hC hF hv
    clear hC hF
    simp only [Act.put, List.setIfInBounds_toArray, List.set_cons_zero, List.set_cons_succ]
    obtain rfl := hv
    (try unfold strV)
    refine dagT_pure rfl ?_
    go_big_quiet_step (fail)
    refine dagT_on ?_
    refine dagT_pure rfl ?_
    go_big_quiet_step (fail)
    refine dagT_on ?_
    refine dagT_pure rfl ?_
    go_big_quiet_step (fail)
    refine dagT_on ?_
    refine dagT_done ?_
    intro w8 hC hF
    have hk8 := hk7'.trans' hC
    clear hF hC
    go_wp2
    go_ret
    exact ⟨rfl, hk8⟩
  · have hkw3 := hk0.trans' hk3'
    clear x0 x1 x2 z0 z1 z2 a0 a1 a2
    obtain ⟨w5, hw5, hk35, hS, hT⟩ := RwAt.two w3 a a
    have hf1 : ∀ i, w5.frozen? ⟨w3.heap.size, i, none⟩ = false := by
      rw [hw5]
      intro i
      exact frozen_of_row _ _ _ _ _ ((Below.heap_alloc _ _ _ (by simp)).trans (heap_alloc_new w3 _))
    have hf2 : ∀ i, w5.frozen? ⟨w3.heap.size + 1, i, none⟩ = false := by
      rw [hw5]
      intro i
      exact frozen_of_row _ _ _ _ _ (by have := heap_alloc_new (w3.alloc (.cells #[.int .i64 a.t, .string ⟨a.k.toArray⟩, .string ⟨a.v.toArray⟩] 23)) (.cells #[.int .i64 a.t, .string ⟨a.k.toArray⟩, .string ⟨a.v.toArray⟩] 23); simpa using this)
    rw [← hw5]
    clear hw5
    have hA5 := (hA.keep hk3').keep hk35
    have hne7 : w.heap.size < w3.heap.size := by
      have := hk3'.size
      have := World.block_lt_of_cell? w0 _ hA.1
      simp only at this
      omega
    have hk5 : Keep w3 w5 := hk35
    have HS0 := hS
    have HS1 := hT
    obtain ⟨s0, s1, s2⟩ := hS
    obtain ⟨t0, t1', t2'⟩ := hT
    go_wp2_with fail
    have hw6 : ∃ w6, w6 = ((w5.setCell ⟨(w3.heap.size + 1), 2, none⟩ (.string ⟨val.toArray⟩)).setCell ⟨w3.heap.size, 1, none⟩ (.string ⟨key.toArray⟩)).drew := ⟨_, rfl⟩
    obtain ⟨w6, hw6⟩ := hw6
    have hkA : Keep w3 w6 := by rw [hw6]; exact (Keep.setCell (Keep.setCell hk5 (by first | exact Nat.le_refl _ | exact Nat.le_succ _) _) (by first | exact Nat.le_refl _ | exact Nat.le_succ _) _).drew
    have hA6 : RwAt w6 w.heap.size a := (hA.keep hk3').keep hkA
    obtain ⟨sr, hsr⟩ : ∃ sr : Rw, sr = ⟨a.t, a.k, val⟩ := ⟨_, rfl⟩
    obtain ⟨tr, htr⟩ : ∃ tr : Rw, tr = ⟨a.t, key, a.v⟩ := ⟨_, rfl⟩
    have hS6 : RwAt w6 (w3.heap.size + 1) sr := by
      rw [hw6, hsr]
      exact ((HS1.setV val).far ⟨w3.heap.size, 1, none⟩ _ (by simp)).keep (Keep.refl _).drew
    have hT6 : RwAt w6 w3.heap.size tr := by
      rw [hw6, htr]
      exact ((HS0.far ⟨(w3.heap.size + 1), 2, none⟩ _ (by simp)).setK key).keep (Keep.refl _).drew
    have hk6' := hkw3.trans' hkA
    have hsr1 : sr.right = true := by
      obtain ⟨q1, q2, q3, q4⟩ := a.right_iff.1 hra
      rw [hsr]; exact (Rw.right_iff _).2 ⟨q1, q2, q3, hv⟩
    have htr1 : tr.right = true := by
      obtain ⟨q1, q2, q3, q4⟩ := a.right_iff.1 hra
      rw [htr]; exact (Rw.right_iff _).2 ⟨q1, q2, hk, q4⟩
    have E2 := Lib.hid (encode_any sr)
    have E3 := Lib.hid (encode_any tr)
    unfold Rw.val strV at E2 E3
    rw [← hw6]
    have HSR := Lib.hid hsr
    have HTR := Lib.hid htr
    clear hw6 hsr htr s0 s1 s2 t0 t1' t2' hf1 hf2 hA5 HS0 HS1 hk5 hk35 hkA
    refine wp_region_dag' (C := fun w' => Keep w6 w') (R := Keep) [some (tV a.val), some (tB a.enc), some (tV sr.val), some (tB sr.enc), some (tV tr.val), some (tB tr.enc), none, none, none] (by kernel_rfl) (by kernel_rfl) (Keep.refl w6).drew ?_
    refine dagT_told (by kernel_rfl) ?_ ?_
    · intro w9 hC hF
      obtain ⟨x0, x1, x2⟩ := hA6.keep hC
      refine Gives.value (v := a.val) (w' := w9) (by unfold Rw.val strV; go_simp) ?_
      exact ⟨hC, Keep.refl _, rfl⟩
    intro v w9 hC hF hv
    clear hC hF
    simp only [Act.put, List.setIfInBounds_toArray, List.set_cons_zero, List.set_cons_succ]
    obtain rfl := hv
    refine dagT_told (by kernel_rfl) ?_ ?_
    · intro w9 hC hF
      refine Gives.call (by (try unfold Rw.val strV); go_simp) (E1.out hra w9) ?_
      rintro e w' ⟨v', rfl, ho, hk⟩
      exact ⟨_, rfl, hC.trans' hk, hk, ho.slB⟩
    intro x w9 hC hF hx
    clear hC hF
    simp only [Act.put, List.setIfInBounds_toArray, List.set_cons_zero, List.set_cons_succ]
    obtain ⟨ax, nx, cx, rfl⟩ := SlB.shape hx
    refine dagT_told (by kernel_rfl) ?_ ?_
    · intro w9 hC hF
      obtain ⟨x0, x1, x2⟩ := hS6.keep hC
      refine Gives.value (v := sr.val) (w' := w9) (by unfold Rw.val strV; go_simp) ?_
      exact ⟨hC, Keep.refl _, rfl⟩
    intro v w9 hC hF hv
    clear hC hF
    simp only [Act.put, List.setIfInBounds_toArray, List.set_cons_zero, List.set_cons_succ]
    obtain rfl := hv
    refine dagT_told (by kernel_rfl) ?_ ?_
    · intro w9 hC hF
      refine Gives.call (by (try unfold Rw.val strV); go_simp) (E2.out hsr1 w9) ?_
      rintro e w' ⟨v', rfl, ho, hk⟩
      exact ⟨_, rfl, hC.trans' hk, hk, ho.slB⟩
    intro y w9 hC hF hy
    clear hC hF
    simp only [Act.put, List.setIfInBounds_toArray, List.set_cons_zero, List.set_cons_succ]
    obtain ⟨ay, ny, cy, rfl⟩ := SlB.shape hy
    refine dagT_told (by kernel_rfl) ?_ ?_
    · intro w9 hC hF
      obtain ⟨x0, x1, x2⟩ := hT6.keep hC
      refine Gives.value (v := tr.val) (w' := w9) (by unfold Rw.val strV; go_simp) ?_
      exact ⟨hC, Keep.refl _, rfl⟩
    intro v w9 hC hF hv
    clear hC hF
    simp only [Act.put, List.setIfInBounds_toArray, List.set_cons_zero, List.set_cons_succ]
    obtain rfl := hv
    refine dagT_told (by kernel_rfl) ?_ ?_
    · intro w9 hC hF
      refine Gives.call (by (try unfold Rw.val strV); go_simp) (E3.out htr1 w9) ?_
      rintro e w' ⟨v', rfl, ho, hk⟩
      exact ⟨_, rfl, hC.trans' hk, hk, ho.slB⟩
    intro z w9 hC hF hz
    clear hC hF
    simp only [Act.put, List.setIfInBounds_toArray, List.set_cons_zero, List.set_cons_succ]
    obtain ⟨az, nz, cz, rfl⟩ := SlB.shape hz
    refine dagT_pure rfl ?_
    go_big_quiet_step (fail)
    refine dagT_on ?_
    refine dagT_pure rfl ?_
    go_big_quiet_step (fail)
    refine dagT_on ?_
    refine dagT_pure rfl ?_
    go_big_quiet_step (fail)
    refine dagT_on ?_
    refine dagT_done ?_
    intro w7 hC hF
    have hx7 : SlB w7 _ a.enc := (hF 1).2.2.2.2.1 rfl
    have hy7 : SlB w7 _ sr.enc := (hF 3).2.2.1 rfl
    have hz7 : SlB w7 _ tr.enc := (hF 5).1 rfl
    obtain ⟨_, cx7, ex, _, bx7, _⟩ := hx7.form
    obtain ⟨_, cy7, ey, _, by7, _⟩ := hy7.form
    obtain ⟨_, cz7, ez, _, bz7, _⟩ := hz7.form
    simp only [Value.slice.injEq] at ex ey ez
    obtain ⟨-, hnx, rfl⟩ := ex
    obtain ⟨-, hny, rfl⟩ := ey
    obtain ⟨-, hnz, rfl⟩ := ez
    rw [enc_length a hra] at hnx bx7
    rw [enc_length sr hsr1] at hny by7
    rw [enc_length tr htr1] at hnz bz7
    subst hnx hny hnz
    have hk7' := hk6'.trans' hC
    have q1 : (a.enc.take 18 == sr.enc.take 18) = true := by rw [HSR.out]; exact beq_iff_eq.2 (Rw.enc_head a val hra)
    have q2 : (a.enc.drop 18 == tr.enc.drop 18) = true := by rw [HTR.out]; exact beq_iff_eq.2 (Rw.enc_tail a key hra hk)
    have q3 : (a.enc.take 2 == tr.enc.take 2) = true := by rw [HTR.out]; exact beq_iff_eq.2 (by simp [Rw.enc])
    clear hF hx hy hz hC hA6 hS6 hT6 E1 E2 E3
    go_upto_region 8 with (fail)
    refine wp_region_dag' (C := fun w' => Keep w7 w') (R := Keep) [none, none, none, none, none, none, none, none, none, none, none, none, none, none, none, some (tV (sliced ax 0 18 cx 1)), some (tV (strV (a.enc.take 18))), none, some (tV (sliced ay 0 18 cy 1)), some (tV (strV (sr.enc.take 18))), none, none, none, none, some (tV (sliced ax 18 40 cx 1)), some (tV (strV (a.enc.drop 18))), none, some (tV (sliced az 18 40 cz 1)), some (tV (strV (tr.enc.drop 18))), none, none, none, none, some (tV (sliced ax 0 2 cx 1)), some (tV (strV (a.enc.take 2))), none, some (tV (sliced az 0 2 cz 1)), some (tV (strV (tr.enc.take 2))), none, none, none] (by kernel_rfl) (by kernel_rfl) (Keep.refl w7).drew ?_
    refine dagT_pure rfl ?_
    go_big_quiet_step (fail)
    refine dagT_on ?_
    refine dagT_pure rfl ?_
    go_big_quiet_step (fail)
    refine dagT_on ?_
    refine dagT_pure rfl ?_
    go_big_quiet_step (fail)
    refine dagT_on ?_
    refine dagT_pure rfl ?_
    go_big_quiet_step (fail)
    refine dagT_on ?_
    refine dagT_pure rfl ?_
    go_big_quiet_step (fail)
    refine dagT_on ?_
    refine dagT_pure rfl ?_
    go_big_quiet_step (fail)
    refine dagT_on ?_
    refine dagT_pure rfl ?_
    go_big_quiet_step (fail)
    refine dagT_on ?_
    refine dagT_pure rfl ?_
    go_big_quiet_step (fail)
    refine dagT_on ?_
    refine dagT_pure rfl ?_
    go_big_quiet_step (fail)
    refine dagT_on ?_
    refine dagT_pure rfl ?_
    go_big_quiet_step (fail)
    refine dagT_on ?_
    refine dagT_pure rfl ?_
    go_big_quiet_step (fail)
    refine dagT_on ?_
    refine dagT_pure rfl ?_
    go_big_quiet_step (fail)
    refine dagT_on ?_
    refine dagT_pure rfl ?_
    go_big_quiet_step (fail)
    refine dagT_on ?_
    refine dagT_pure rfl ?_
    go_big_quiet_step (fail)
    refine dagT_on ?_
    refine dagT_pure rfl ?_
    go_big_quiet_step (fail)
    refine dagT_on ?_
    refine dagT_told (by kernel_rfl) ?_ ?_
    · intro w9 hC hF
      refine Gives.value (v := sliced ax 0 18 cx 1) (w' := w9) (by go_simp; first | done | (intro hlt; exfalso; omega) | (rw [if_pos (by omega)])) ?_
      exact ⟨hC, Keep.refl _, rfl⟩
    intro v w9 hC hF hv
    clear hC hF
    simp only [Act.put, List.setIfInBounds_toArray, List.set_cons_zero, List.set_cons_succ]
    obtain rfl := hv
    refine dagT_told (by kernel_rfl) ?_ ?_
    · intro w9 hC hF
      refine Gives.toStr Try.underlying26 Try.underlying5 Try.underlying9 _ rfl rfl ((SlB.keep hC hx7).upto 18 (by omega)) ?_
      exact ⟨hC, Keep.refl _, rfl⟩
    intro v w9 hC hF hv
    clear hC hF
    simp only [Act.put, List.setIfInBounds_toArray, List.set_cons_zero, List.set_cons_succ]
    obtain rfl := hv
    refine dagT_pure rfl ?_
    go_big_quiet_step (fail)
    refine dagT_on ?_
    refine dagT_told (by kernel_rfl) ?_ ?_
    · intro w9 hC hF
      refine Gives.value (v := sliced ay 0 18 cy 1) (w' := w9) (by go_simp; first | done | (intro hlt; exfalso; omega) | (rw [if_pos (by omega)])) ?_
      exact ⟨hC, Keep.refl _, rfl⟩
    intro v w9 hC hF hv
    clear hC hF
    simp only [Act.put, List.setIfInBounds_toArray, List.set_cons_zero, List.set_cons_succ]
    obtain rfl := hv
    refine dagT_told (by kernel_rfl) ?_ ?_
    · intro w9 hC hF
      refine Gives.toStr Try.underlying26 Try.underlying5 Try.underlying9 _ rfl rfl ((SlB.keep hC hy7).upto 18 (by omega)) ?_
      exact ⟨hC, Keep.refl _, rfl⟩
    intro v w9 hC hF hv
    clear hC hF
    simp only [Act.put, List.setIfInBounds_toArray, List.set_cons_zero, List.set_cons_succ]
    obtain rfl := hv
    (try unfold strV)
    refine dagT_pure rfl ?_
    go_big_quiet_step (fail)
    refine dagT_on ?_
    refine dagT_pure rfl ?_
    go_big_quiet_step (fail)
    refine dagT_on ?_
    refine dagT_pure rfl ?_
    go_big_quiet_step (fail)
    refine dagT_on ?_
    refine dagT_pure rfl ?_
    go_big_quiet_step (fail)
    refine dagT_on ?_
    refine dagT_told (by kernel_rfl) ?_ ?_
    · intro w9 hC hF
      refine Gives.value (v := sliced ax 18 40 cx 1) (w' := w9) (by go_simp; first | done | (intro hlt; exfalso; omega) | (rw [if_pos (by omega)])) ?_
      exact ⟨hC, Keep.refl _, rfl⟩
    intro v w9 hC hF hv
    clear hC hF
    simp only [Act.put, List.setIfInBounds_toArray, List.set_cons_zero, List.set_cons_succ]
    obtain rfl := hv
    refine dagT_told (by kernel_rfl) ?_ ?_
    · intro w9 hC hF
      refine Gives.toStr Try.underlying26 Try.underlying5 Try.underlying9 _ rfl rfl ((SlB.keep hC hx7).from 18 (by omega)) ?_
      exact ⟨hC, Keep.refl _, rfl⟩
    intro v w9 hC hF hv
    clear hC hF
    simp only [Act.put, List.setIfInBounds_toArray, List.set_cons_zero, List.set_cons_succ]
    obtain rfl := hv
    refine dagT_pure rfl ?_
    go_big_quiet_step (fail)
    refine dagT_on ?_
    refine dagT_told (by kernel_rfl) ?_ ?_
    · intro w9 hC hF
      refine Gives.value (v := sliced az 18 40 cz 1) (w' := w9) (by go_simp; first | done | (intro hlt; exfalso; omega) | (rw [if_pos (by omega)])) ?_
      exact ⟨hC, Keep.refl _, rfl⟩
    intro v w9 hC hF hv
    clear hC hF
    simp only [Act.put, List.setIfInBounds_toArray, List.set_cons_zero, List.set_cons_succ]
    obtain rfl := hv
    refine dagT_told (by kernel_rfl) ?_ ?_
    · intro w9 hC hF
      refine Gives.toStr Try.underlying26 Try.underlying5 Try.underlying9 _ rfl rfl ((SlB.keep hC hz7).from 18 (by omega)) ?_
      exact ⟨hC, Keep.refl _, rfl⟩
    intro v w9 hC hF hv
    clear hC hF
    simp only [Act.put, List.setIfInBounds_toArray, List.set_cons_zero, List.set_cons_succ]
    obtain rfl := hv
    (try unfold strV)
    refine dagT_pure rfl ?_
    go_big_quiet_step (fail)
    refine dagT_on ?_
    refine dagT_pure rfl ?_
    go_big_quiet_step (fail)
    refine dagT_on ?_
    refine dagT_pure rfl ?_
    go_big_quiet_step (fail)
    refine dagT_on ?_
    refine dagT_pure rfl ?_
    go_big_quiet_step (fail)
    refine dagT_on ?_
    refine dagT_told (by kernel_rfl) ?_ ?_
    · intro w9 hC hF
      refine Gives.value (v := sliced ax 0 2 cx 1) (w' := w9) (by go_simp; first | done | (intro hlt; exfalso; omega) | (rw [if_pos (by omega)])) ?_
      exact ⟨hC, Keep.refl _, rfl⟩
    intro v w9 hC hF hv
    clear hC hF
    simp only [Act.put, List.setIfInBounds_toArray, List.set_cons_zero, List.set_cons_succ]
    obtain rfl := hv
    refine dagT_told (by kernel_rfl) ?_ ?_
    · intro w9 hC hF
      refine Gives.toStr Try.underlying26 Try.underlying5 Try.underlying9 _ rfl rfl ((SlB.keep hC hx7).upto 2 (by omega)) ?_
      exact ⟨hC, Keep.refl _, rfl⟩
    intro v w9 hC hF hv
    clear hC hF
    simp only [Act.put, List.setIfInBounds_toArray, List.set_cons_zero, List.set_cons_succ]
    obtain rfl := hv
    refine dagT_pure rfl ?_
    go_big_quiet_step (fail)
    refine dagT_on ?_
    refine dagT_told (by kernel_rfl) ?_ ?_
    · intro w9 hC hF
      refine Gives.value (v := sliced az 0 2 cz 1) (w' := w9) (by go_simp; first | done | (intro hlt; exfalso; omega) | (rw [if_pos (by omega)])) ?_
      exact ⟨hC, Keep.refl _, rfl⟩
    intro v w9 hC hF hv
    clear hC hF
    simp only [Act.put, List.setIfInBounds_toArray, List.set_cons_zero, List.set_cons_succ]
    obtain rfl := hv
    refine dagT_told (by kernel_rfl) ?_ ?_
    · intro w9 hC hF
      refine Gives.toStr Try.underlying26 Try.underlying5 Try.underlying9 _ rfl rfl ((SlB.keep hC hz7).upto 2 (by omega)) ?_
      exact ⟨hC, Keep.refl _, rfl⟩
    intro v w9 hC hF hv
    clear hC hF
    simp only [Act.put, List.setIfInBounds_toArray, List.set_cons_zero, List.set_cons_succ]
    obtain rfl := hv
    (try unfold strV)
    refine dagT_pure rfl ?_
    go_big_quiet_step (fail)
    refine dagT_on ?_
    refine dagT_pure rfl ?_
    go_big_quiet_step (fail)
    refine dagT_on ?_
    refine dagT_pure rfl ?_
    go_big_quiet_step (fail)
    refine dagT_on ?_
    refine dagT_done ?_
    intro w8 hC hF
    have hk8 := hk7'.trans' hC
    clear hF hC
    go_wp2
    go_ret
    exact ⟨rfl, hk8⟩
end Go.Proofs.Ythgapchfhhcodaa
