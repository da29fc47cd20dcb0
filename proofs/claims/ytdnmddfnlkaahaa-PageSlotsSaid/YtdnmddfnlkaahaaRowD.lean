/- The walk of row.Decode. -/
import Derived.Test.YtdnmddfnlkaahaaRowE
import Derived.Test.YtdnmddfnlkaahaaTail
namespace Go.Proofs.Ytdnmddfnlkaahaa
open Go.RowKit
attribute [local irreducible] Go.wpQuiet

def Rw.zero : Rw := ⟨0, [], []⟩
/-- the row that bytes may tell -/
def Rw.of (l : List UInt8) : Rw := ⟨((l.getD 1 0).toNat : Int), (l.drop 3).take (min (l.getD 2 0).toNat 15), (l.drop 19).take (min (l.getD 18 0).toNat 21)⟩
def Rw.dec (l : List UInt8) : Rw × Int :=
  if l.length ≠ 40 then (Rw.zero, 9) else if l = zB 40 then (Rw.zero, 5) else if (Rw.of l).right = true ∧ (Rw.of l).slot = l then (Rw.of l, 0) else (Rw.zero, 9)

theorem strV_inj {l k : List UInt8} : strV l = strV k ↔ l = k := by
  constructor
  · intro h
    unfold strV at h
    simpa using h
  · intro h; rw [h]

set_option maxHeartbeats 2000000 in
theorem decode_size (v : Value) (l : List UInt8) (w : World) (hv : SlB w v l) (hl : l.length ≠ 40) :
    Calls Try.prog 22 #[v] w fun e w' => e = .returned (.tuple #[Rw.zero.val, .int .i64 9]) ∧ Keep w w' := by
  obtain ⟨a0, c0, rfl, hm, hcap, -⟩ := hv.form
  unfold maxLen at hm
  have b1 : ((l.length : Int) != 40) = true := bne_iff_ne.2 (by omega)
  go_enter Try.func22, Try.ntmps22
  go_wp2
  exact bodyPost_ret (v := .tuple #[Rw.zero.val, .int .i64 9]) (by simp [results, Try.results22, go_sem, Rw.zero, Rw.val, strV]) rfl ⟨rfl, Keep.alloc _ _⟩

theorem alloc_three (w : World) (a b c : Value) (e : TypeId) : (w.alloc (.cells #[a, b, c] e)).cell? ⟨w.heap.size, 0, none⟩ = some a ∧ (w.alloc (.cells #[a, b, c] e)).cell? ⟨w.heap.size, 1, none⟩ = some b ∧ (w.alloc (.cells #[a, b, c] e)).cell? ⟨w.heap.size, 2, none⟩ = some c ∧
    (∀ i, (w.alloc (.cells #[a, b, c] e)).frozen? ⟨w.heap.size, i, none⟩ = false) ∧ w.heap.size < (w.alloc (.cells #[a, b, c] e)).heap.size := by
  have h := heap_alloc_new w (.cells #[a, b, c] e)
  refine ⟨?_, ?_, ?_, fun i => frozen_of_row _ _ _ _ _ h, by simp⟩ <;> (rw [cell_of_row _ _ _ _ _ _ h]; rfl)

/-- told of a value: it points at a new block for a row -/
def tNewRow (n : Nat) : Tells Keep := ⟨fun v w => ∃ g, v = .pointer (some ⟨g, 0, none⟩) ∧ n ≤ g ∧ w.heap[g]? = some (.cells #[.int .i64 0, .string ⟨#[]⟩, .string ⟨#[]⟩] 24), fun _ _ _ hk ⟨g, h1, h0, h2⟩ => ⟨g, h1, h0, by rw [hk.block g (Array.getElem?_eq_some_iff.1 h2).1]; exact h2⟩⟩

/-- a row that is stored over another -/
theorem row_stored {w : World} {g : Nat} {a b c : Value} {e : TypeId} (h : w.heap[g]? = some (.cells #[a, b, c] e)) (x y z : Value) :
    (((w.setCell ⟨g, 0, none⟩ x).setCell ⟨g, 1, none⟩ y).setCell ⟨g, 2, none⟩ z).heap[g]? = some (.cells #[x, y, z] e) := by
  simp [World.setCell, Array.getElem?_modify, h]

set_option maxHeartbeats 2000000 in
theorem decode_main (v : Value) (l : List UInt8) (w : World) (hv : SlB w v l) (hl : l.length = 40) :
    Calls Try.prog 22 #[v] w fun e w' => e = .returned (.tuple #[(Rw.dec l).1.val, .int .i64 (Rw.dec l).2]) ∧ Keep w w' := by
  have hv0 := hv
  obtain ⟨a0, c0, rfl, hm, hcap, -⟩ := hv.form
  clear hv hm
  have HL := Lib.hid hl
  have b1 : ((l.length : Int) != 40) = false := bne_eq_false_iff_eq.2 (by omega)
  go_enter Try.func22, Try.ntmps22
  go_upto_region 3 with (fail)
  have hkw1 : Keep w (w.alloc (.cells #[.int .i64 0, .string ⟨#[]⟩, .string ⟨#[]⟩] 24)) := Keep.alloc _ _
  have hzc := alloc_three w (.int .i64 0) (.string ⟨#[]⟩) (.string ⟨#[]⟩) 24
  generalize (w.alloc (.cells #[.int .i64 0, .string ⟨#[]⟩, .string ⟨#[]⟩] 24)) = w1 at *
  by_cases hz : l = zB 40
  · have hdec : Rw.dec l = (Rw.zero, 5) := by
      unfold Rw.dec
      rw [if_neg (by rw [hl]; simp), if_pos hz]
    have HD := Lib.hid hdec
    have hzb : (l == zB 40) = true := by rw [hz]; exact beq_self_eq_true _
    clear hdec hz hl
    refine wp_region_dag' (C := fun w' => Keep w1 w') (R := Keep) [none, some (tV (strV l)), some (tB (zB 40)), some (tV (strV (zB 40))), none] (by kernel_rfl) (by kernel_rfl) (Keep.refl w1).drew ?_
    refine dagT_pure rfl ?_
    go_big_quiet_step (fail)
    refine dagT_on ?_
    refine dagT_told (by kernel_rfl) ?_ ?_
    · intro w2 hC hF
      refine Gives.toStr Try.underlying38 Try.underlying5 Try.underlying9 _ rfl rfl (hv0.keep (hkw1.trans' hC)) ?_
      exact ⟨hC, Keep.refl _, rfl⟩
    intro v w2 hC hF hv
    clear hC hF
    simp only [Act.put, List.setIfInBounds_toArray, List.set_cons_zero, List.set_cons_succ]
    obtain rfl := hv
    refine dagT_told (by kernel_rfl) ?_ ?_
    · intro w2 hC hF
      refine Gives.makeB elemB _ _ 40 rfl rfl rfl (by omega) ?_
      exact ⟨hC.trans' (Keep.alloc _ _), Keep.alloc _ _, (Own.made _ _ 0 40 (Nat.zero_le _) (by omega)).slB⟩
    intro s1 w2 hC hF hs1
    clear hC hF
    simp only [Act.put, List.setIfInBounds_toArray, List.set_cons_zero, List.set_cons_succ]
    obtain ⟨a1, n1, c1, rfl⟩ := SlB.shape hs1
    refine dagT_told (by kernel_rfl) ?_ ?_
    · intro w2 hC hF
      refine Gives.toStr Try.underlying38 Try.underlying5 Try.underlying9 _ rfl rfl ((hF 2 (by kernel_rfl)).1 rfl) ?_
      exact ⟨hC, Keep.refl _, rfl⟩
    intro v w2 hC hF hv
    clear hC hF
    simp only [Act.put, List.setIfInBounds_toArray, List.set_cons_zero, List.set_cons_succ]
    obtain rfl := hv
    unfold strV
    refine dagT_pure rfl ?_
    go_big_quiet_step (fail)
    refine dagT_on ?_
    refine dagT_done ?_
    intro w2 hC hF
    have hc0 := (hC.cell (p := ⟨w.heap.size, 0, none⟩) hzc.2.2.2.2).trans hzc.1
    have hc1 := (hC.cell (p := ⟨w.heap.size, 1, none⟩) hzc.2.2.2.2).trans hzc.2.1
    have hc2 := (hC.cell (p := ⟨w.heap.size, 2, none⟩) hzc.2.2.2.2).trans hzc.2.2.1
    have hf0 := (hC.frozen (p := ⟨w.heap.size, 0, none⟩) hzc.2.2.2.2).trans (hzc.2.2.2.1 0)
    have hf1 := (hC.frozen (p := ⟨w.heap.size, 1, none⟩) hzc.2.2.2.2).trans (hzc.2.2.2.1 1)
    have hf2 := (hC.frozen (p := ⟨w.heap.size, 2, none⟩) hzc.2.2.2.2).trans (hzc.2.2.2.1 2)
    have hkk : Keep w w2 := hkw1.trans' hC
    clear hC hF hzc hs1 hzb b1
    go_wp2
    exact bodyPost_ret (v := .tuple #[Rw.zero.val, .int .i64 5]) (by simp [results, Try.results22, go_sem, Rw.zero, Rw.val, strV, hc0, hc1, hc2]) rfl ⟨by rw [HD.out], Keep.setCell (Keep.setCell (Keep.setCell hkk (Nat.le_refl w.heap.size) _) (Nat.le_refl w.heap.size) _) (Nat.le_refl w.heap.size) _⟩
  · have hzb : (l == zB 40) = false := beq_eq_false_iff_ne.2 hz
    obtain ⟨b, off, rfl, hcell⟩ := hv0.cells (by omega)
    have HCC := Lib.hid hcell
    have hcell2 := hcell 2 (by omega)
    have hcell1 := hcell 1 (by omega)
    have hcell18 := hcell 18 (by omega)
    clear hcell
    have hg2 : l.getD 2 0 = l[2] := by rw [List.getD_eq_getElem?_getD, List.getElem?_eq_getElem (by omega)]; rfl
    have hg1 : l.getD 1 0 = l[1] := by rw [List.getD_eq_getElem?_getD, List.getElem?_eq_getElem (by omega)]; rfl
    have hg18 : l.getD 18 0 = l[18] := by rw [List.getD_eq_getElem?_getD, List.getElem?_eq_getElem (by omega)]; rfl
    have hu2 := l[2].toNat_lt
    have hu1 := l[1].toNat_lt
    have hu18 := l[18].toNat_lt
    generalize l[2] = u2 at *
    generalize l[1] = u1 at *
    generalize l[18] = u18 at *
    obtain ⟨k2, hk2⟩ : ∃ k, k = min u2.toNat 15 := ⟨_, rfl⟩
    obtain ⟨k18, hk18⟩ : ∃ k, k = min u18.toNat 21 := ⟨_, rfl⟩
    have hm2 : (if (15 : Int) < (u2.toNat : Int) then 15 else (u2.toNat : Int)) = (k2 : Int) := by split <;> omega
    have hm18 : (if (21 : Int) < (u18.toNat : Int) then 21 else (u18.toNat : Int)) = (k18 : Int) := by split <;> omega
    have hk2l : k2 ≤ 15 := by omega
    have hk18l : k18 ≤ 21 := by omega
    have hof : Rw.of l = ⟨(u1.toNat : Int), (l.drop 3).take k2, (l.drop 19).take k18⟩ := by
      unfold Rw.of
      rw [hg1, hg2, hg18, ← hk2, ← hk18]
    have HOF := Lib.hid hof
    clear hof hg1 hg2 hg18 hk2 hk18
    refine wp_region_dag' (C := fun w' => Keep w1 w') (R := Keep) [none, some (tV (strV l)), some (tB (zB 40)), some (tV (strV (zB 40))), none] (by kernel_rfl) (by kernel_rfl) (Keep.refl w1).drew ?_
    refine dagT_pure rfl ?_
    go_big_quiet_step (fail)
    refine dagT_on ?_
    refine dagT_told (by kernel_rfl) ?_ ?_
    · intro w2 hC hF
      refine Gives.toStr Try.underlying38 Try.underlying5 Try.underlying9 _ rfl rfl (hv0.keep (hkw1.trans' hC)) ?_
      exact ⟨hC, Keep.refl _, rfl⟩
    intro v w2 hC hF hv
    clear hC hF
    simp only [Act.put, List.setIfInBounds_toArray, List.set_cons_zero, List.set_cons_succ]
    obtain rfl := hv
    refine dagT_told (by kernel_rfl) ?_ ?_
    · intro w2 hC hF
      refine Gives.makeB elemB _ _ 40 rfl rfl rfl (by omega) ?_
      exact ⟨hC.trans' (Keep.alloc _ _), Keep.alloc _ _, (Own.made _ _ 0 40 (Nat.zero_le _) (by omega)).slB⟩
    intro s1 w2 hC hF hs1
    clear hC hF
    simp only [Act.put, List.setIfInBounds_toArray, List.set_cons_zero, List.set_cons_succ]
    obtain ⟨a1, n1, c1, rfl⟩ := SlB.shape hs1
    refine dagT_told (by kernel_rfl) ?_ ?_
    · intro w2 hC hF
      refine Gives.toStr Try.underlying38 Try.underlying5 Try.underlying9 _ rfl rfl ((hF 2 (by kernel_rfl)).1 rfl) ?_
      exact ⟨hC, Keep.refl _, rfl⟩
    intro v w2 hC hF hv
    clear hC hF
    simp only [Act.put, List.setIfInBounds_toArray, List.set_cons_zero, List.set_cons_succ]
    obtain rfl := hv
    unfold strV
    refine dagT_pure rfl ?_
    go_big_quiet_step (fail)
    refine dagT_on ?_
    refine dagT_done ?_
    intro w2 hC hF
    have hkk : Keep w w2 := hkw1.trans' hC
    have hC2 := hC
    clear hC hF
    go_upto_region 5 with (fail)
    refine wp_region_dag' (C := fun w' => Keep w2 w') (R := Keep) [none, none, some (tV (.int .u8 (u2.toNat : Int))), none, none, none, none, some (tV (.int .u8 (u18.toNat : Int))), none, none, none, none] (by kernel_rfl) (by kernel_rfl) (Keep.refl w2).drew ?_
    refine dagT_pure rfl ?_
    go_big_quiet_step (fail)
    refine dagT_on ?_
    refine dagT_pure rfl ?_
    go_big_quiet_step (fail)
    refine dagT_on ?_
    refine dagT_told (by kernel_rfl) ?_ ?_
    · intro w3 hC hF
      have hcl := ((hkk.trans' hC).cell (World.block_lt_of_cell? w _ hcell2)).trans hcell2
      refine Gives.value (v := .int .u8 (u2.toNat : Int)) (w' := w3) (by go_simp) ?_
      exact ⟨hC, Keep.refl _, rfl⟩
    intro v w2 hC hF hv
    clear hC hF
    simp only [Act.put, List.setIfInBounds_toArray, List.set_cons_zero, List.set_cons_succ]
    obtain rfl := hv
    refine dagT_pure rfl ?_
    go_big_quiet_step (fail)
    refine dagT_on ?_
    refine dagT_pure rfl ?_
    go_big_quiet_step (fail)
    refine dagT_on ?_
    refine dagT_pure rfl ?_
    go_big_quiet_step (fail)
    refine dagT_on ?_
    refine dagT_pure rfl ?_
    go_big_quiet_step (fail)
    refine dagT_on ?_
    refine dagT_told (by kernel_rfl) ?_ ?_
    · intro w3 hC hF
      have hcl := ((hkk.trans' hC).cell (World.block_lt_of_cell? w _ hcell18)).trans hcell18
      refine Gives.value (v := .int .u8 (u18.toNat : Int)) (w' := w3) (by go_simp) ?_
      exact ⟨hC, Keep.refl _, rfl⟩
    intro v w2 hC hF hv
    clear hC hF
    simp only [Act.put, List.setIfInBounds_toArray, List.set_cons_zero, List.set_cons_succ]
    obtain rfl := hv
    refine dagT_pure rfl ?_
    go_big_quiet_step (fail)
    refine dagT_on ?_
    refine dagT_pure rfl ?_
    go_big_quiet_step (fail)
    refine dagT_on ?_
    refine dagT_pure rfl ?_
    go_big_quiet_step (fail)
    refine dagT_on ?_
    refine dagT_pure rfl ?_
    go_big_quiet_step (fail)
    refine dagT_on ?_
    refine dagT_done ?_
    intro w3 hC hF
    have hkk3 : Keep w w3 := hkk.trans' hC
    have hC3 := hC2.trans' hC
    clear hC hF hm2 hm18 hu2 hu18 hcell2 hcell18
    have hk2' : (3 + k2 : Int).toNat = 3 + k2 := by omega
    have hk18' : (19 + k18 : Int).toNat = 19 + k18 := by omega
    go_upto_region 7 with (fail)
    refine wp_region_dag_tail (C := fun w' => Keep w3 w') (R := Keep) 18 [none, none, some (tV (.int .u8 (u1.toNat : Int))), none, none, none, none, some (tV (sliced (some ⟨b, off, none⟩) 3 (3 + k2) c0 1)), some (tV (strV ((l.drop 3).take k2))), none, none, none, none, none, some (tV (sliced (some ⟨b, off, none⟩) 19 (19 + k18) c0 1)), some (tV (strV ((l.drop 19).take k18))), none, some (tNewRow w3.heap.size)] (by kernel_rfl) (by kernel_rfl) (by kernel_rfl) (Keep.refl w3).drew ?_
    refine dagT_pure rfl ?_
    go_big_quiet_step (fail)
    refine dagT_on ?_
    refine dagT_pure rfl ?_
    go_big_quiet_step (fail)
    refine dagT_on ?_
    refine dagT_told (by kernel_rfl) ?_ ?_
    · intro w4 hC hF
      have hcl := ((hkk3.trans' hC).cell (World.block_lt_of_cell? w _ hcell1)).trans hcell1
      refine Gives.value (v := .int .u8 (u1.toNat : Int)) (w' := w4) (by go_simp) ?_
      exact ⟨hC, Keep.refl _, rfl⟩
    intro v w4 hC hF hv
    clear hC hF
    simp only [Act.put, List.setIfInBounds_toArray, List.set_cons_zero, List.set_cons_succ]
    obtain rfl := hv
    refine dagT_pure rfl ?_
    go_big_quiet_step (fail)
    refine dagT_on ?_
    refine dagT_pure rfl ?_
    go_big_quiet_step (fail)
    refine dagT_on ?_
    refine dagT_pure rfl ?_
    go_big_quiet_step (fail)
    refine dagT_on ?_
    refine dagT_pure rfl ?_
    go_big_quiet_step (fail)
    refine dagT_on ?_
    refine dagT_told (by kernel_rfl) ?_ ?_
    · intro w4 hC hF
      refine Gives.value (v := sliced (some ⟨b, off, none⟩) 3 (3 + k2) c0 1) (w' := w4) (by go_simp; rw [if_pos ⟨by omega, by omega⟩, if_pos (by omega)]) ?_
      exact ⟨hC, Keep.refl _, rfl⟩
    intro v w4 hC hF hv
    clear hC hF
    simp only [Act.put, List.setIfInBounds_toArray, List.set_cons_zero, List.set_cons_succ]
    obtain rfl := hv
    refine dagT_told (by kernel_rfl) ?_ ?_
    · intro w4 hC hF
      have hc := (hv0.keep (hkk3.trans' hC)).cut 3 (3 + k2) (by omega) (by omega)
      rw [show 3 + k2 - 3 = k2 by omega] at hc
      refine Gives.toStr Try.underlying38 Try.underlying5 Try.underlying9 _ rfl rfl hc ?_
      exact ⟨hC, Keep.refl _, rfl⟩
    intro v w4 hC hF hv
    clear hC hF
    simp only [Act.put, List.setIfInBounds_toArray, List.set_cons_zero, List.set_cons_succ]
    obtain rfl := hv
    refine dagT_pure rfl ?_
    go_big_quiet_step (fail)
    refine dagT_on ?_
    refine dagT_pure rfl ?_
    go_big_quiet_step (fail)
    refine dagT_on ?_
    refine dagT_pure rfl ?_
    go_big_quiet_step (fail)
    refine dagT_on ?_
    refine dagT_pure rfl ?_
    go_big_quiet_step (fail)
    refine dagT_on ?_
    refine dagT_pure rfl ?_
    go_big_quiet_step (fail)
    refine dagT_on ?_
    refine dagT_told (by kernel_rfl) ?_ ?_
    · intro w4 hC hF
      refine Gives.value (v := sliced (some ⟨b, off, none⟩) 19 (19 + k18) c0 1) (w' := w4) (by go_simp; rw [if_pos ⟨by omega, by omega⟩, if_pos (by omega)]) ?_
      exact ⟨hC, Keep.refl _, rfl⟩
    intro v w4 hC hF hv
    clear hC hF
    simp only [Act.put, List.setIfInBounds_toArray, List.set_cons_zero, List.set_cons_succ]
    obtain rfl := hv
    refine dagT_told (by kernel_rfl) ?_ ?_
    · intro w4 hC hF
      have hc := (hv0.keep (hkk3.trans' hC)).cut 19 (19 + k18) (by omega) (by omega)
      rw [show 19 + k18 - 19 = k18 by omega] at hc
      refine Gives.toStr Try.underlying38 Try.underlying5 Try.underlying9 _ rfl rfl hc ?_
      exact ⟨hC, Keep.refl _, rfl⟩
    intro v w4 hC hF hv
    clear hC hF
    simp only [Act.put, List.setIfInBounds_toArray, List.set_cons_zero, List.set_cons_succ]
    obtain rfl := hv
    unfold strV
    refine dagT_pure rfl ?_
    go_big_quiet_step (fail)
    refine dagT_on ?_
    refine dagT_told (by kernel_rfl) ?_ ?_
    · intro w4 hC hF
      refine Gives.value (v := .pointer (some ⟨w4.heap.size, 0, none⟩)) (w' := w4.alloc (.cells #[.int .i64 0, .string ⟨#[]⟩, .string ⟨#[]⟩] 24)) (by go_simp) ?_
      exact ⟨hC.trans' (Keep.alloc _ _), Keep.alloc _ _, _, rfl, hC.size, heap_alloc_new _ _⟩
    intro v w4 hC hF hv
    clear hC hF
    simp only [Act.put, List.setIfInBounds_toArray, List.set_cons_zero, List.set_cons_succ]
    obtain ⟨g, rfl, -, -⟩ := hv
    refine dagT_done ?_
    intro w4 hC hF
    obtain ⟨g', hg', hgn, hgc⟩ := (hF 17).1 rfl
    simp only [Value.pointer.injEq, Option.some.injEq, Addr.mk.injEq, and_true] at hg'
    obtain rfl := hg'
    clear hF
    have hr0 : w4.cell? ⟨g, 0, none⟩ = some (.int .i64 0) := by rw [cell_of_row _ _ _ _ _ _ hgc]; rfl
    have hr1 : w4.cell? ⟨g, 1, none⟩ = some (.string ⟨#[]⟩) := by rw [cell_of_row _ _ _ _ _ _ hgc]; rfl
    have hr2 : w4.cell? ⟨g, 2, none⟩ = some (.string ⟨#[]⟩) := by rw [cell_of_row _ _ _ _ _ _ hgc]; rfl
    have hrf : ∀ i, w4.frozen? ⟨g, i, none⟩ = false := fun i => frozen_of_row _ _ _ _ _ hgc
    refine seqW_gives (by kernel_rfl) ?_
    refine Gives.skip (w' := ((w4.setCell ⟨g, 0, none⟩ (.int .i64 (u1.toNat : Int))).setCell ⟨g, 1, none⟩ (strV ((l.drop 3).take k2))).setCell ⟨g, 2, none⟩ (strV ((l.drop 19).take k18))) (by (unfold strV); go_simp) ?_
    have hk4 : Keep w3 (((w4.setCell ⟨g, 0, none⟩ (.int .i64 (u1.toNat : Int))).setCell ⟨g, 1, none⟩ (strV ((l.drop 3).take k2))).setCell ⟨g, 2, none⟩ (strV ((l.drop 19).take k18))) := Keep.setCell (Keep.setCell (Keep.setCell hC hgn _) hgn _) hgn _
    have hrow := row_stored hgc (.int .i64 (u1.toNat : Int)) (strV ((l.drop 3).take k2)) (strV ((l.drop 19).take k18))
    generalize ((w4.setCell ⟨g, 0, none⟩ (.int .i64 (u1.toNat : Int))).setCell ⟨g, 1, none⟩ (strV ((l.drop 3).take k2))).setCell ⟨g, 2, none⟩ (strV ((l.drop 19).take k18)) = w5 at *
    have hgw : w.heap.size < g := by have := hC3.size; have := hzc.2.2.2.2; omega
    clear hr0 hr1 hr2 hrf hgc hC hgn
    refine seqW_done ?_
    obtain ⟨r, hr⟩ : ∃ r : Rw, r = ⟨(u1.toNat : Int), (l.drop 3).take k2, (l.drop 19).take k18⟩ := ⟨_, rfl⟩
    have hof := HOF.out
    rw [← hr] at hof
    have hrow' : w5.heap[g]? = some (.cells #[.int .i64 r.t, strV r.k, strV r.v] 24) := by rw [hr]; exact hrow
    have hr0 : w5.cell? ⟨g, 0, none⟩ = some (.int .i64 r.t) := by rw [cell_of_row _ _ _ _ _ _ hrow']; rfl
    have hr1 : w5.cell? ⟨g, 1, none⟩ = some (strV r.k) := by rw [cell_of_row _ _ _ _ _ _ hrow']; rfl
    have hr2 : w5.cell? ⟨g, 2, none⟩ = some (strV r.v) := by rw [cell_of_row _ _ _ _ _ _ hrow']; rfl
    have hkk5 : Keep w w5 := hkk3.trans' hk4
    have hC5 : Keep w1 w5 := hC3.trans' hk4
    clear HOF hr hrow hrow'
    go_upto_region 8 with (fail)
    by_cases hrt : r.right = true
    · by_cases hen : r.slot = l
      · have hdec : Rw.dec l = (r, 0) := by
          unfold Rw.dec
          rw [if_neg (by rw [hl]; simp), if_neg hz, hof, if_pos ⟨hrt, hen⟩]
        have HD := Lib.hid hdec
        have henb : (r.slot == l) = true := beq_iff_eq.2 hen
        clear hdec hof hz hl hen
        refine wp_region_dag' (C := fun w' => Keep w5 w') (R := Keep) [some (tV r.val), some (tV (.bool true)), none, none, some (tV r.val), some (tB r.slot), some (tV (strV r.slot)), none, some (tV (strV l)), none, none] (by kernel_rfl) (by kernel_rfl) (Keep.refl w5).drew ?_
        refine dagT_told (by kernel_rfl) ?_ ?_
        · intro w6 hC hF
          have hx0 := (hC.cell (World.block_lt_of_cell? w5 _ hr0)).trans hr0
          have hx1 := (hC.cell (World.block_lt_of_cell? w5 _ hr1)).trans hr1
          have hx2 := (hC.cell (World.block_lt_of_cell? w5 _ hr2)).trans hr2
          refine Gives.value (v := r.val) (w' := w6) (by unfold strV at hx1 hx2; unfold Rw.val strV; go_simp) ?_
          exact ⟨hC, Keep.refl _, rfl⟩
        intro v w6 hC hF hv
        clear hC hF
        simp only [Act.put, List.setIfInBounds_toArray, List.set_cons_zero, List.set_cons_succ]
        obtain rfl := hv
        refine dagT_told (by kernel_rfl) ?_ ?_
        · intro w6 hC hF
          refine Gives.call (by go_simp) (right_any r w6) ?_
          rintro e w' ⟨rfl, hk⟩
          exact ⟨_, rfl, hC.trans' hk, hk, by rw [hrt]; rfl⟩
        intro v w6 hC hF hv
        clear hC hF
        simp only [Act.put, List.setIfInBounds_toArray, List.set_cons_zero, List.set_cons_succ]
        obtain rfl := hv
        refine dagT_pure rfl ?_
        go_big_quiet_step (fail)
        refine dagT_on ?_
        refine dagT_pure rfl ?_
        go_big_quiet_step (fail)
        refine dagT_on ?_
        refine dagT_told (by kernel_rfl) ?_ ?_
        · intro w6 hC hF
          have hx0 := (hC.cell (World.block_lt_of_cell? w5 _ hr0)).trans hr0
          have hx1 := (hC.cell (World.block_lt_of_cell? w5 _ hr1)).trans hr1
          have hx2 := (hC.cell (World.block_lt_of_cell? w5 _ hr2)).trans hr2
          refine Gives.value (v := r.val) (w' := w6) (by unfold strV at hx1 hx2; unfold Rw.val strV; go_simp) ?_
          exact ⟨hC, Keep.refl _, rfl⟩
        intro v w6 hC hF hv
        clear hC hF
        simp only [Act.put, List.setIfInBounds_toArray, List.set_cons_zero, List.set_cons_succ]
        obtain rfl := hv
        refine dagT_told (by kernel_rfl) ?_ ?_
        · intro w6 hC hF
          refine Gives.call (by go_simp) (encode_any r hrt w6) ?_
          rintro e w' ⟨v', rfl, ho, hk⟩
          exact ⟨_, rfl, hC.trans' hk, hk, ho.slB⟩
        intro s3 w6 hC hF hs3
        clear hC hF
        simp only [Act.put, List.setIfInBounds_toArray, List.set_cons_zero, List.set_cons_succ]
        obtain ⟨a3, n3, c3, rfl⟩ := SlB.shape hs3
        refine dagT_told (by kernel_rfl) ?_ ?_
        · intro w6 hC hF
          refine Gives.toStr Try.underlying38 Try.underlying5 Try.underlying9 _ rfl rfl ((hF 5 (by kernel_rfl)).1 rfl) ?_
          exact ⟨hC, Keep.refl _, rfl⟩
        intro v w6 hC hF hv
        clear hC hF
        simp only [Act.put, List.setIfInBounds_toArray, List.set_cons_zero, List.set_cons_succ]
        obtain rfl := hv
        refine dagT_pure rfl ?_
        go_big_quiet_step (fail)
        refine dagT_on ?_
        refine dagT_told (by kernel_rfl) ?_ ?_
        · intro w6 hC hF
          refine Gives.toStr Try.underlying38 Try.underlying5 Try.underlying9 _ rfl rfl (hv0.keep (hkk5.trans' hC)) ?_
          exact ⟨hC, Keep.refl _, rfl⟩
        intro v w6 hC hF hv
        clear hC hF
        simp only [Act.put, List.setIfInBounds_toArray, List.set_cons_zero, List.set_cons_succ]
        obtain rfl := hv
        unfold strV
        refine dagT_pure rfl ?_
        go_big_quiet_step (fail)
        refine dagT_on ?_
        refine dagT_pure rfl ?_
        go_big_quiet_step (fail)
        refine dagT_on ?_
        refine dagT_done ?_
        intro w6 hC hF
        have hkk6 : Keep w w6 := hkk5.trans' hC
        have hzk := hC5.trans' hC
        have hc0 := (hzk.cell (p := ⟨w.heap.size, 0, none⟩) hzc.2.2.2.2).trans hzc.1
        have hc1 := (hzk.cell (p := ⟨w.heap.size, 1, none⟩) hzc.2.2.2.2).trans hzc.2.1
        have hc2 := (hzk.cell (p := ⟨w.heap.size, 2, none⟩) hzc.2.2.2.2).trans hzc.2.2.1
        have hf0 := (hzk.frozen (p := ⟨w.heap.size, 0, none⟩) hzc.2.2.2.2).trans (hzc.2.2.2.1 0)
        have hf1 := (hzk.frozen (p := ⟨w.heap.size, 1, none⟩) hzc.2.2.2.2).trans (hzc.2.2.2.1 1)
        have hf2 := (hzk.frozen (p := ⟨w.heap.size, 2, none⟩) hzc.2.2.2.2).trans (hzc.2.2.2.1 2)
        have hx0 := (hC.cell (World.block_lt_of_cell? w5 _ hr0)).trans hr0
        have hx1 := (hC.cell (World.block_lt_of_cell? w5 _ hr1)).trans hr1
        have hx2 := (hC.cell (World.block_lt_of_cell? w5 _ hr2)).trans hr2
        clear hC hF hzk hzc hzb b1 hC5 hkk5 hkk hC2 hkk3 hC3 hk4 hkw1 hv0 hcell1 hu1
        unfold strV at hx1 hx2
        clear hr0 hr1 hr2
        have hne : g ≠ w.heap.size := by omega
        go_wp2
        exact bodyPost_ret (v := .tuple #[r.val, .int .i64 0]) (by simp [results, Try.results22, go_sem, Rw.val, strV, hc0, hc1, hc2]) rfl ⟨by rw [HD.out], Keep.setCell (Keep.setCell (Keep.setCell hkk6 (Nat.le_refl w.heap.size) _) (Nat.le_refl w.heap.size) _) (Nat.le_refl w.heap.size) _⟩
      · have hdec : Rw.dec l = (Rw.zero, 9) := by
          unfold Rw.dec
          rw [if_neg (by rw [hl]; simp), if_neg hz, hof, if_neg (fun h => hen h.2)]
        have HD := Lib.hid hdec
        have henb : (r.slot == l) = false := beq_eq_false_iff_ne.2 hen
        clear hdec hof hz hl hen
        refine wp_region_dag' (C := fun w' => Keep w5 w') (R := Keep) [some (tV r.val), some (tV (.bool true)), none, none, some (tV r.val), some (tB r.slot), some (tV (strV r.slot)), none, some (tV (strV l)), none, none] (by kernel_rfl) (by kernel_rfl) (Keep.refl w5).drew ?_
        refine dagT_told (by kernel_rfl) ?_ ?_
        · intro w6 hC hF
          have hx0 := (hC.cell (World.block_lt_of_cell? w5 _ hr0)).trans hr0
          have hx1 := (hC.cell (World.block_lt_of_cell? w5 _ hr1)).trans hr1
          have hx2 := (hC.cell (World.block_lt_of_cell? w5 _ hr2)).trans hr2
          refine Gives.value (v := r.val) (w' := w6) (by unfold strV at hx1 hx2; unfold Rw.val strV; go_simp) ?_
          exact ⟨hC, Keep.refl _, rfl⟩
        intro v w6 hC hF hv
        clear hC hF
        simp only [Act.put, List.setIfInBounds_toArray, List.set_cons_zero, List.set_cons_succ]
        obtain rfl := hv
        refine dagT_told (by kernel_rfl) ?_ ?_
        · intro w6 hC hF
          refine Gives.call (by go_simp) (right_any r w6) ?_
          rintro e w' ⟨rfl, hk⟩
          exact ⟨_, rfl, hC.trans' hk, hk, by rw [hrt]; rfl⟩
        intro v w6 hC hF hv
        clear hC hF
        simp only [Act.put, List.setIfInBounds_toArray, List.set_cons_zero, List.set_cons_succ]
        obtain rfl := hv
        refine dagT_pure rfl ?_
        go_big_quiet_step (fail)
        refine dagT_on ?_
        refine dagT_pure rfl ?_
        go_big_quiet_step (fail)
        refine dagT_on ?_
        refine dagT_told (by kernel_rfl) ?_ ?_
        · intro w6 hC hF
          have hx0 := (hC.cell (World.block_lt_of_cell? w5 _ hr0)).trans hr0
          have hx1 := (hC.cell (World.block_lt_of_cell? w5 _ hr1)).trans hr1
          have hx2 := (hC.cell (World.block_lt_of_cell? w5 _ hr2)).trans hr2
          refine Gives.value (v := r.val) (w' := w6) (by unfold strV at hx1 hx2; unfold Rw.val strV; go_simp) ?_
          exact ⟨hC, Keep.refl _, rfl⟩
        intro v w6 hC hF hv
        clear hC hF
        simp only [Act.put, List.setIfInBounds_toArray, List.set_cons_zero, List.set_cons_succ]
        obtain rfl := hv
        refine dagT_told (by kernel_rfl) ?_ ?_
        · intro w6 hC hF
          refine Gives.call (by go_simp) (encode_any r hrt w6) ?_
          rintro e w' ⟨v', rfl, ho, hk⟩
          exact ⟨_, rfl, hC.trans' hk, hk, ho.slB⟩
        intro s3 w6 hC hF hs3
        clear hC hF
        simp only [Act.put, List.setIfInBounds_toArray, List.set_cons_zero, List.set_cons_succ]
        obtain ⟨a3, n3, c3, rfl⟩ := SlB.shape hs3
        refine dagT_told (by kernel_rfl) ?_ ?_
        · intro w6 hC hF
          refine Gives.toStr Try.underlying38 Try.underlying5 Try.underlying9 _ rfl rfl ((hF 5 (by kernel_rfl)).1 rfl) ?_
          exact ⟨hC, Keep.refl _, rfl⟩
        intro v w6 hC hF hv
        clear hC hF
        simp only [Act.put, List.setIfInBounds_toArray, List.set_cons_zero, List.set_cons_succ]
        obtain rfl := hv
        refine dagT_pure rfl ?_
        go_big_quiet_step (fail)
        refine dagT_on ?_
        refine dagT_told (by kernel_rfl) ?_ ?_
        · intro w6 hC hF
          refine Gives.toStr Try.underlying38 Try.underlying5 Try.underlying9 _ rfl rfl (hv0.keep (hkk5.trans' hC)) ?_
          exact ⟨hC, Keep.refl _, rfl⟩
        intro v w6 hC hF hv
        clear hC hF
        simp only [Act.put, List.setIfInBounds_toArray, List.set_cons_zero, List.set_cons_succ]
        obtain rfl := hv
        unfold strV
        refine dagT_pure rfl ?_
        go_big_quiet_step (fail)
        refine dagT_on ?_
        refine dagT_pure rfl ?_
        go_big_quiet_step (fail)
        refine dagT_on ?_
        refine dagT_done ?_
        intro w6 hC hF
        have hkk6 : Keep w w6 := hkk5.trans' hC
        have hzk := hC5.trans' hC
        have hc0 := (hzk.cell (p := ⟨w.heap.size, 0, none⟩) hzc.2.2.2.2).trans hzc.1
        have hc1 := (hzk.cell (p := ⟨w.heap.size, 1, none⟩) hzc.2.2.2.2).trans hzc.2.1
        have hc2 := (hzk.cell (p := ⟨w.heap.size, 2, none⟩) hzc.2.2.2.2).trans hzc.2.2.1
        have hf0 := (hzk.frozen (p := ⟨w.heap.size, 0, none⟩) hzc.2.2.2.2).trans (hzc.2.2.2.1 0)
        have hf1 := (hzk.frozen (p := ⟨w.heap.size, 1, none⟩) hzc.2.2.2.2).trans (hzc.2.2.2.1 1)
        have hf2 := (hzk.frozen (p := ⟨w.heap.size, 2, none⟩) hzc.2.2.2.2).trans (hzc.2.2.2.1 2)
        clear hC hF hzk hzc hzb b1 hC5 hkk5 hkk hC2 hkk3 hC3 hk4 hkw1 hv0 hcell1 hu1
        go_wp2
        exact bodyPost_ret (v := .tuple #[Rw.zero.val, .int .i64 9]) (by simp [results, Try.results22, go_sem, Rw.zero, Rw.val, strV, hc0, hc1, hc2]) rfl ⟨by rw [HD.out], Keep.setCell (Keep.setCell (Keep.setCell hkk6 (Nat.le_refl w.heap.size) _) (Nat.le_refl w.heap.size) _) (Nat.le_refl w.heap.size) _⟩
    · have hrt : r.right = false := by simpa using hrt
      have hdec : Rw.dec l = (Rw.zero, 9) := by
        unfold Rw.dec
        rw [if_neg (by rw [hl]; simp), if_neg hz, hof, if_neg (fun h => by rw [hrt] at h; exact absurd h.1 Bool.false_ne_true)]
      have HD := Lib.hid hdec
      clear hdec hof hz hl
      refine wp_region_dag' (C := fun w' => Keep w5 w') (R := Keep) [some (tV r.val), some (tV (.bool false)), none, none, some (tV r.val), some (tB r.slot), some (tV (strV r.slot)), none, some (tV (strV l)), none, none] (by kernel_rfl) (by kernel_rfl) (Keep.refl w5).drew ?_
      refine dagT_told (by kernel_rfl) ?_ ?_
      · intro w6 hC hF
        have hx0 := (hC.cell (World.block_lt_of_cell? w5 _ hr0)).trans hr0
        have hx1 := (hC.cell (World.block_lt_of_cell? w5 _ hr1)).trans hr1
        have hx2 := (hC.cell (World.block_lt_of_cell? w5 _ hr2)).trans hr2
        refine Gives.value (v := r.val) (w' := w6) (by unfold strV at hx1 hx2; unfold Rw.val strV; go_simp) ?_
        exact ⟨hC, Keep.refl _, rfl⟩
      intro v w6 hC hF hv
      clear hC hF
      simp only [Act.put, List.setIfInBounds_toArray, List.set_cons_zero, List.set_cons_succ]
      obtain rfl := hv
      refine dagT_told (by kernel_rfl) ?_ ?_
      · intro w6 hC hF
        refine Gives.call (by go_simp) (right_any r w6) ?_
        rintro e w' ⟨rfl, hk⟩
        exact ⟨_, rfl, hC.trans' hk, hk, by rw [hrt]; rfl⟩
      intro v w6 hC hF hv
      clear hC hF
      simp only [Act.put, List.setIfInBounds_toArray, List.set_cons_zero, List.set_cons_succ]
      obtain rfl := hv
      refine dagT_pure rfl ?_
      go_big_quiet_step (fail)
      refine dagT_on ?_
      refine dagT_pure rfl ?_
      go_big_quiet_step (fail)
      refine dagT_on ?_
      refine dagT_skip (by kernel_rfl) ?_
      simp only [Act.put, List.setIfInBounds_toArray, List.set_cons_zero, List.set_cons_succ]
      refine dagT_skip (by kernel_rfl) ?_
      simp only [Act.put, List.setIfInBounds_toArray, List.set_cons_zero, List.set_cons_succ]
      refine dagT_skip (by kernel_rfl) ?_
      simp only [Act.put, List.setIfInBounds_toArray, List.set_cons_zero, List.set_cons_succ]
      refine dagT_skip (by kernel_rfl) ?_
      simp only [Act.put, List.setIfInBounds_toArray, List.set_cons_zero, List.set_cons_succ]
      refine dagT_skip (by kernel_rfl) ?_
      simp only [Act.put, List.setIfInBounds_toArray, List.set_cons_zero, List.set_cons_succ]
      refine dagT_skip (by kernel_rfl) ?_
      simp only [Act.put, List.setIfInBounds_toArray, List.set_cons_zero, List.set_cons_succ]
      refine dagT_pure rfl ?_
      go_big_quiet_step (fail)
      refine dagT_on ?_
      refine dagT_done ?_
      intro w6 hC hF
      have hkk6 : Keep w w6 := hkk5.trans' hC
      have hzk := hC5.trans' hC
      have hc0 := (hzk.cell (p := ⟨w.heap.size, 0, none⟩) hzc.2.2.2.2).trans hzc.1
      have hc1 := (hzk.cell (p := ⟨w.heap.size, 1, none⟩) hzc.2.2.2.2).trans hzc.2.1
      have hc2 := (hzk.cell (p := ⟨w.heap.size, 2, none⟩) hzc.2.2.2.2).trans hzc.2.2.1
      have hf0 := (hzk.frozen (p := ⟨w.heap.size, 0, none⟩) hzc.2.2.2.2).trans (hzc.2.2.2.1 0)
      have hf1 := (hzk.frozen (p := ⟨w.heap.size, 1, none⟩) hzc.2.2.2.2).trans (hzc.2.2.2.1 1)
      have hf2 := (hzk.frozen (p := ⟨w.heap.size, 2, none⟩) hzc.2.2.2.2).trans (hzc.2.2.2.1 2)
      clear hC hF hzk hzc hzb b1 hC5 hkk5 hkk hC2 hkk3 hC3 hk4 hkw1 hv0 hcell1 hu1
      go_wp2
      exact bodyPost_ret (v := .tuple #[Rw.zero.val, .int .i64 9]) (by simp [results, Try.results22, go_sem, Rw.zero, Rw.val, strV, hc0, hc1, hc2]) rfl ⟨by rw [HD.out], Keep.setCell (Keep.setCell (Keep.setCell hkk6 (Nat.le_refl w.heap.size) _) (Nat.le_refl w.heap.size) _) (Nat.le_refl w.heap.size) _⟩

theorem decode_any (v : Value) (l : List UInt8) (w : World) (hv : SlB w v l) :
    Calls Try.prog 22 #[v] w fun e w' => e = .returned (.tuple #[(Rw.dec l).1.val, .int .i64 (Rw.dec l).2]) ∧ Keep w w' := by
  by_cases hl : l.length = 40
  · exact decode_main v l w hv hl
  · have hd : Rw.dec l = (Rw.zero, 9) := by unfold Rw.dec; rw [if_pos hl]
    rw [hd]
    exact decode_size v l w hv hl
end Go.Proofs.Ytdnmddfnlkaahaa
