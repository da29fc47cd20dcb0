/- Record of a seed: the image's bytes and the dirty numbers that are made and laid into a record. -/
import Derived.Test.YtlihieefjlpadaaFit06
namespace Go.Proofs.Ytlihieefjlpadaa
open Go Go.RowKit
attribute [local irreducible] Go.wpQuiet

theorem run_makeU (w : World) : (Instr.makeSlice 22 (.int .i64 6) (.int .i64 6)).run Try.prog w = .ok (.slice (some ⟨w.heap.size, 0, none⟩) 6 6) (w.alloc (.cells ((List.replicate 6 0).map U).toArray 46)) := by
  obtain ⟨i, hi, hz, hs, hb⟩ := elemU.hi
  have hr := run_make (P := Try.prog) w 22 46 i (.int .u64 0) elemU.ht hi hz .i64 .i64 6 6 (by omega) (Int.le_refl _) (by rw [hb]; omega) (by omega)
  have hm : madeCells (Value.int .u64 0).cells 6 = ((List.replicate 6 0).map U).toArray := by
    apply Array.ext'
    apply List.ext_getElem
    · simp [madeCells]
    · intro i h1 h2
      have hr6 : ∀ (j : Nat) (hj : j < ((List.replicate 6 0).map U).length), ((List.replicate 6 0).map U)[j] = U 0 := fun j hj => by rw [List.getElem_map, List.getElem_replicate]
      show _ = ((List.replicate 6 0).map U)[i]
      rw [hr6 i h2]
      simp [madeCells, Value.cells, U, Nat.mod_one]
  rw [hs, Nat.mul_one, show (6 : Int).toNat = 6 from rfl, hm] at hr
  exact hr

theorem splice_dirty (d : List Nat) : splice ((List.replicate 6 0).map U) 0 ((d.map U).take 6) = (d.take 6 ++ List.replicate (6 - d.length) 0).map U := by
  unfold splice
  rw [List.take_zero, List.nil_append, List.map_append, ← List.map_take, List.length_map, List.length_take, ← List.map_drop, List.drop_replicate]
  congr 3
  omega

theorem run_copyB {P : Program} {t e ty : TypeId} {z : Value} {bytes : Nat} (E : ElemOk P t e z bytes) {w : World} {base g n cap : Nat} {xs ys : List Value} {u : Value}
    (hu : Sl w u ys) (h1 : ∀ y ∈ ys, y.oneCell' = true) (h0 : 0 < ys.length) (hn0 : 0 < n) (hown : Own w base e (.slice (some ⟨g, 0, none⟩) n cap) xs) :
    ∃ w', (Builtin.copy_ #[t, t] ty #[.slice (some ⟨g, 0, none⟩) n cap, u]).run P w = .ok (.int .i64 (Nat.min ys.length n)) w' ∧ Own w' base e (.slice (some ⟨g, 0, none⟩) n cap) (splice xs 0 (ys.take n)) ∧ But w w' g := by
  obtain ⟨i, hi, hz, hs1, hb⟩ := E.hi
  obtain ⟨cur, hg, hb2, hn, hnc, hm, hcs, ht⟩ := hown.row
  obtain ⟨ao, cp, rfl, hmx, hcap, hc⟩ := hu
  obtain ⟨b, off2, rfl, _⟩ := hc 0 h0
  have hlen : (ys.take n).length = Nat.min ys.length n := by rw [List.length_take]; exact Nat.min_comm _ _
  have hle : Nat.min ys.length n ≤ n := Nat.min_le_right _ _
  have hr := run_copy_row (P := P) w t t ty e g 0 n cap ⟨b, off2, none⟩ ys.length cp cur e (ys.take n) E.ht (by rw [hi]; simp [hs1]) hg hlen (fun j v hj => by
    obtain ⟨hjl, hjy⟩ := List.getElem?_eq_some_iff.1 hj
    rw [List.length_take] at hjl
    obtain ⟨b', off', ha, hcell⟩ := hc j (by omega)
    cases ha
    rw [List.getElem_take] at hjy
    rw [hjy] at hcell
    have hadd : (⟨b, off2, none⟩ : Addr).add j = ⟨b, off2 + j, none⟩ := by unfold Addr.add; split <;> simp_all
    rw [hadd]
    exact hcell) (by rw [hlen]; omega) (fun y hy => h1 y (List.mem_of_mem_take hy))
  have hsp := hown.spliced hg 0 (ys.take n) (by rw [hlen]; omega)
  rw [hlen] at hr hsp
  exact ⟨_, hr, hsp, ⟨rfl, rfl, rfl, by simp [World.setRow], fun j _ hj => setRow_other w g j _ (fun e => hj (by rw [e]))⟩⟩

theorem made_dirty {w w2 : World} {g : Nat} {r : Rc} {dv : Value} {da : Option Addr} {dc : Nat} {d : List Nat} (hk : Keep w w2) (hng : w.heap.size ≤ g) (hA : RcAt w2 g r dv) (hd : SlU w (.slice da d.length dc) d) (h0 : 0 < d.length) :
    ∃ w3 w5, (Instr.makeSlice 22 (.int .i64 6) (.int .i64 6)).run Try.prog w2 = .ok (.slice (some ⟨w2.heap.size, 0, none⟩) 6 6) w3 ∧ RcAt w3 g r dv ∧
      RcAt (w3.setCell ⟨g, 7, none⟩ (.slice (some ⟨w2.heap.size, 0, none⟩) 6 6)) g r (.slice (some ⟨w2.heap.size, 0, none⟩) 6 6) ∧
      (∀ (b : Nat) (o : Obj), b ≠ g → w2.heap[b]? = some o → (w3.setCell ⟨g, 7, none⟩ (.slice (some ⟨w2.heap.size, 0, none⟩) 6 6)).heap[b]? = some o) ∧
      (Builtin.copy_ #[22, 22] 3 #[.slice (some ⟨w2.heap.size, 0, none⟩) 6 6, .slice da d.length dc]).run Try.prog (w3.setCell ⟨g, 7, none⟩ (.slice (some ⟨w2.heap.size, 0, none⟩) 6 6)) = .ok (.int .i64 (Nat.min d.length 6)) w5 ∧
      RcAt w5 g r (.slice (some ⟨w2.heap.size, 0, none⟩) 6 6) ∧ (∀ (b : Nat) (o : Obj), b ≠ g → w2.heap[b]? = some o → w5.heap[b]? = some o) ∧ Keep w w5 ∧
      SlU w5 (.slice (some ⟨w2.heap.size, 0, none⟩) 6 6) (d.take 6 ++ List.replicate (6 - d.length) 0) := by
  have hg2 : g < w2.heap.size := (Array.getElem?_eq_some_iff.1 hA).1
  have hs : (Own (w2.alloc (.cells ((List.replicate 6 0).map U).toArray 46)) w2.heap.size 46 (.slice (some ⟨w2.heap.size, 0, none⟩) 6 6) ((List.replicate 6 0).map U)) :=
    ⟨by simp, .inr ⟨w2.heap.size, 6, _, rfl, Nat.le_refl _, heap_alloc_new _ _, Nat.le_refl _, by decide, by simp, rfl⟩⟩
  have hmk := run_makeU w2
  have hk3 := Keep.alloc w2 (.cells ((List.replicate 6 0).map U).toArray 46)
  have hs3 : (w2.alloc (.cells ((List.replicate 6 0).map U).toArray 46)).heap.size = w2.heap.size + 1 := by simp
  generalize w2.alloc (.cells ((List.replicate 6 0).map U).toArray 46) = w3 at *
  have hb4 := But.setCell w3 g 7 (.slice (some ⟨w2.heap.size, 0, none⟩) 6 6)
  have hA4 := (hA.keep hk3).set7 (.slice (some ⟨w2.heap.size, 0, none⟩) 6 6)
  have hs4 := hs.kept hb4 (.inr (by intro e; simp only [Value.ownBlock, Option.some.injEq] at e; omega))
  have hk4 : Keep w (w3.setCell ⟨g, 7, none⟩ (.slice (some ⟨w2.heap.size, 0, none⟩) 6 6)) := (hk.trans' hk3).trans (hb4.below hng (Nat.le_trans hk.size hk3.size))
  obtain ⟨w5, hcp, ho5, hb5⟩ := run_copyB (P := Try.prog) (ty := 3) elemU (hd.keep hk4) (U_oneCell d) (by simpa using h0) (by omega) hs4
  rw [List.length_map] at hcp
  have hfar : ∀ (b : Nat) (o : Obj), b ≠ g → w2.heap[b]? = some o → (w3.setCell ⟨g, 7, none⟩ (.slice (some ⟨w2.heap.size, 0, none⟩) 6 6)).heap[b]? = some o := fun b o hb ho => hb4.at hb ((hk3.block b (Array.getElem?_eq_some_iff.1 ho).1).trans ho)
  have hsz4 : (w3.setCell ⟨g, 7, none⟩ (.slice (some ⟨w2.heap.size, 0, none⟩) 6 6)).heap.size = w2.heap.size + 1 := by rw [← hs3]; simp [World.setCell]
  refine ⟨w3, w5, hmk, hA.keep hk3, hA4, hfar, hcp, hb5.at (by omega) hA4, fun b o hb ho => hb5.at (by have := (Array.getElem?_eq_some_iff.1 ho).1; omega) (hfar b o hb ho), hk4.trans (hb5.below hk.size hk4.size), ?_⟩
  have := ho5.sl
  rw [splice_dirty] at this
  exact this

theorem SlU.butNe {w w' : World} {g h n c : Nat} {l : List Nat} (hs : SlU w (.slice (some ⟨h, 0, none⟩) n c) l) (hb : But w w' g) (hne : h ≠ g) : SlU w' (.slice (some ⟨h, 0, none⟩) n c) l := by
  obtain ⟨ao, cap, hv, hm, hcap, hc⟩ := hs
  refine ⟨ao, cap, hv, hm, hcap, fun i hi => ?_⟩
  obtain ⟨b, off, ha, hcell⟩ := hc i hi
  refine ⟨b, off, ha, ?_⟩
  have hlt := World.block_lt_of_cell? w _ hcell
  rw [World.cell?_of_block (w := w)]
  · exact hcell
  · refine hb.block _ hlt (fun e => ?_)
    subst ha
    simp only [Value.slice.injEq, Option.some.injEq, Addr.mk.injEq] at hv
    simp only [Option.some.injEq] at e
    omega
end Go.Proofs.Ytlihieefjlpadaa
