/- Values of many cells: loaded, stored, laid, copied. -/
import Derived.Test.YthknhonpcmneaaaTell
import Derived.Test.YthknhonpcmneaaaSlK
import Derived.Laws.CopyOwn
namespace Go.Proofs.Ythknhonpcmneaaa
open Go Go.RowKit
attribute [local irreducible] Go.wpQuiet

/-- the closed facts on a struct or an array of k cells -/
structure BigOk (P : Program) (t : TypeId) (k : Nat) (zs : List Value) : Prop where
  hu : (∃ fs, P.underlying t = some (.struct fs)) ∨ (∃ n e, P.underlying t = some (.array n e))
  hi : ∃ i, P.info? t = some i ∧ i.size = k ∧ ∃ z, i.zero = some z ∧ z.cells = zs.toArray
theorem BigOk.of {P : Program} {t : TypeId} {k : Nat} {zs : List Value} (hu : (∃ fs, P.underlying t = some (.struct fs)) ∨ (∃ n e, P.underlying t = some (.array n e)))
    (h : (P.info? t).map (fun i => (i.size, i.zero.map (·.cells))) = some (k, some zs.toArray)) : BigOk P t k zs := by
  refine ⟨hu, ?_⟩
  cases hi : P.info? t with
  | none => rw [hi] at h; cases h
  | some i =>
    rw [hi] at h
    simp only [Option.map_some, Option.some.injEq, Prod.mk.injEq] at h
    obtain ⟨h1, h2⟩ := h
    cases hz : i.zero with
    | none => rw [hz] at h2; cases h2
    | some z =>
      rw [hz] at h2
      simp only [Option.map_some, Option.some.injEq] at h2
      exact ⟨i, rfl, h1, z, hz, h2⟩
theorem BigOk.agg {P : Program} {t : TypeId} {k : Nat} {zs : List Value} (B : BigOk P t k zs) (w : World) : (isAgg t).run P w = .ok true w := by
  unfold isAgg
  rcases B.hu with ⟨fs, h⟩ | ⟨n, e, h⟩ <;> simp [run_underlying h]
theorem BigOk.sizeOf {P : Program} {t : TypeId} {k : Nat} {zs : List Value} (B : BigOk P t k zs) (w : World) : (sizeOf t).run P w = .ok k w := by
  obtain ⟨i, hi, hs, _⟩ := B.hi
  simp [Go.sizeOf, typeInfo, hi, hs]

theorem run_loadBig {P : Program} {t : TypeId} {k : Nat} {zs : List Value} (B : BigOk P t k zs) (w : World) (g off : Nat) (cs : List Value) (hk : cs.length = k) (hc : ∀ j v, cs[j]? = some v → w.cell? ⟨g, off + j, none⟩ = some v) :
    (Instr.loadAt t (.pointer (some ⟨g, off, none⟩))).run P w = .ok (.agg cs.toArray) w := by
  have hl := run_loadCells_list (P := P) (w := w) ⟨g, off, none⟩ cs (fun j v hj => by
    have hadd : (⟨g, off, none⟩ : Addr).add j = ⟨g, off + j, none⟩ := by unfold Addr.add; split <;> simp_all
    rw [hadd]
    exact hc j v hj)
  rw [hk] at hl
  simp [Instr.loadAt, Instr.sureAddr, loadVar, B.agg, B.sizeOf, hl]
theorem exec_loadBig {P : Program} {t : TypeId} {k : Nat} {zs : List Value} (B : BigOk P t k zs) {o : Oper} {a : Act} (x : Operand) (ho : o.op = .load t x) {g off : Nat} (hx : a.eval x = .pointer (some ⟨g, off, none⟩)) (w : World) (cs : List Value) (hk : cs.length = k) (hc : ∀ j v, cs[j]? = some v → w.cell? ⟨g, off + j, none⟩ = some v) :
    (execOp a.eval o).run P w = .ok (.value (.agg cs.toArray)) w := by
  unfold execOp
  simp only [ho, hx, Sem.run_bind, run_loadBig B w g off cs hk hc, Result.andThen_ok]
  rfl
theorem Gives.loadBig {P : Program} {t : TypeId} {k : Nat} {zs : List Value} (B : BigOk P t k zs) {o : Oper} {a : Act} {w : World} {S : Value → World → Prop} (x : Operand) (ho : o.op = .load t x) {g off : Nat} (hx : a.eval x = .pointer (some ⟨g, off, none⟩)) (cs : List Value) (hk : cs.length = k) (hc : ∀ j v, cs[j]? = some v → w.cell? ⟨g, off + j, none⟩ = some v)
    (h : S (.agg cs.toArray) w) : Gives P o a w S := by
  refine Gives.value (v := .agg cs.toArray) (w' := w) ?_ h
  unfold execOp
  simp only [ho, hx, Sem.run_bind, run_loadBig B w g off cs hk hc, Result.andThen_ok]
  rfl
theorem run_storeBig {P : Program} {t : TypeId} {k : Nat} {zs : List Value} (B : BigOk P t k zs) (w : World) (g off : Nat) (cur : Array Value) (T : TypeId) (hg : w.heap[g]? = some (.cells cur T)) (cs : List Value) (hk : cs.length = k) (hfit : off + k ≤ cur.size) (h1 : ∀ v ∈ cs, v.oneCell' = true) :
    (Instr.storeAt t (.pointer (some ⟨g, off, none⟩)) (.agg cs.toArray)).run P w = .ok () (w.setRow g (cur.toList.take off ++ cs ++ cur.toList.drop (off + k)).toArray) := by
  have hst := run_storeCells_at P g off T cs 0 cur w hg (by omega) h1
  simp only [Nat.add_zero, hk] at hst
  simp [Instr.storeAt, Instr.sureAddr, storeVar, Value.cells, B.sizeOf, hk, hst]
theorem Gives.storeBig {P : Program} {t : TypeId} {k : Nat} {zs : List Value} (B : BigOk P t k zs) {o : Oper} {a : Act} {w : World} {S : Value → World → Prop} (x y : Operand) (ho : o.op = .store t x y) {g off : Nat} (hx : a.eval x = .pointer (some ⟨g, off, none⟩)) (cs : List Value) (hy : a.eval y = .agg cs.toArray) {cur : Array Value} {T : TypeId} (hg : w.heap[g]? = some (.cells cur T)) (hk : cs.length = k) (hfit : off + k ≤ cur.size) (h1 : ∀ v ∈ cs, v.oneCell' = true)
    (h : S undef (w.setRow g (cur.toList.take off ++ cs ++ cur.toList.drop (off + k)).toArray)) : Gives P o a w S := by
  refine Gives.skip (w' := _) ?_ h
  unfold execOp
  simp only [ho, hx, hy, Sem.run_bind, run_storeBig B w g off cur T hg cs hk hfit h1, Result.andThen_ok]
  rfl
theorem run_allocBig {P : Program} {t : TypeId} {k : Nat} {zs : List Value} (B : BigOk P t k zs) (w : World) :
    (Instr.alloc t true (.tuple #[])).run P w = .ok (.pointer (some ⟨w.heap.size, 0, none⟩)) (w.alloc (.cells zs.toArray t)) := by
  obtain ⟨i, hi, hs, z, hz, hzs⟩ := B.hi
  simp [Instr.alloc, zeroValue, typeInfo, hi, hz, newVar, newRow, hzs]
theorem Gives.allocBig {P : Program} {t : TypeId} {k : Nat} {zs : List Value} (B : BigOk P t k zs) {o : Oper} {a : Act} {w : World} {S : Value → World → Prop} (ho : o.op = .alloc t)
    (h : S (.pointer (some ⟨w.heap.size, 0, none⟩)) (w.alloc (.cells zs.toArray t))) : Gives P o a w S := by
  refine Gives.value (v := .pointer (some ⟨w.heap.size, 0, none⟩)) (w' := w.alloc (.cells zs.toArray t)) ?_ h
  unfold execOp
  simp only [ho, Sem.run_bind, run_allocBig B w, Result.andThen_ok]
  rfl

theorem fold_cells (cs : List Value) : ∀ (j : Nat) (cells : Array Value), j + cs.length ≤ cells.size → ((cs.zipIdx j).foldl (fun a (x : Value × Nat) => a.setIfInBounds (0 + x.2) x.1) cells) = (cells.toList.take j ++ cs ++ cells.toList.drop (j + cs.length)).toArray := by
  induction cs with
  | nil => intro j cells h; simp
  | cons c cs ih =>
    intro j cells h
    simp only [List.zipIdx_cons, List.foldl_cons]
    simp only [List.length_cons] at h
    rw [ih (j + 1) _ (by simp; omega)]
    congr 1
    rw [Array.toList_setIfInBounds, Nat.zero_add]
    have h1 : (cells.toList.set j c).take (j + 1) = cells.toList.take j ++ [c] := by
      rw [List.take_set, List.take_add_one, List.getElem?_eq_getElem (by simp; omega), List.set_append_right _ _ (by simp; omega)]
      have e : j - (cells.toList.take j).length = 0 := by simp; omega
      rw [e]
      rfl
    have h2 : (cells.toList.set j c).drop (j + 1 + cs.length) = cells.toList.drop (j + (cs.length + 1)) := by
      rw [List.drop_set_of_lt (by omega)]
      congr 1
      omega
    rw [h1, h2, List.length_cons, List.append_assoc, List.append_assoc]
    simp
theorem run_buildSliceBig {P : Program} {t st : TypeId} {k : Nat} {zs : List Value} (B : BigOk P t k zs) (hst : P.underlying st = some (.slice t)) (w : World) (cs : List Value) (hk : cs.length = k) (hz : zs.length = k) (h0 : 0 < k) (hs : k ≤ 1000) :
    (Instr.buildSlice st 1 #[(0, .agg cs.toArray)]).run P w = .ok (.slice (some ⟨w.heap.size, 0, none⟩) 1 1) (w.alloc (.cells cs.toArray t)) := by
  obtain ⟨i, hi, hsz, z, hzz, hzs⟩ := B.hi
  have hne : k ≠ 0 := by omega
  have hle : ¬ (2 ^ 24 < k) := by omega
  have hf := fold_cells cs 0 ((Array.range k).map (z.cells[· % z.cells.size]!)) (by simp; omega)
  have hdr : ((Array.range k).map (z.cells[· % z.cells.size]!)).toList.drop (0 + cs.length) = [] := List.drop_eq_nil_of_le (by simp; omega)
  rw [hdr] at hf
  simp only [List.take_zero, List.nil_append, List.append_nil] at hf
  have hcz : cs.toArray.size = k := by simp [hk]
  have hca : (Value.agg cs.toArray).cells = cs.toArray := rfl
  simp [Instr.buildSlice, run_underlying hst, Go.sizeOf, typeInfo, hi, hsz, hle, hne, zeroValue, hzz, Instr.fill, hca, hk, newRow]
  simp only [Nat.zero_add] at hf
  rw [hf]
theorem Gives.buildSliceBig {P : Program} {t st : TypeId} {k : Nat} {zs : List Value} (B : BigOk P t k zs) (hst : P.underlying st = some (.slice t)) {o : Oper} {a : Act} {w : World} {S : Value → World → Prop} (x : Operand) (ho : o.op = .buildSlice st 1 #[(0, x)]) (cs : List Value) (hx : a.eval x = .agg cs.toArray) (hk : cs.length = k) (hz : zs.length = k) (h0 : 0 < k) (hs : k ≤ 1000)
    (h : S (.slice (some ⟨w.heap.size, 0, none⟩) 1 1) (w.alloc (.cells cs.toArray t))) : Gives P o a w S := by
  refine Gives.value (v := .slice (some ⟨w.heap.size, 0, none⟩) 1 1) (w' := w.alloc (.cells cs.toArray t)) ?_ h
  unfold execOp
  have e : #[((0 : Nat), x)].map (fun (y : Nat × Operand) => (y.1, a.eval y.2)) = #[(0, .agg cs.toArray)] := by simp [hx]
  simp only [ho, e, Sem.run_bind, run_buildSliceBig B hst w cs hk hz h0 hs, Result.andThen_ok]
  rfl

/-! ### Rows that are set -/
theorem row_size (w : World) (g : Nat) (cs : Array Value) : (w.setRow g cs).heap.size = w.heap.size := by simp [World.setRow]
theorem row_but (w : World) (g : Nat) (cs : Array Value) : w.grownBy (w.setRow g cs) (some g) := ⟨rfl, rfl, rfl, Nat.le_of_eq (row_size w g cs).symm, fun j _ hj => setRow_other w g j _ (fun e => hj (by rw [e]))⟩

/-- copy onto a part of a block, whatever the block's type -/
theorem Gives.copyRow {P : Program} {t e : TypeId} {z : Value} {bytes : Nat} (E : ElemOk P t e z bytes) {o : Oper} {a : Act} {w : World} {S : Value → World → Prop} (d s : Operand)
    (ho : o.op = .call { callee := .builtin .copy, args := #[d, s], argTypes := #[t, t] }) {g off dLen dCap : Nat} {cur : Array Value} {T : TypeId} {ys : List Value} {u : Value} (hd : a.eval d = .slice (some ⟨g, off, none⟩) dLen dCap) (hs : a.eval s = u)
    (hu : Sl w u ys) (h1 : ∀ y ∈ ys, y.oneCell' = true) (hg : w.heap[g]? = some (.cells cur T)) (hfit : off + dLen ≤ cur.size)
    (h : S (.int .i64 (Nat.min ys.length dLen)) (w.setRow g (cur.toList.take off ++ ys.take dLen ++ cur.toList.drop (off + (ys.take dLen).length)).toArray)) : Gives P o a w S := by
  obtain ⟨i, hi, hz, hs1, hb⟩ := E.hi
  obtain ⟨ao, cp, rfl, hmx, hcap, hc⟩ := hu
  by_cases h0 : Nat.min ys.length dLen = 0
  · have hr := run_copy_none (P := P) w t t o.type e (some ⟨g, off, none⟩) ao dLen dCap ys.length cp E.ht (by rw [hi]; simp [hs1]) h0
    have hnil : ys.take dLen = [] := by
      apply List.eq_nil_of_length_eq_zero
      rw [List.length_take, Nat.min_comm]
      exact h0
    rw [hnil, h0] at h
    simp only [List.append_nil, List.length_nil, Nat.add_zero, List.take_append_drop, Array.toArray_toList] at h
    rw [setRow_self w g cur T (0, 0) hg] at h
    refine Gives.value (v := .int .i64 (0 : Nat)) (w' := w) ?_ h
    unfold execOp
    simp only [ho, resolve, invoke, builtin, Sem.run_bind, Sem.run_pure, Result.andThen_ok, List.map_toArray, List.map_cons, List.map_nil, hd, hs, hr]
    rfl
  · have hpos : 0 < ys.length ∧ 0 < dLen := by
      have : Nat.min ys.length dLen ≤ ys.length := Nat.min_le_left _ _
      have : Nat.min ys.length dLen ≤ dLen := Nat.min_le_right _ _
      omega
    obtain ⟨b, off2, rfl, _⟩ := hc 0 hpos.1
    have hlen : (ys.take dLen).length = Nat.min ys.length dLen := by rw [List.length_take]; exact Nat.min_comm _ _
    have hle : Nat.min ys.length dLen ≤ dLen := Nat.min_le_right _ _
    have hr := run_copy_row (P := P) w t t o.type e g off dLen dCap ⟨b, off2, none⟩ ys.length cp cur T (ys.take dLen) E.ht (by rw [hi]; simp [hs1]) hg hlen (fun j v hj => by
      obtain ⟨hjl, hjy⟩ := List.getElem?_eq_some_iff.1 hj
      rw [List.length_take] at hjl
      obtain ⟨b', off', ha, hcell⟩ := hc j (by omega)
      cases ha
      rw [List.getElem_take] at hjy
      rw [hjy] at hcell
      have hadd : (⟨b, off2, none⟩ : Addr).add j = ⟨b, off2 + j, none⟩ := by unfold Addr.add; split <;> simp_all
      rw [hadd]
      exact hcell) (by rw [hlen]; omega) (fun y hy => h1 y (List.mem_of_mem_take hy))
    refine Gives.value (v := .int .i64 (Nat.min ys.length dLen)) ?_ h
    unfold execOp
    rw [show goInt (ys.take dLen).length = .int .i64 (Nat.min ys.length dLen) by rw [hlen]; rfl] at hr
    simp only [ho, resolve, invoke, builtin, Sem.run_bind, Sem.run_pure, Result.andThen_ok, List.map_toArray, List.map_cons, List.map_nil, hd, hs, hr]
end Go.Proofs.Ythknhonpcmneaaa
