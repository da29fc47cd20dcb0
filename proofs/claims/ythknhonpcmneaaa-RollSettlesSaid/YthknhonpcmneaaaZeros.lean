/- append(v, make([]byte, n)...): n zeros behind what is owned. -/
import Derived.Test.YthknhonpcmneaaaMem
import Derived.Lib.AppendZerosOnto
namespace Go.Proofs.Ythknhonpcmneaaa
open Go.RowKit

theorem zeroCells_u8 (n : Nat) : (Builtin.zeroCells (Value.int .u8 0).cells n).toList = (List.replicate n (0 : UInt8)).map B := by
  apply List.ext_getElem
  · simp [Builtin.zeroCells, Value.cells]
  · intro i h1 h2
    simp [Builtin.zeroCells, Value.cells, B, Nat.mod_one]

theorem replicate_B (n : Nat) : ∀ y ∈ (List.replicate n (0 : UInt8)).map B, y.oneCell' = true := B_oneCell _

theorem run_append_zerosB {P : Program} {t tn e : TypeId} {kn : IntKind} (E : ElemOk P t e (.int .u8 0) 1) (htn : P.underlying tn = some (.int kn)) (ty : TypeId) {w : World} {base : Nat} {v : Value} {l : List UInt8}
    (hown : Own w base e v (l.map B)) (h0 : 0 < l.length) (n : Nat) (hlen : l.length + n ≤ 140737488355328) (hbase : base ≤ w.heap.size) :
    ∃ v' w', (Builtin.append_ #[t, tn] ty #[v, .int .i64 n]).run P w = .ok v' w' ∧ Own w' base e v' ((l ++ List.replicate n 0).map B) ∧ w.grownBy w' v.ownBlock := by
  obtain ⟨i, hi, hz, hs, hb⟩ := E.hi
  have hxl : (l.map B).length = l.length := List.length_map _
  have hown0 := hown
  rcases hown.2 with ⟨_, h1⟩ | ⟨g, cap, cur, rfl, hbg, hg, hnc, hcm, hcs, htake⟩
  · rw [hxl] at h1; omega
  · rw [hxl] at hnc htake ⊢
    rw [hxl] at hown0
    rw [Nat.mul_one] at hcs htake
    have hw : IntKind.i64.wrap (n : Int) = n := by rw [IntKind.wrap_i64]; omega
    have hneg : ¬ ((n : Int) < 0) := by omega
    have h48i : ¬ (281474976710656 < (n : Int)) := by omega
    have hzl : (Builtin.zeroCells (Value.int .u8 0).cells n).toList = (List.replicate n (0 : UInt8)).map B := zeroCells_u8 n
    have hzs : (Builtin.zeroCells (Value.int .u8 0).cells n).size = n := by
      have := congrArg List.length hzl
      simpa using this
    by_cases hn : n = 0
    · subst hn
      refine ⟨.slice (some ⟨g, 0, none⟩) l.length cap, w, ?_, by simpa using hown0, ⟨rfl, rfl, rfl, Nat.le_refl _, fun _ _ _ => rfl⟩⟩
      simp [Builtin.append_, run_underlying E.ht, run_underlying htn, sizeOf, typeInfo, hi, hs, asInt, asIntOf, IntKind.wrap_i64, hnc, storeCells]
    · by_cases hroom : l.length + n ≤ cap
      · have hst := run_storeCells_at P g l.length e ((List.replicate n (0 : UInt8)).map B) 0 cur w hg (by simp; omega) (replicate_B n)
        simp only [Nat.add_zero, List.length_map, List.length_replicate, List.map_replicate, List.append_assoc] at hst
        refine ⟨.slice (some ⟨g, 0, none⟩) (l.length + n) cap, w.setRow g (cur.toList.take l.length ++ (List.replicate n (B 0) ++ cur.toList.drop (l.length + n))).toArray, ?_, ?_, ⟨rfl, rfl, rfl, by simp, fun k _ hk => setRow_other w g k _ (fun e => hk (by simp [Value.ownBlock, e]))⟩⟩
        · simp [Builtin.append_, run_underlying E.ht, run_underlying htn, sizeOf, typeInfo, zeroValue, hi, hz, hs, hb, asInt, asIntOf, hw, hneg, hn, h48i, hroom, Addr.add_lit, hzl, hst]
        · refine ⟨by simp, .inr ⟨g, cap, _, by simp, hbg, setRow_heap w g cur _ e _ hg, by simpa using hroom, hcm, ?_, ?_⟩⟩
          · simp; omega
          · simp only [List.length_map, List.length_append, List.length_replicate, Nat.mul_one]
            rw [htake, List.map_append, List.map_replicate, ← List.append_assoc]
            exact List.take_left' (by simp)
      · have hold : (Builtin.firstCells i.size l.length (.slice (some ⟨g, 0, none⟩) l.length cap)).run P w.drew = .ok ((l.map B)).toArray w.drew := by
          refine run_firstCells_some (P := P) w.drew i.size l.length ⟨g, 0, none⟩ l.length cap (l.map B) (by rw [hs]; simp) ?_
          intro j u hu
          obtain ⟨hjl, hju⟩ := List.getElem?_eq_some_iff.1 hu
          have hadd : (⟨g, 0, none⟩ : Addr).add j = ⟨g, j, none⟩ := by unfold Addr.add; split <;> simp_all
          rw [hadd, ← hju]
          exact hown0.cellOf j hjl
        have hr := Lib.run_append_grow_zeros (P := P) w t tn ty e i (.int .u8 0) .i64 kn E.ht htn hi hz (some ⟨g, 0, none⟩) l.length cap (l.map B) hold n (by omega) (by omega) (by omega) (by omega) (by rw [hb]; omega) (growslice_fits (by omega) (by rw [hb]; omega))
        have hge := grownCap_ge w (l.length + n) cap e
        have hle := grownCap_le_maxLen w (l.length + n) cap e (by unfold maxLen; omega)
        refine ⟨_, _, hr, ⟨by simp, .inr ⟨w.heap.size, grownCap w (l.length + n) cap e, _, by simp, hbase, heap_alloc_new w.drew _, by simpa using hge, hle, ?_, ?_⟩⟩, ⟨rfl, rfl, rfl, by simp, fun k hk _ => Below.heap_alloc w.drew _ k hk⟩⟩
        · rw [Array.size_append, Array.size_append, hzs, size_zeroCells]
          simp [Value.cells]
          omega
        · rw [Array.toList_append, Array.toList_append, hzl, ← List.map_append]
          exact List.take_left' (by simp)

/-- the operation -/
theorem Gives.appendZeros {P : Program} {t tn e : TypeId} {kn : IntKind} (E : ElemOk P t e (.int .u8 0) 1) (htn : P.underlying tn = some (.int kn)) {o : Oper} {a : Act} {w : World} {S : Value → World → Prop} (s x : Operand)
    (ho : o.op = .call { callee := .builtin .append, args := #[s, x], argTypes := #[t, tn] }) {base : Nat} {v : Value} {l : List UInt8} (n : Nat) {ni : Int} (hni : ni = n) (hs : a.eval s = v) (hx : a.eval x = .int .i64 ni)
    (hown : Own w base e v (l.map B)) (h0 : 0 < l.length) (hlen : l.length + n ≤ 140737488355328) (hbase : base ≤ w.heap.size)
    (h : ∀ v' w', Own w' base e v' ((l ++ List.replicate n 0).map B) → w.grownBy w' v.ownBlock → S v' w') : Gives P o a w S := by
  subst hni
  obtain ⟨v', w', hr, h2, h3⟩ := run_append_zerosB E htn o.type hown h0 n hlen hbase
  refine Gives.value (v := v') (w' := w') ?_ (h v' w' h2 h3)
  unfold execOp
  simp only [ho, resolve, invoke, builtin, Sem.run_bind, Sem.run_pure, Result.andThen_ok, List.map_toArray, List.map_cons, List.map_nil, hs, hx, hr]

/-- n zeros laid -/
def zB (n : Nat) : List UInt8 := List.replicate n 0
theorem zB_length (n : Nat) : (zB n).length = n := List.length_replicate

theorem made_u8 (n : Nat) : madeCells (Value.int .u8 0).cells n = ((zB n).map B).toArray := by
  apply Array.ext'
  apply List.ext_getElem
  · simp [madeCells, zB]
  · intro i h1 h2
    simp [madeCells, Value.cells, B, zB, Nat.mod_one]

theorem run_makeB {P : Program} {t e : TypeId} (E : ElemOk P t e (.int .u8 0) 1) (w : World) (n : Nat) (hn : n ≤ 140737488355328) :
    (Instr.makeSlice t (.int .i64 n) (.int .i64 n)).run P w = .ok (.slice (some ⟨w.heap.size, 0, none⟩) n n) (w.alloc (.cells ((zB n).map B).toArray e)) := by
  obtain ⟨i, hi, hz, hs, hb⟩ := E.hi
  have hr := run_make (P := P) w t e i (.int .u8 0) E.ht hi hz .i64 .i64 n n (by omega) (Int.le_refl _) (by rw [hb]; omega) (by omega)
  rw [hs, Nat.mul_one, Int.toNat_natCast, made_u8] at hr
  exact hr

theorem Own.made (w : World) (e : TypeId) (base n : Nat) (hb : base ≤ w.heap.size) (hn : n ≤ 140737488355328) : Own (w.alloc (.cells ((zB n).map B).toArray e)) base e (.slice (some ⟨w.heap.size, 0, none⟩) n n) ((zB n).map B) := by
  unfold Own
  rw [List.length_map, zB_length]
  refine ⟨by simp [zB_length], .inr ⟨w.heap.size, n, _, rfl, hb, heap_alloc_new w _, Nat.le_refl _, by unfold maxLen; omega, by simp [zB_length], ?_⟩⟩
  rw [Nat.mul_one]
  exact List.take_of_length_le (by simp [zB_length])

theorem Gives.makeB {P : Program} {t e : TypeId} (E : ElemOk P t e (.int .u8 0) 1) {o : Oper} {a : Act} {w : World} {S : Value → World → Prop} (x y : Operand) (n : Nat)
    (ho : o.op = .makeSlice t x y) (hx : a.eval x = .int .i64 n) (hy : a.eval y = .int .i64 n) (hn : n ≤ 140737488355328)
    (h : S (.slice (some ⟨w.heap.size, 0, none⟩) n n) (w.alloc (.cells ((zB n).map B).toArray e))) : Gives P o a w S := by
  have hr := run_makeB E w n hn
  refine Gives.value ?_ h
  unfold execOp
  simp only [ho, Sem.run_bind, hx, hy, hr, Result.andThen_ok]
  rfl
end Go.Proofs.Ythknhonpcmneaaa
