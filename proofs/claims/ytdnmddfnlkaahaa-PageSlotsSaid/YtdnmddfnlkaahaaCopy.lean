/- 'copy' onto a slice of the call's own: from a string, from a slice. -/
import Derived.Test.YtdnmddfnlkaahaaZeros
import Derived.Test.YtdnmddfnlkaahaaTell
import Derived.Laws.CopyOwn
import Derived.Lib.BufferWrite
namespace Go.Proofs.Ytdnmddfnlkaahaa
open Go Go.RowKit

/-- the whole of a slice of the call's own: its row -/
theorem Own.row {w : World} {base : Nat} {e : TypeId} {g n cap : Nat} {xs : List Value} (h : Own w base e (.slice (some ⟨g, 0, none⟩) n cap) xs) :
    ∃ cur, w.heap[g]? = some (.cells cur e (0, 0)) ∧ base ≤ g ∧ n = xs.length ∧ n ≤ cap ∧ cap ≤ maxLen ∧ cur.size = cap ∧ cur.toList.take n = xs := by
  rcases h.2 with ⟨h1, _⟩ | ⟨g', cap', cur, hv, hb, hg, hn, hm, hcs, ht⟩
  · cases h1
  · simp only [Value.slice.injEq, Option.some.injEq, Addr.mk.injEq, and_true] at hv
    obtain ⟨rfl, rfl, rfl⟩ := hv
    exact ⟨cur, hg, hb, rfl, hn, hm, by simpa using hcs, by simpa using ht⟩

/-- laid over -/
theorem Own.spliced {w : World} {base : Nat} {e : TypeId} {g n cap : Nat} {xs : List Value} (h : Own w base e (.slice (some ⟨g, 0, none⟩) n cap) xs) {cur : Array Value} (hg : w.heap[g]? = some (.cells cur e (0, 0))) (off : Nat) (cs : List Value) (hfit : off + cs.length ≤ n) :
    Own (w.setRow g (cur.toList.take off ++ cs ++ cur.toList.drop (off + cs.length)).toArray) base e (.slice (some ⟨g, 0, none⟩) n cap) (splice xs off cs) := by
  obtain ⟨cur', hg', hb, hn, hnc, hm, hcs, ht⟩ := h.row
  rw [hg] at hg'
  simp only [Option.some.injEq, Obj.cells.injEq, and_true] at hg'
  subst hg'
  have hl : (splice xs off cs).length = n := by rw [length_splice _ _ _ (by omega), hn]
  have hcl : cur.toList.length = cap := by simpa using hcs
  unfold Own
  rw [hl]
  refine ⟨by rw [hl]; omega, .inr ⟨g, cap, _, rfl, hb, setRow_heap w g _ _ e _ hg, hnc, hm, ?_, ?_⟩⟩
  · simp only [List.size_toArray, List.length_append, List.length_take, List.length_drop, hcl]
    omega
  · rw [Nat.mul_one]
    unfold splice
    rw [← ht]
    have h1 : (cur.toList.take n).take off = cur.toList.take off := by rw [List.take_take, Nat.min_eq_left (by omega)]
    have h2 : (cur.toList.take n).drop (off + cs.length) = (cur.toList.drop (off + cs.length)).take (n - (off + cs.length)) := by rw [List.drop_take]
    rw [h1, h2, List.append_assoc, List.take_append, List.take_append, List.length_take, hcl, Nat.min_eq_left (by omega)]
    rw [List.take_of_length_le (l := cur.toList.take off) (by rw [List.length_take, hcl]; omega), List.take_of_length_le (l := cs) (by omega), show n - off - cs.length = n - (off + cs.length) by omega]

theorem Gives.copyStr {P : Program} {t u e : TypeId} {z : Value} {bytes : Nat} (E : ElemOk P t e z bytes) {o : Oper} {a : Act} {w : World} {S : Value → World → Prop} (d s : Operand)
    (ho : o.op = .call { callee := .builtin .copy, args := #[d, s], argTypes := #[t, u] }) {base g n cap off dLen dCap : Nat} {xs : List Value} {k : List UInt8} (hd : a.eval d = .slice (some ⟨g, off, none⟩) dLen dCap) (hs : a.eval s = strV k)
    (hown : Own w base e (.slice (some ⟨g, 0, none⟩) n cap) xs) (hle : k.length ≤ dLen) (hfit : off + k.length ≤ n)
    (h : ∀ w', Own w' base e (.slice (some ⟨g, 0, none⟩) n cap) (splice xs off (k.map B)) → w.grownBy w' (some g) → w'.heap.size = w.heap.size → S (.int .i64 k.length) w') : Gives P o a w S := by
  obtain ⟨i, hi, hz, hs1, hb⟩ := E.hi
  obtain ⟨cur, hg, hb2, hn, hnc, hm, hcs, ht⟩ := hown.row
  have hr := Lib.run_copy_row_string (P := P) w t u o.type e g off dLen dCap ⟨k.toArray⟩ cur e E.ht (by rw [hi]; simp [hs1]) hg (by rw [size_str]; exact hle) (by rw [size_str]; omega)
  rw [size_str] at hr
  have hsp := hown.spliced hg off (k.map B) (by simp; omega)
  simp only [List.length_map] at hsp
  refine Gives.value (v := .int .i64 k.length) ?_ (h _ hsp ⟨rfl, rfl, rfl, by simp [World.setRow], fun j _ hj => setRow_other w g j _ (fun e => hj (by rw [e]))⟩ (by simp [World.setRow]))
  unfold execOp
  have hr' : (Builtin.copy_ #[t, u] o.type #[.slice (some ⟨g, off, none⟩) dLen dCap, strV k]).run P w = .ok (.int .i64 k.length) (w.setRow g (cur.toList.take off ++ k.map B ++ cur.toList.drop (off + k.length)).toArray) := hr
  simp only [ho, resolve, invoke, builtin, Sem.run_bind, Sem.run_pure, Result.andThen_ok, List.map_toArray, List.map_cons, List.map_nil, hd, hs, hr']

/-- copy from a string in a drawn region -/
theorem told_copyStr {P : Program} {t u e : TypeId} {z : Value} {bytes : Nat} (E : ElemOk P t e z bytes) {acc con : Array Nat} {n : Nat} {C : World → Prop} {i : Nat} {o : Oper} {F : Nat → Fact} {a : Act} (d s : Operand)
    (ho : o.op = .call { callee := .builtin .copy, args := #[d, s], argTypes := #[t, u] }) {g len cap off dLen dCap : Nat} {xs : List Value} {k : List UInt8} (hd : a.eval d = .slice (some ⟨g, off, none⟩) dLen dCap) (hs : a.eval s = strV k) (hle : k.length ≤ dLen) (hfit : off + k.length ≤ len)
    (hC : ∀ w w' row, C w → w.grownBy w' row → (∀ k, row = some k → n ≤ k) → n ≤ w.heap.size ∧ C w')
    (hF : ∀ w own, C w → (∀ k, (acc.getD i 0).testBit k = true → F k w (blocksOf n own k)) → Own w n e (.slice (some ⟨g, 0, none⟩) len cap) xs ∧ (con.getD i 0).testBit (own g) = true) :
    toldAt P acc con n C i o (oHas (.slice (some ⟨g, 0, none⟩) len cap) n e (splice xs off (k.map B))) F a := by
  intro w own hCw hf
  obtain ⟨h1, hc⟩ := hF w own hCw hf
  have hg := World.ownsRow.lt h1 g rfl
  refine Gives.copyStr E d s ho hd hs h1 hle hfit fun w' h2 h3 h4 => ⟨(hC w w' _ hCw h3 fun k hk => by cases hk; exact hg.1).2, ⟨h3.size, fun b hb hor => h3.block b hb fun e => ?_⟩, h2, fun ad m c ev => ?_⟩
  · simp only [Option.some.injEq] at e
    subst e
    rcases hor with h | h
    · omega
    · rw [hc] at h; cases h
  · simp only [Value.slice.injEq, Option.some.injEq] at ev
    rw [← ev.1]
    exact .inr (by unfold ownNext; rw [if_pos (.inr hc)])

/-- from a slice: as many as the shorter of the two has -/
theorem Gives.copyB {P : Program} {t e : TypeId} {z : Value} {bytes : Nat} (E : ElemOk P t e z bytes) {o : Oper} {a : Act} {w : World} {S : Value → World → Prop} (d s : Operand)
    (ho : o.op = .call { callee := .builtin .copy, args := #[d, s], argTypes := #[t, t] }) {base g n cap off dLen dCap : Nat} {xs ys : List Value} {u : Value} (hd : 0 < dLen → a.eval d = .slice (some ⟨g, off, none⟩) dLen dCap) (hd0 : ∃ ao, a.eval d = .slice ao dLen dCap) (hs : a.eval s = u)
    (hu : Sl w u ys) (h1 : ∀ y ∈ ys, y.oneCell' = true)
    (hown : Own w base e (.slice (some ⟨g, 0, none⟩) n cap) xs) (hfit : off + dLen ≤ n)
    (h : ∀ w', Own w' base e (.slice (some ⟨g, 0, none⟩) n cap) (splice xs off (ys.take dLen)) → w.grownBy w' (some g) → w'.heap.size = w.heap.size → S (.int .i64 (Nat.min ys.length dLen)) w') : Gives P o a w S := by
  obtain ⟨i, hi, hz, hs1, hb⟩ := E.hi
  obtain ⟨cur, hg, hb2, hn, hnc, hm, hcs, ht⟩ := hown.row
  obtain ⟨ao, cp, rfl, hmx, hcap, hc⟩ := hu
  by_cases h0 : Nat.min ys.length dLen = 0
  · obtain ⟨ad, hd0⟩ := hd0
    have hr := run_copy_none (P := P) w t t o.type e ad ao dLen dCap ys.length cp E.ht (by rw [hi]; simp [hs1]) h0
    have hnil : ys.take dLen = [] := by
      apply List.eq_nil_of_length_eq_zero
      rw [List.length_take, Nat.min_comm]
      exact h0
    refine Gives.value (v := .int .i64 (Nat.min ys.length dLen)) (w' := w) ?_ (h w (by rw [hnil]; simpa [splice] using hown) ⟨rfl, rfl, rfl, Nat.le_refl _, fun _ _ _ => rfl⟩ rfl)
    unfold execOp
    rw [h0]
    simp only [ho, resolve, invoke, builtin, Sem.run_bind, Sem.run_pure, Result.andThen_ok, List.map_toArray, List.map_cons, List.map_nil, hd0, hs, hr]
    rfl
  · have hpos : 0 < ys.length ∧ 0 < dLen := by
      have : Nat.min ys.length dLen ≤ ys.length := Nat.min_le_left _ _
      have : Nat.min ys.length dLen ≤ dLen := Nat.min_le_right _ _
      omega
    obtain ⟨b, off2, rfl, _⟩ := hc 0 hpos.1
    have hlen : (ys.take dLen).length = Nat.min ys.length dLen := by rw [List.length_take]; exact Nat.min_comm _ _
    have hle : Nat.min ys.length dLen ≤ dLen := Nat.min_le_right _ _
    have hr := run_copy_row (P := P) w t t o.type e g off dLen dCap ⟨b, off2, none⟩ ys.length cp cur e (ys.take dLen) E.ht (by rw [hi]; simp [hs1]) hg hlen (fun j v hj => by
      obtain ⟨hjl, hjy⟩ := List.getElem?_eq_some_iff.1 hj
      rw [List.length_take] at hjl
      obtain ⟨b', off', ha, hcell⟩ := hc j (by omega)
      cases ha
      rw [List.getElem_take] at hjy
      rw [hjy] at hcell
      have hadd : (⟨b, off2, none⟩ : Addr).add j = ⟨b, off2 + j, none⟩ := by unfold Addr.add; split <;> simp_all
      rw [hadd]
      exact hcell) (by rw [hlen]; omega) (fun y hy => h1 y (List.mem_of_mem_take hy))
    have hsp := hown.spliced hg off (ys.take dLen) (by rw [hlen]; omega)
    rw [hlen] at hsp
    refine Gives.value (v := .int .i64 (Nat.min ys.length dLen)) ?_ (h _ hsp ⟨rfl, rfl, rfl, by simp [World.setRow], fun j _ hj => setRow_other w g j _ (fun e => hj (by rw [e]))⟩ (by simp [World.setRow]))
    unfold execOp
    rw [hlen] at hr
    simp only [ho, resolve, invoke, builtin, Sem.run_bind, Sem.run_pure, Result.andThen_ok, List.map_toArray, List.map_cons, List.map_nil, hd hpos.2, hs, hr]
    rfl
end Go.Proofs.Ytdnmddfnlkaahaa
