/- Memory of the call's own: slices that are appended to. -/
import Derived.Test.YthknhonpcmneaaaBase
import Derived.Laws.AppendOwnNone
import Derived.Lib.AppendStr
namespace Go.Proofs.Ythknhonpcmneaaa
open Go.RowKit

/-- v is nil and xs none, or begins a block of the call's own (from base on) whose first cells are xs. -/
def Own (w : World) (base : Nat) (e : TypeId) (v : Value) (xs : List Value) : Prop := w.ownsRow base e 1 v xs.length xs

/-- the closed facts on a slice type of elements of one cell -/
structure ElemOk (P : Program) (t e : TypeId) (z : Value) (bytes : Nat) : Prop where
  ht : P.underlying t = some (.slice e)
  hi : ∃ i, P.info? e = some i ∧ i.zero = some z ∧ i.size = 1 ∧ i.bytes = bytes
  hzs : z.cells.size = 1

theorem ElemOk.of {P : Program} {t e : TypeId} {z : Value} {bytes : Nat} (ht : P.underlying t = some (.slice e)) (h : (P.info? e).map (fun i => (i.zero, i.size, i.bytes)) = some (some z, 1, bytes)) (hzs : z.cells.size = 1) : ElemOk P t e z bytes := by
  refine ⟨ht, ?_, hzs⟩
  cases hi : P.info? e with
  | none => rw [hi] at h; cases h
  | some i =>
    rw [hi] at h
    simp only [Option.map_some, Option.some.injEq, Prod.mk.injEq] at h
    exact ⟨i, rfl, h.1, h.2.1, h.2.2⟩

theorem Own.nil (w : World) (base : Nat) (e : TypeId) : Own w base e (.slice none 0 0) [] := World.ownsRow_nil w base e 1

theorem Own.mono {w : World} {base base' : Nat} {e : TypeId} {v : Value} {xs : List Value} (h : Own w base e v xs) (hb : base' ≤ base) : Own w base' e v xs := by
  refine ⟨h.1, ?_⟩
  rcases h.2 with h | ⟨g, cap, cur, hv, hg, r⟩
  · exact .inl h
  · exact .inr ⟨g, cap, cur, hv, by omega, r⟩

theorem Own.keep {w w' : World} {base : Nat} {e : TypeId} {v : Value} {xs : List Value} (h : Own w base e v xs) (hk : Keep w w') : Own w' base e v xs := by
  refine ⟨h.1, ?_⟩
  rcases h.2 with h | ⟨g, cap, cur, hv, hg, hh, r⟩
  · exact .inl h
  · refine .inr ⟨g, cap, cur, hv, hg, ?_, r⟩
    rw [hk.block g (Array.getElem?_eq_some_iff.1 hh).1]
    exact hh

theorem Own.sl {w : World} {base : Nat} {e : TypeId} {v : Value} {xs : List Value} (h : Own w base e v xs) : Sl w v xs := by
  rcases h.2 with ⟨rfl, h0⟩ | ⟨g, cap, cur, rfl, _, hg, hn, hm, hcs, htake⟩
  · have hx : xs = [] := List.eq_nil_of_length_eq_zero h0
    subst hx
    exact ⟨none, 0, rfl, Nat.zero_le _, ⟨Nat.le_refl _, fun _ => rfl⟩, fun i h => absurd h (by simp)⟩
  · exact Sl.of_block hg xs _ cap rfl (by simpa using htake) (by omega) hn

/-- what is owned is no shorter than it seems -/
theorem Own.slB {w : World} {base : Nat} {e : TypeId} {v : Value} {l : List UInt8} (h : Own w base e v (l.map B)) : SlB w v l := h.sl

theorem Own.below {w w' : World} {base B0 : Nat} {e : TypeId} {v : Value} {xs : List Value} (h : Own w base e v xs) (hg : w.grownBy w' v.ownBlock) (hb : B0 ≤ base) (hs : B0 ≤ w.heap.size) : Below B0 w w' :=
  (Below.refl _ _).grown hg hs fun k hk => by have := World.ownsRow.lt h k hk; omega

/-- **append(v, u...)**, v nil or the call's own, u whatever slice: the very elements, one behind the other; the call's own again. -/
theorem run_append_sl {P : Program} {t e : TypeId} {z : Value} {bytes : Nat} (E : ElemOk P t e z bytes) (ty : TypeId) {w : World} {base : Nat} {v u : Value} {xs ys : List Value}
    (hown : Own w base e v xs) (hu : Sl w u ys) (h1 : ∀ y ∈ ys, y.oneCell' = true) (h63 : xs.length + ys.length ≤ maxLen) (hbytes : (xs.length + ys.length) * bytes ≤ 140737488355328) (hbase : base ≤ w.heap.size) :
    ∃ v' w', (Builtin.append_ #[t, t] ty #[v, u]).run P w = .ok v' w' ∧ Own w' base e v' (xs ++ ys) ∧ w.grownBy w' v.ownBlock := by
  obtain ⟨i, hi, hz, hs, hb⟩ := E.hi
  obtain ⟨ao, cap, rfl, hm, hcap, hc⟩ := hu
  cases ao with
  | none =>
    have hy : ys = [] := by
      cases ys with
      | nil => rfl
      | cons y ys =>
        obtain ⟨b, off, h, _⟩ := hc 0 (by simp)
        cases h
    subst hy
    have hcap0 := hcap.2 rfl
    subst hcap0
    refine ⟨v, w, run_append_owned_none w base t ty e i 1 E.ht hi v _ xs hown, by simpa [Own] using hown, ⟨rfl, rfl, rfl, Nat.le_refl _, fun _ _ _ => rfl⟩⟩
  | some ad =>
    obtain ⟨v', w', hr, h2, h3, _⟩ := run_append_own (P := P) w base t ty e i z 1 bytes E.ht hi hz hs hb E.hzs (by decide) v xs.length xs hown ad ys.length cap ys (by simp) (by
      intro j y hj
      obtain ⟨hjl, hjy⟩ := List.getElem?_eq_some_iff.1 hj
      obtain ⟨b, off, ha, hcell⟩ := hc j hjl
      cases ha
      rw [hjy] at hcell
      have hadd : (⟨b, off, none⟩ : Addr).add j = ⟨b, off + j, none⟩ := by unfold Addr.add; split <;> simp_all
      rw [hadd]
      exact hcell) h1 h63 hbytes hbase
    exact ⟨v', w', hr, by unfold Own; rw [List.length_append]; exact h2, h3⟩

/-- the operation -/
theorem Gives.append {P : Program} {t e : TypeId} {z : Value} {bytes : Nat} (E : ElemOk P t e z bytes) {o : Oper} {a : Act} {w : World} {S : Value → World → Prop} (s x : Operand)
    (ho : o.op = .call { callee := .builtin .append, args := #[s, x], argTypes := #[t, t] }) {base : Nat} {v u : Value} {xs ys : List Value} (hs : a.eval s = v) (hx : a.eval x = u)
    (hown : Own w base e v xs) (hu : Sl w u ys) (h1 : ∀ y ∈ ys, y.oneCell' = true) (h63 : xs.length + ys.length ≤ maxLen) (hbytes : (xs.length + ys.length) * bytes ≤ 140737488355328) (hbase : base ≤ w.heap.size)
    (h : ∀ v' w', Own w' base e v' (xs ++ ys) → w.grownBy w' v.ownBlock → S v' w') : Gives P o a w S := by
  obtain ⟨v', w', hr, h2, h3⟩ := run_append_sl E o.type hown hu h1 h63 hbytes hbase
  refine Gives.value (v := v') (w' := w') ?_ (h v' w' h2 h3)
  unfold execOp
  simp only [ho, resolve, invoke, builtin, Sem.run_bind, Sem.run_pure, Result.andThen_ok, List.map_toArray, List.map_cons, List.map_nil, hs, hx, hr]

theorem B_oneCell (l : List UInt8) : ∀ y ∈ l.map B, y.oneCell' = true := by
  intro y hy
  obtain ⟨b, _, rfl⟩ := List.mem_map.1 hy
  rfl

/-- append of bytes -/
theorem Gives.appendB {P : Program} {t e : TypeId} (E : ElemOk P t e (.int .u8 0) 1) {o : Oper} {a : Act} {w : World} {S : Value → World → Prop} (s x : Operand)
    (ho : o.op = .call { callee := .builtin .append, args := #[s, x], argTypes := #[t, t] }) {base : Nat} {v u : Value} {l k : List UInt8} (hs : a.eval s = v) (hx : a.eval x = u)
    (hown : Own w base e v (l.map B)) (hu : SlB w u k) (hlen : l.length + k.length ≤ 140737488355328) (hbase : base ≤ w.heap.size)
    (h : ∀ v' w', Own w' base e v' ((l ++ k).map B) → w.grownBy w' v.ownBlock → S v' w') : Gives P o a w S :=
  Gives.append E s x ho hs hx hown hu (B_oneCell k) (by unfold maxLen; simp; omega) (by simp; omega) hbase fun v' w' h2 h3 => h v' w' (by rw [List.map_append]; exact h2) h3

theorem Own.head {w : World} {base : Nat} {e : TypeId} {v : Value} {xs : List Value} (h : Own w base e v xs) (h0 : 0 < xs.length) : ∃ g cap, v = .slice (some ⟨g, 0, none⟩) xs.length cap ∧ base ≤ g ∧ g < w.heap.size := by
  rcases h.2 with ⟨_, h1⟩ | ⟨g, cap, cur, rfl, hb, hg, _⟩
  · omega
  · exact ⟨g, cap, rfl, hb, (Array.getElem?_eq_some_iff.1 hg).1⟩

theorem Own.cellOf {w : World} {base : Nat} {e : TypeId} {g n cap : Nat} {xs : List Value} (h : Own w base e (.slice (some ⟨g, 0, none⟩) n cap) xs) (i : Nat) (hi : i < xs.length) : w.cell? ⟨g, i, none⟩ = some xs[i] := by
  obtain ⟨ao, c, hv, _, _, hc⟩ := h.sl
  obtain ⟨b, off, ha, hcell⟩ := hc i hi
  simp only [Value.slice.injEq] at hv
  obtain ⟨rfl, _, _⟩ := hv
  simp only [Option.some.injEq, Addr.mk.injEq, and_true] at ha
  obtain ⟨rfl, rfl⟩ := ha
  simpa using hcell
theorem Own.freeOf {w : World} {base : Nat} {e : TypeId} {g n cap : Nat} {xs : List Value} (h : Own w base e (.slice (some ⟨g, 0, none⟩) n cap) xs) (i : Nat) : w.frozen? ⟨g, i, none⟩ = false := by
  rcases h.2 with ⟨h1, _⟩ | ⟨g', cap', cur, hv, hb, hg, _⟩
  · cases h1
  · simp only [Value.slice.injEq, Option.some.injEq, Addr.mk.injEq, and_true] at hv
    obtain ⟨rfl, _, _⟩ := hv
    unfold World.frozen?
    simp [hg]
theorem Own.stored {w : World} {base : Nat} {e : TypeId} {g n cap : Nat} {xs : List Value} (h : Own w base e (.slice (some ⟨g, 0, none⟩) n cap) xs) (j : Nat) (u : Value) : Own (w.setCell ⟨g, j, none⟩ u) base e (.slice (some ⟨g, 0, none⟩) n cap) (xs.set j u) := by
  have hn : n = xs.length := by
    obtain ⟨ao, c, hv, _⟩ := h.sl
    simp only [Value.slice.injEq] at hv
    exact hv.2.1
  subst hn
  have := (World.ownsRow.stored h j u).1
  unfold Own
  rw [List.length_set]
  exact this
theorem Keep.setCell {w w' : World} {B : Nat} (h : Below B w w') {p : Addr} (hp : B ≤ p.block) (u : Value) : Below B w (w'.setCell p u) := Below.setCell h hp u

/-! ### Strings -/
/-- a string of bytes -/
def strV (l : List UInt8) : Value := .string ⟨l.toArray⟩
theorem strCells_str (l : List UInt8) : Lib.strCells ⟨l.toArray⟩ = l.map B := by
  unfold Lib.strCells B
  simp
theorem size_str (l : List UInt8) : (⟨l.toArray⟩ : ByteArray).size = l.length := by simp [ByteArray.size]

theorem Gives.appendS {P : Program} {t u e : TypeId} (E : ElemOk P t e (.int .u8 0) 1) (hu : P.underlying u = some .string) {o : Oper} {a : Act} {w : World} {S : Value → World → Prop} (s x : Operand)
    (ho : o.op = .call { callee := .builtin .append, args := #[s, x], argTypes := #[t, u] }) {base : Nat} {v : Value} {l k : List UInt8} (hs : a.eval s = v) (hx : a.eval x = strV k)
    (hown : Own w base e v (l.map B)) (hlen : l.length + k.length ≤ 140737488355328) (hbase : base ≤ w.heap.size)
    (h : ∀ v' w', Own w' base e v' ((l ++ k).map B) → w.grownBy w' v.ownBlock → S v' w') : Gives P o a w S := by
  obtain ⟨i, hi, hz, hs1, hb⟩ := E.hi
  obtain ⟨v', w', hr, h2, h3, _⟩ := Lib.run_append_own_string (P := P) w base t u o.type e i E.ht hu hi hz hs1 hb v (l.map B).length (l.map B) hown ⟨k.toArray⟩ (by rw [size_str]; simp; unfold maxLen; omega) (by rw [size_str]; simp; omega) hbase
  refine Gives.value (v := v') (w' := w') ?_ (h v' w' ?_ h3)
  · unfold execOp
    have hr' : (Builtin.append_ #[t, u] o.type #[v, strV k]).run P w = .ok v' w' := hr
    simp only [ho, resolve, invoke, builtin, Sem.run_bind, Sem.run_pure, Result.andThen_ok, List.map_toArray, List.map_cons, List.map_nil, hs, hx, hr']
  · unfold Own
    rw [strCells_str, size_str] at h2
    rw [List.map_append, List.length_append, List.length_map, List.length_map]
    rw [List.length_map] at h2
    exact h2

theorem fold_push (l : List UInt8) : ∀ (s : ByteArray), (l.map fun b => (b.toNat : Int)).foldl (fun r n => r.push (UInt8.ofNat n.toNat)) s = ⟨s.data ++ l.toArray⟩ := by
  induction l with
  | nil => intro s; simp
  | cons b l ih =>
    intro s
    simp only [List.map_cons, List.foldl_cons]
    rw [ih]
    have : UInt8.ofNat ((b.toNat : Int)).toNat = b := by simp
    rw [this]
    congr 1
    simp [ByteArray.push]

/-- **string(v)** -/
theorem run_toString {P : Program} {t s e : TypeId} (ht : P.underlying t = some (.slice e)) (he : P.underlying e = some (.int .u8)) (hs : P.underlying s = some .string) {w : World} {v : Value} {l : List UInt8} (hv : SlB w v l) :
    (convert t s v).run P w = .ok (strV l) w := by
  obtain ⟨ao, cap, rfl, hm, hcap, hc⟩ := hv
  rw [List.length_map] at *
  rw [run_convert_bytes_string (P := P) w t s e ao _ cap ht he hs]
  cases ao with
  | none =>
    have hl : l = [] := by
      cases l with
      | nil => rfl
      | cons b l =>
        obtain ⟨x, off, h, _⟩ := hc 0 (by simp)
        cases h
    subst hl
    rfl
  | some ad =>
    have hcs : ∀ j v, (l.map B)[j]? = some v → w.cell? (ad.add j) = some v := by
      intro j y hj
      obtain ⟨hjl, hjy⟩ := List.getElem?_eq_some_iff.1 hj
      obtain ⟨b, off, ha, hcell⟩ := hc j (by simpa using hjl)
      cases ha
      have hadd : (⟨b, off, none⟩ : Addr).add j = ⟨b, off + j, none⟩ := by unfold Addr.add; split <;> simp_all
      rw [hadd, hcell, hjy]
    have hld := run_loadCells_list (P := P) (w := w) ad (l.map B) hcs
    rw [List.length_map] at hld
    have hmap : l.map B = (l.map fun b => (b.toNat : Int)).map (Value.int .u8) := by simp [B]
    rw [hmap] at hld
    rw [run_bytesToString w ad l.length cap _ hld, fold_push]
    unfold strV
    congr 2
    simp [ByteArray.empty, ByteArray.emptyWithCapacity]
    rfl

theorem Gives.toStr {P : Program} {t s e : TypeId} (ht : P.underlying t = some (.slice e)) (he : P.underlying e = some (.int .u8)) (hs : P.underlying s = some .string) {o : Oper} {a : Act} {w : World} {S : Value → World → Prop} (x : Operand)
    (ho : o.op = .convert t s x) {v : Value} {l : List UInt8} (hx : a.eval x = v) (hv : SlB w v l) (h : S (strV l) w) : Gives P o a w S := by
  refine Gives.value (v := strV l) (w' := w) ?_ h
  have hr := run_toString (P := P) ht he hs hv
  unfold execOp
  simp only [ho, Sem.run_bind, hx, hr, Result.andThen_ok]
  rfl

end Go.Proofs.Ythknhonpcmneaaa
