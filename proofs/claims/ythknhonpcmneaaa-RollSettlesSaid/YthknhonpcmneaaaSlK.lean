/- Slices of the call's own whose elements have several cells; append. -/
import Derived.Test.YthknhonpcmneaaaSlC
import Derived.Test.YthknhonpcmneaaaMem
namespace Go.Proofs.Ythknhonpcmneaaa
open Go Go.RowKit

theorem flatten_length {k : Nat} : ∀ {css : List (List Value)}, (∀ c ∈ css, c.length = k) → css.flatten.length = css.length * k
  | [], _ => by simp
  | c :: css, h => by
    have ih := flatten_length (css := css) fun d hd => h d (List.mem_cons_of_mem _ hd)
    rw [List.flatten_cons, List.length_append, ih, h c List.mem_cons_self, List.length_cons, Nat.add_mul]
    omega
theorem flatten_at {k : Nat} : ∀ {css : List (List Value)}, (∀ c ∈ css, c.length = k) → ∀ (i j : Nat) (hi : i < css.length) (u : Value), css[i][j]? = some u → css.flatten[i * k + j]? = some u
  | [], _, i, _, hi, _, _ => absurd hi (by simp)
  | c :: css, h, 0, j, _, u, hu => by
    replace hu : c[j]? = some u := hu
    have hj := (List.getElem?_eq_some_iff.1 hu).1
    rw [List.flatten_cons, Nat.zero_mul, Nat.zero_add, List.getElem?_append_left hj]
    exact hu
  | c :: css, h, i + 1, j, hi, u, hu => by
    have hc := h c List.mem_cons_self
    have e : (i + 1) * k + j - c.length = i * k + j := by rw [hc, Nat.add_mul]; omega
    have ih := flatten_at (css := css) (fun d hd => h d (List.mem_cons_of_mem _ hd)) i j (by simpa using hi) u (by simpa using hu)
    rw [List.flatten_cons, List.getElem?_append_right (by rw [hc, Nat.add_mul]; omega), e]
    exact ih
theorem flatten_split {k : Nat} (hk : 0 < k) : ∀ {css : List (List Value)}, (∀ c ∈ css, c.length = k) → ∀ (m : Nat) (u : Value), css.flatten[m]? = some u → ∃ i j, ∃ hi : i < css.length, m = i * k + j ∧ css[i][j]? = some u := by
  intro css h m u hu
  have hm := (List.getElem?_eq_some_iff.1 hu).1
  rw [flatten_length h] at hm
  have hd : m / k < css.length := Nat.div_lt_of_lt_mul (by rw [Nat.mul_comm]; exact hm)
  have hmk : m % k < css[m / k].length := by rw [h _ (List.getElem_mem _)]; exact Nat.mod_lt _ hk
  refine ⟨m / k, m % k, hd, by rw [Nat.mul_comm]; exact (Nat.div_add_mod m k).symm, ?_⟩
  have h1 := flatten_at h (m / k) (m % k) hd css[m / k][m % k] (List.getElem?_eq_getElem hmk)
  rw [show m / k * k + m % k = m by rw [Nat.mul_comm]; exact Nat.div_add_mod m k, hu] at h1
  rw [List.getElem?_eq_getElem hmk]
  exact h1.symm

/-- v is nil and css none, or begins a block of the call's own (from base on) whose first elements are css -/
def OwnK (w : World) (base : Nat) (e : TypeId) (k : Nat) (v : Value) (css : List (List Value)) : Prop := w.ownsRow base e k v css.length css.flatten ∧ ∀ c ∈ css, c.length = k

theorem OwnK.nil (w : World) (base : Nat) (e : TypeId) (k : Nat) : OwnK w base e k (.slice none 0 0) [] := ⟨World.ownsRow_nil w base e k, by simp⟩
theorem OwnK.mono {w : World} {base base' k : Nat} {e : TypeId} {v : Value} {css : List (List Value)} (h : OwnK w base e k v css) (hb : base' ≤ base) : OwnK w base' e k v css := by
  refine ⟨⟨h.1.1, ?_⟩, h.2⟩
  rcases h.1.2 with h | ⟨g, cap, cur, hv, hg, r⟩
  · exact .inl h
  · exact .inr ⟨g, cap, cur, hv, by omega, r⟩
theorem OwnK.at {w w' : World} {base k : Nat} {e : TypeId} {v : Value} {css : List (List Value)} (h : OwnK w base e k v css) (hk : ∀ g, v.ownBlock = some g → g < w.heap.size → w'.heap[g]? = w.heap[g]?) : OwnK w' base e k v css := by
  refine ⟨⟨h.1.1, ?_⟩, h.2⟩
  rcases h.1.2 with h | ⟨g, cap, cur, hv, hg, hh, r⟩
  · exact .inl h
  · refine .inr ⟨g, cap, cur, hv, hg, ?_, r⟩
    rw [hk g (by rw [hv]; rfl) (Array.getElem?_eq_some_iff.1 hh).1]
    exact hh
theorem OwnK.keep {w w' : World} {base k : Nat} {e : TypeId} {v : Value} {css : List (List Value)} (h : OwnK w base e k v css) (hk : Keep w w') : OwnK w' base e k v css := h.at fun g _ hg => hk.block g hg
theorem OwnK.slc {w : World} {base k : Nat} {e : TypeId} {v : Value} {css : List (List Value)} (h : OwnK w base e k v css) (h0 : 0 < k) : SlC w v k css := by
  rcases h.1.2 with ⟨rfl, hn⟩ | ⟨g, cap, cur, rfl, _, hg, hn, hm, hcs, htake⟩
  · have hx : css = [] := List.eq_nil_of_length_eq_zero hn
    subst hx
    exact SlC.nil w k
  · refine ⟨some ⟨g, 0, none⟩, cap, rfl, by omega, ⟨hn, fun h => by cases h⟩, fun i hi => ⟨g, 0, rfl, fun j c hj => ?_⟩⟩
    have hf := flatten_at h.2 i j hi c hj
    rw [Nat.zero_add, cell_of_row w g _ cur e _ hg, ← htake, List.getElem?_take] at *
    split at hf
    · simpa using hf
    · cases hf
theorem OwnK.lt {w : World} {base k : Nat} {e : TypeId} {v : Value} {css : List (List Value)} (h : OwnK w base e k v css) : ∀ g, v.ownBlock = some g → base ≤ g ∧ g < w.heap.size := World.ownsRow.lt h.1

/-- the closed facts on a slice type of elements of k cells -/
structure ElemK (P : Program) (t e : TypeId) (z : Value) (k bytes : Nat) : Prop where
  ht : P.underlying t = some (.slice e)
  hi : ∃ i, P.info? e = some i ∧ i.zero = some z ∧ i.size = k ∧ i.bytes = bytes
  hzs : z.cells.size = k
  pos : 0 < k
theorem ElemK.of {P : Program} {t e : TypeId} {z : Value} {k bytes : Nat} (ht : P.underlying t = some (.slice e)) (h : (P.info? e).map (fun i => (i.zero, i.size, i.bytes)) = some (some z, k, bytes)) (hzs : z.cells.size = k) (h0 : 0 < k) : ElemK P t e z k bytes := by
  refine ⟨ht, ?_, hzs, h0⟩
  cases hi : P.info? e with
  | none => rw [hi] at h; cases h
  | some i =>
    rw [hi] at h
    simp only [Option.map_some, Option.some.injEq, Prod.mk.injEq] at h
    exact ⟨i, rfl, h.1, h.2.1, h.2.2⟩

/-- **append(v, u...)** of elements of k cells: v nil or the call's own -/
theorem run_append_k {P : Program} {t e : TypeId} {z : Value} {k bytes : Nat} (E : ElemK P t e z k bytes) (ty : TypeId) {w : World} {base : Nat} {v u : Value} {xs ys : List (List Value)}
    (hown : OwnK w base e k v xs) (hu : SlC w u k ys) (hy : ∀ y ∈ ys, y.length = k) (h1 : ∀ y ∈ ys, ∀ c ∈ y, c.oneCell' = true) (h63 : xs.length + ys.length ≤ maxLen) (hbytes : (xs.length + ys.length) * bytes ≤ 140737488355328) (hbase : base ≤ w.heap.size) :
    ∃ v' w', (Builtin.append_ #[t, t] ty #[v, u]).run P w = .ok v' w' ∧ OwnK w' base e k v' (xs ++ ys) ∧ w.grownBy w' v.ownBlock := by
  obtain ⟨i, hi, hz, hs, hb⟩ := E.hi
  obtain ⟨ao, cap, rfl, hm, hcap, hc⟩ := hu
  have hall : ∀ c ∈ xs ++ ys, c.length = k := fun c hc => by
    rcases List.mem_append.1 hc with h | h
    · exact hown.2 c h
    · exact hy c h
  cases ao with
  | none =>
    have hy0 : ys = [] := by
      cases ys with
      | nil => rfl
      | cons y ys =>
        obtain ⟨b, off, h, _⟩ := hc 0 (by simp)
        cases h
    subst hy0
    have hcap0 := hcap.2 rfl
    subst hcap0
    refine ⟨v, w, run_append_owned_none w base t ty e i k E.ht hi v _ _ hown.1, by simpa [OwnK] using hown, ⟨rfl, rfl, rfl, Nat.le_refl _, fun _ _ _ => rfl⟩⟩
  | some ad =>
    obtain ⟨v', w', hr, h2, h3, _⟩ := run_append_own (P := P) w base t ty e i z k bytes E.ht hi hz hs hb E.hzs E.pos v xs.length xs.flatten hown.1 ad ys.length cap ys.flatten (flatten_length hy) (by
      intro j y hj
      obtain ⟨a, b, ha, rfl, hab⟩ := flatten_split E.pos hy j y hj
      obtain ⟨blk, off, he, hcell⟩ := hc a ha
      cases he
      have hadd : (⟨blk, off, none⟩ : Addr).add (a * k + b) = ⟨blk, off + (a * k + b), none⟩ := by unfold Addr.add; split <;> simp_all
      rw [hadd, ← Nat.add_assoc]
      exact hcell b y hab) (by
      intro u hu
      obtain ⟨c, hc, hcu⟩ := List.mem_flatten.1 hu
      exact h1 c hc u hcu) h63 hbytes hbase
    exact ⟨v', w', hr, ⟨by rw [List.length_append, List.flatten_append]; exact h2, hall⟩, h3⟩
theorem Gives.appendK {P : Program} {t e : TypeId} {z : Value} {k bytes : Nat} (E : ElemK P t e z k bytes) {o : Oper} {a : Act} {w : World} {S : Value → World → Prop} (s x : Operand)
    (ho : o.op = .call { callee := .builtin .append, args := #[s, x], argTypes := #[t, t] }) {base : Nat} {v u : Value} {xs ys : List (List Value)} (hs : a.eval s = v) (hx : a.eval x = u)
    (hown : OwnK w base e k v xs) (hu : SlC w u k ys) (hy : ∀ y ∈ ys, y.length = k) (h1 : ∀ y ∈ ys, ∀ c ∈ y, c.oneCell' = true) (h63 : xs.length + ys.length ≤ maxLen) (hbytes : (xs.length + ys.length) * bytes ≤ 140737488355328) (hbase : base ≤ w.heap.size)
    (h : ∀ v' w', OwnK w' base e k v' (xs ++ ys) → w.grownBy w' v.ownBlock → S v' w') : Gives P o a w S := by
  obtain ⟨v', w', hr, h2, h3⟩ := run_append_k E o.type hown hu hy h1 h63 hbytes hbase
  refine Gives.value (v := v') (w' := w') ?_ (h v' w' h2 h3)
  unfold execOp
  simp only [ho, resolve, invoke, builtin, Sem.run_bind, Sem.run_pure, Result.andThen_ok, List.map_toArray, List.map_cons, List.map_nil, hs, hx, hr]
/-- one element, just laid -/
theorem SlC.laid {w : World} (e : TypeId) (fr : Nat × Nat) (k : Nat) (c : List Value) (hc : c.length = k) : SlC (w.alloc (.cells c.toArray e fr)) (.slice (some ⟨w.heap.size, 0, none⟩) 1 1) k [c] := by
  refine ⟨_, 1, rfl, by unfold maxLen; simp, ⟨Nat.le_refl _, fun h => by cases h⟩, fun i hi => ⟨w.heap.size, 0, rfl, fun j u hj => ?_⟩⟩
  have hi0 : i = 0 := by simp at hi; omega
  subst hi0
  rw [cell_of_row _ _ _ _ _ _ (heap_alloc_new w _)]
  simpa using hj
end Go.Proofs.Ythknhonpcmneaaa
