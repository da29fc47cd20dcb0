/- Where what is appended to lies; bytes beside a store. -/
import Derived.Test.YthknhonpcmneaaaSlK
import Derived.Test.YthknhonpcmneaaaAdd0
import Derived.Test.YthknhonpcmneaaaSlSet
namespace Go.Proofs.Ythknhonpcmneaaa
open Go Go.RowKit
attribute [local irreducible] Go.wpQuiet

/-- where the result of an append lies -/
theorem append_whereK {P : Program} {t e : TypeId} {z : Value} {k bytes : Nat} (E : ElemK P t e z k bytes) (ty : TypeId) {w w' : World} {base : Nat} {v u v' : Value} {xs ys : List (List Value)}
    (hown : OwnK w base e k v xs) (hu : SlC w u k ys) (hy : ∀ y ∈ ys, y.length = k) (h1 : ∀ y ∈ ys, ∀ c ∈ y, c.oneCell' = true) (h63 : xs.length + ys.length ≤ maxLen) (hbytes : (xs.length + ys.length) * bytes ≤ 140737488355328) (hbase : base ≤ w.heap.size)
    (hr : (Builtin.append_ #[t, t] ty #[v, u]).run P w = .ok v' w') : ∀ g, v'.ownBlock = some g → v.ownBlock = some g ∨ w.heap.size ≤ g := by
  obtain ⟨i, hi, hz, hs, hb⟩ := E.hi
  have hu0 := hu
  obtain ⟨ao, cap, rfl, hm, hcap, hc⟩ := hu
  intro g hg
  rcases hown.1.2 with ⟨rfl, hx0⟩ | ⟨g0, cap0, cur, rfl, hbg, hg0, hnc, hcm, hcs, htake⟩
  · have hx : xs = [] := List.eq_nil_of_length_eq_zero hx0
    subst hx
    obtain ⟨v2, w2, hr2, ho2, _⟩ := run_append_k E ty (OwnK.nil w w.heap.size e k) hu0 hy h1 h63 hbytes (Nat.le_refl _)
    rw [hr] at hr2
    simp only [Result.ok.injEq] at hr2
    obtain ⟨rfl, rfl⟩ := hr2
    exact .inr (ho2.lt g hg).1
  · cases ao with
    | none =>
      have hy0 : ys = [] := by
        cases ys with
        | nil => rfl
        | cons y ys =>
          obtain ⟨b, off, h, _⟩ := hc 0 (by simp)
          cases h
      subst hy0
      have hcap0 := hcap.2 rfl
      subst hcap0
      have hr2 := run_append_owned_none (P := P) w base t ty e i k E.ht hi _ _ xs.flatten hown.1
      rw [show ([] : List (List Value)).length = 0 from rfl, hr2] at hr
      simp only [Result.ok.injEq] at hr
      obtain ⟨rfl, rfl⟩ := hr
      exact .inl hg
    | some ad =>
      have hnews : ∀ j y, ys.flatten[j]? = some y → w.cell? (ad.add j) = some y := by
        intro j y hj
        obtain ⟨a, b, ha, rfl, hab⟩ := flatten_split E.pos hy j y hj
        obtain ⟨blk, off, he, hcell⟩ := hc a ha
        cases he
        have hadd : (⟨blk, off, none⟩ : Addr).add (a * k + b) = ⟨blk, off + (a * k + b), none⟩ := by unfold Addr.add; split <;> simp_all
        rw [hadd, ← Nat.add_assoc]
        exact hcell b y hab
      have h1' : ∀ u ∈ ys.flatten, u.oneCell' = true := by
        intro u hu
        obtain ⟨c, hc, hcu⟩ := List.mem_flatten.1 hu
        exact h1 c hc u hcu
      by_cases hroom : xs.length + ys.length ≤ cap0
      · have hr2 := run_append_room (P := P) w t ty e i E.ht hi g0 xs.length cap0 cur hg0 ad ys.length cap ys.flatten (by rw [hs]; exact flatten_length hy) hnews h1' hroom (by rw [hs, hcs, flatten_length hy, ← Nat.add_mul]; exact Nat.mul_le_mul_right _ hroom)
        rw [hr2] at hr
        simp only [Result.ok.injEq] at hr
        obtain ⟨rfl, rfl⟩ := hr
        exact .inl hg
      · have holds : ∀ j u, xs.flatten[j]? = some u → w.cell? ((⟨g0, 0, none⟩ : Addr).add j) = some u := World.ownsRow.cells (g := g0) hown.1 rfl
        have hr2 := run_append_grow (P := P) w t ty e i z E.ht hi hz ⟨g0, 0, none⟩ xs.length cap0 xs.flatten (by rw [hs]; exact hown.1.1) holds ad ys.length cap ys.flatten (by rw [hs]; exact flatten_length hy) hnews (by omega) (by unfold maxLen at h63; omega) (growslice_fits (by omega) (by rw [hb]; exact hbytes))
        rw [hr2] at hr
        simp only [Result.ok.injEq] at hr
        obtain ⟨rfl, rfl⟩ := hr
        simp only [Value.ownBlock, Option.some.injEq] at hg
        omega

theorem Gives.appendKW {P : Program} {t e : TypeId} {z : Value} {k bytes : Nat} (E : ElemK P t e z k bytes) {o : Oper} {a : Act} {w : World} {S : Value → World → Prop} (s x : Operand)
    (ho : o.op = .call { callee := .builtin .append, args := #[s, x], argTypes := #[t, t] }) {base : Nat} {v u : Value} {xs ys : List (List Value)} (hs : a.eval s = v) (hx : a.eval x = u)
    (hown : OwnK w base e k v xs) (hu : SlC w u k ys) (hy : ∀ y ∈ ys, y.length = k) (h1 : ∀ y ∈ ys, ∀ c ∈ y, c.oneCell' = true) (h63 : xs.length + ys.length ≤ maxLen) (hbytes : (xs.length + ys.length) * bytes ≤ 140737488355328) (hbase : base ≤ w.heap.size)
    (h : ∀ v' w', OwnK w' base e k v' (xs ++ ys) → w.grownBy w' v.ownBlock → (∀ g, v'.ownBlock = some g → v.ownBlock = some g ∨ w.heap.size ≤ g) → S v' w') : Gives P o a w S := by
  obtain ⟨v', w', hr, h2, h3⟩ := run_append_k E o.type hown hu hy h1 h63 hbytes hbase
  have h4 := append_whereK E o.type hown hu hy h1 h63 hbytes hbase hr
  refine Gives.value (v := v') (w' := w') ?_ (h v' w' h2 h3 h4)
  unfold execOp
  simp only [ho, resolve, invoke, builtin, Sem.run_bind, Sem.run_pure, Result.andThen_ok, List.map_toArray, List.map_cons, List.map_nil, hs, hx, hr]
end Go.Proofs.Ythknhonpcmneaaa
