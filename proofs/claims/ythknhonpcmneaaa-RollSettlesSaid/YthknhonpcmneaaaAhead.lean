/- Regions in which what the call made ahead of them is appended to. -/
import Derived.Test.YthknhonpcmneaaaTell
namespace Go.Proofs.Ythknhonpcmneaaa
open Go Go.RowKit

/-- worlds in which all below n is as it was -/
structure CB (n : Nat) (wk w : World) : Prop where
  le : n ≤ w.heap.size
  below : Below n wk w
theorem CB.refl {n : Nat} {w : World} (h : n ≤ w.heap.size) : CB n w w := ⟨h, Below.refl _ _⟩
theorem CB.drew {n : Nat} {wk w : World} (h : CB n wk w) : CB n wk w.drew := ⟨h.le, h.below.drew⟩
theorem CB.keep {n : Nat} {wk w w' : World} (h : CB n wk w) (hk : Keep w w') : CB n wk w' := ⟨by have := hk.size; have := h.le; omega, h.below.trans (hk.mono h.le)⟩
theorem CB.trans {n : Nat} {a b c : World} (h : CB n a b) (k : CB n b c) : CB n a c := ⟨k.le, h.below.trans k.below⟩
theorem cbK {n : Nat} {wk : World} : ∀ w w', CB n wk w → Keep w w' → CB n wk w' := fun _ _ h k => h.keep k
theorem cbG {n : Nat} {wk : World} : ∀ w w' row, CB n wk w → w.grownBy w' row → (∀ k, row = some k → n ≤ k) → n ≤ w.heap.size ∧ CB n wk w' :=
  fun _ _ _ h g r => ⟨h.le, ⟨by have := g.size; have := h.le; omega, h.below.grown g h.le r⟩⟩
theorem cbS {n : Nat} {wk : World} : ∀ w p x, CB n wk w → n ≤ p.block → CB n wk (w.setCell p x) := fun w p x h hp =>
  ⟨by have := h.le; simpa [World.setCell] using this, Below.setCell h.below hp _⟩
/-- at the end: all that stood ahead of the call -/
theorem CB.ahead {n : Nat} {w wk w' : World} (h : CB n wk w') (hk : Keep w wk) (hn : w.heap.size ≤ n) : Keep w w' := hk.trans (h.below.mono hn)

/-- what was just laid is the call's own -/
theorem Own.laid (w : World) (e : TypeId) (base n : Nat) (cs : List Value) (hn : n = cs.length) (hb : base ≤ w.heap.size) (hm : n ≤ 140737488355328) : Own (w.alloc (.cells cs.toArray e)) base e (.slice (some ⟨w.heap.size, 0, none⟩) n n) cs := by
  subst hn
  unfold Own
  refine ⟨by simp, .inr ⟨w.heap.size, cs.length, _, rfl, hb, heap_alloc_new w _, Nat.le_refl _, by unfold maxLen; omega, by simp, ?_⟩⟩
  rw [Nat.mul_one]
  simp
/-- append of bytes -/
theorem told_appendB {P : Program} {t e : TypeId} (E : ElemOk P t e (.int .u8 0) 1) {acc con : Array Nat} {n : Nat} {C : World → Prop} {i : Nat} {o : Oper} {F : Nat → Fact} {a : Act} (s x : Operand)
    (ho : o.op = .call { callee := .builtin .append, args := #[s, x], argTypes := #[t, t] }) (l k : List UInt8)
    (hC : ∀ w w' row, C w → w.grownBy w' row → (∀ k, row = some k → n ≤ k) → n ≤ w.heap.size ∧ C w') (hlen : l.length + k.length ≤ 140737488355328)
    (hF : ∀ w own, C w → (∀ k, (acc.getD i 0).testBit k = true → F k w (blocksOf n own k)) → (Own w n e (a.eval s) (l.map B) ∧ ∀ g, (a.eval s).ownBlock = some g → (con.getD i 0).testBit (own g) = true) ∧ SlB w (a.eval x) k) :
    toldAt P acc con n C i o (oOwn n e ((l ++ k).map B)) F a := by
  rw [List.map_append]
  exact told_append E s x ho hC (B_oneCell k) (by unfold maxLen; simp; omega) (by simp; omega) hF

theorem byte_mod (n : Nat) : Value.int .u8 ((n : Int) % 256) = B (UInt8.ofNat n) := by
  unfold B
  rw [UInt8.toNat_ofNat']
  congr 1
/-- a byte laid -/
theorem laid_one (w : World) (e : TypeId) (fr : Nat × Nat) (n : Nat) : SlB (w.alloc (.cells #[.int .u8 ((n : Int) % 256)] e fr)) (.slice (some ⟨w.heap.size, 0, none⟩) 1 1) [UInt8.ofNat n] := by
  rw [byte_mod]
  exact Sl.laid w _ _ _ _ 1 1 rfl rfl (by decide) (Nat.le_refl _)
theorem byte_lt (n : Nat) (h : n < 256) : Value.int .u8 (n : Int) = B (UInt8.ofNat n) := by
  rw [← byte_mod]
  congr 1
  omega
theorem laid_lt (w : World) (e : TypeId) (fr : Nat × Nat) (n : Nat) (h : n < 256) : SlB (w.alloc (.cells #[.int .u8 (n : Int)] e fr)) (.slice (some ⟨w.heap.size, 0, none⟩) 1 1) [UInt8.ofNat n] := by
  rw [byte_lt n h]
  exact Sl.laid w _ _ _ _ 1 1 rfl rfl (by decide) (Nat.le_refl _)
/-- a number of two bytes laid -/
theorem laid_two (w : World) (e : TypeId) (fr : Nat × Nat) (n : Nat) : SlB (w.alloc (.cells #[.int .u8 ((n : Int) / 256 % 256), .int .u8 ((n : Int) % 256)] e fr)) (.slice (some ⟨w.heap.size, 0, none⟩) 2 2) [UInt8.ofNat (n / 256), UInt8.ofNat n] := by
  rw [byte_mod, show ((n : Int) / 256) = ((n / 256 : Nat) : Int) by omega, byte_mod]
  exact Sl.laid w _ _ _ _ 2 2 rfl rfl (by decide) (Nat.le_refl _)
theorem laid_two' (w : World) (e : TypeId) (fr : Nat × Nat) (n : Nat) (h : n < 65536) : SlB (w.alloc (.cells #[.int .u8 ((n : Int) / 256), .int .u8 ((n : Int) % 256)] e fr)) (.slice (some ⟨w.heap.size, 0, none⟩) 2 2) [UInt8.ofNat (n / 256), UInt8.ofNat n] := by
  rw [byte_mod, show ((n : Int) / 256) = ((n / 256 : Nat) : Int) by omega, byte_lt (n / 256) (by omega)]
  exact Sl.laid w _ _ _ _ 2 2 rfl rfl (by decide) (Nat.le_refl _)
theorem own_two' (w : World) (e : TypeId) (base n : Nat) (h : n < 65536) (hb : base ≤ w.heap.size) : Own (w.alloc (.cells #[.int .u8 ((n : Int) / 256), .int .u8 ((n : Int) % 256)] e)) base e (.slice (some ⟨w.heap.size, 0, none⟩) 2 2) ([UInt8.ofNat (n / 256), UInt8.ofNat n].map B) := by
  rw [byte_mod, show ((n : Int) / 256) = ((n / 256 : Nat) : Int) by omega, byte_lt (n / 256) (by omega)]
  exact Own.laid w e base 2 _ rfl hb (by decide)
/-- the first of a slice's bytes -/
theorem SlB.first {w : World} {ao : Option Addr} {n cap : Nat} {l : List UInt8} (h : SlB w (.slice ao n cap) l) (hi : Nat) (h2 : hi ≤ n) : SlB w (.slice ao hi cap) (l.take hi) := by
  have h3 := h.upto hi h2
  have e : (if cap - 0 = 0 then ao else ao.map fun x => x.add 0) = ao := by
    split
    · rfl
    · cases ao <;> simp [Addr.add]
  unfold sliced at h3
  simp only [Nat.mul_one, Nat.sub_zero] at h3 e
  rw [e] at h3
  exact h3
end Go.Proofs.Ythknhonpcmneaaa
