/- Worlds that change only at some blocks. -/
import Derived.Test.YthknhonpcmneaaaTell
namespace Go.Proofs.Ythknhonpcmneaaa
open Go Go.RowKit

/-- all blocks but those of T are as they were -/
structure ButS (w w' : World) (T : Nat → Prop) : Prop where
  os : w'.os = w.os
  tape : w'.tape = w.tape
  output : w'.output = w.output
  size : w.heap.size ≤ w'.heap.size
  block : ∀ b, b < w.heap.size → ¬ T b → w'.heap[b]? = w.heap[b]?
theorem ButS.refl (w : World) (T : Nat → Prop) : ButS w w T := ⟨rfl, rfl, rfl, Nat.le_refl _, fun _ _ _ => rfl⟩
theorem ButS.of_keep {w w' : World} {T : Nat → Prop} (h : Keep w w') : ButS w w' T := ⟨h.os, h.tape, h.output, h.size, fun b hb _ => h.block b hb⟩
theorem ButS.keep {w w1 w2 : World} {T : Nat → Prop} (h : ButS w w1 T) (k : Keep w1 w2) : ButS w w2 T :=
  ⟨k.os.trans h.os, k.tape.trans h.tape, k.output.trans h.output, Nat.le_trans h.size k.size, fun b hb ht => (k.block b (Nat.lt_of_lt_of_le hb h.size)).trans (h.block b hb ht)⟩
theorem ButS.grown {w w1 w2 : World} {T : Nat → Prop} {row : Option Nat} (h : ButS w w1 T) (g : w1.grownBy w2 row) (hr : ∀ k, row = some k → k < w.heap.size → T k) : ButS w w2 T :=
  ⟨g.os.trans h.os, g.tape.trans h.tape, g.output.trans h.output, Nat.le_trans h.size g.size, fun b hb ht => (g.block b (Nat.lt_of_lt_of_le hb h.size) (fun e => ht (hr b e.symm hb))).trans (h.block b hb ht)⟩
theorem ButS.set {w w1 : World} {T : Nat → Prop} (h : ButS w w1 T) (p : Addr) (u : Value) (hp : T p.block) : ButS w (w1.setCell p u) T :=
  ⟨h.os, h.tape, h.output, by have := h.size; simpa [World.setCell] using this, fun b hb ht => (Below.heap_setCell w1 p u b (fun e => ht (e ▸ hp))).trans (h.block b hb ht)⟩
theorem ButS.below {w w' : World} {T : Nat → Prop} (h : ButS w w' T) (B : Nat) (hB : B ≤ w.heap.size) (hT : ∀ b, T b → B ≤ b) : Below B w w' :=
  ⟨h.os, h.tape, h.output, h.size, fun b hb => h.block b (by omega) (fun ht => by have := hT b ht; omega)⟩

theorem ButS.weak {w w' : World} {T U : Nat → Prop} (h : ButS w w' T) (hTU : ∀ b, b < w.heap.size → T b → U b) : ButS w w' U := ⟨h.os, h.tape, h.output, h.size, fun b hb hu => h.block b hb fun ht => hu (hTU b hb ht)⟩
theorem ButS.trans {a b c : World} {T : Nat → Prop} (h : ButS a b T) (k : ButS b c T) : ButS a c T :=
  ⟨k.os.trans h.os, k.tape.trans h.tape, k.output.trans h.output, Nat.le_trans h.size k.size, fun x hx ht => (k.block x (Nat.lt_of_lt_of_le hx h.size) ht).trans (h.block x hx ht)⟩
theorem ButS.drew {w w' : World} {T : Nat → Prop} (h : ButS w w' T) : ButS w w'.drew T := ⟨h.os, h.tape, h.output, h.size, h.block⟩
theorem ButS.row {w w1 : World} {T : Nat → Prop} (h : ButS w w1 T) (g : Nat) (cs : Array Value) (hp : T g) : ButS w (w1.setRow g cs) T :=
  ⟨h.os, h.tape, h.output, by have := h.size; simpa [World.setRow] using this, fun b hb ht => (setRow_other w1 g b cs (fun e => ht (by first | exact e ▸ hp | exact e.symm ▸ hp))).trans (h.block b hb ht)⟩
end Go.Proofs.Ythknhonpcmneaaa
