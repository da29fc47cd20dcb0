/- What is done to a region of a disk, step by step, plainly; and how a disk in memory goes on. -/
import Derived.Test.YthknhonpcmneaaaDkR
namespace Go.Proofs.Ythknhonpcmneaaa
open Go Go.RowKit

/-- d' is d behind writes in region r: what is read there is new, where it says so; n: how many writes at most -/
structure Mid (d d' : Dk) (r : Nat) (new : Nat → Option (List UInt8)) (n : Nat) : Prop where
  size : d'.size = d.size
  regs : d'.regs.length = d.regs.length
  small : ∀ k, d.Small k → d'.Small (k + n)
  other : ∀ q, q ≠ r → d'.rg q = d.rg q ∧ ∀ t, t < d.size → d'.read q t = d.read q t
  up : (d.rg r).armed = false → (d'.rg r).armed = false
  read : ∀ t, t < d.size → d'.read r t = (new t).getD (d.read r t)
  all : ∀ P : Nat → List UInt8 → Prop, (∀ t x, new t = some x → P t x) → d.All P r → d'.All P r
/-- .. and behind a barrier, if e = 0 -/
structure Did (d d' : Dk) (r : Nat) (new : Nat → Option (List UInt8)) (n : Nat) (e : Int) : Prop where
  size : d'.size = d.size
  regs : d'.regs.length = d.regs.length
  small : ∀ k, d.Small k → d'.Small (k + n)
  other : ∀ q, q ≠ r → d'.rg q = d.rg q ∧ ∀ t, t < d.size → d'.read q t = d.read q t
  err : e = 0 ∨ e = 10
  up : (d.rg r).armed = false → e = 0 ∧ (d'.rg r).armed = false
  done : e = 0 → (d'.rg r).waits = [] ∧ ∀ t, t < d.size → d'.read r t = (new t).getD (d.read r t)
  all : ∀ P : Nat → List UInt8 → Prop, (∀ t x, new t = some x → P t x) → d.All P r → d'.All P r
theorem Mid.start (d : Dk) (r : Nat) : Mid d d r (fun _ => none) 0 :=
  ⟨rfl, rfl, fun _ h => h, fun _ _ => ⟨rfl, fun _ _ => rfl⟩, fun h => h, fun _ _ => rfl, fun _ _ h => h⟩
theorem Mid.same {d d' : Dk} {r n s : Nat} {new new2 : Nat → Option (List UInt8)} {x : List UInt8} (h : Mid d d' r new n) (hx : d'.read r s = x) (hs : new s = none) (hn : ∀ t, new2 t = if t = s then some x else new t) : Mid d d' r new2 (n + 1) :=
  ⟨h.size, h.regs, fun k hk => (h.small k hk).mono (by omega), h.other, h.up, fun t ht => by
    rw [hn]
    split
    · rename_i e; subst e; exact hx
    · exact h.read t ht, fun P hP ha => h.all P (fun t y hy => hP t y (by rw [hn, if_neg (fun e => by subst e; rw [hs] at hy; cases hy)]; exact hy)) ha⟩
theorem Mid.write {d d' : Dk} {r n s : Nat} {new new2 : Nat → Option (List UInt8)} {b : List UInt8} (h : Mid d d' r new n) (hr : r < d.regs.length) (hs : new s = none) (hn : ∀ t, new2 t = if t = s then some (pad b) else new t) : Mid d (d'.write r s b) r new2 (n + 1) := by
  have hr' : r < d'.regs.length := by rw [h.regs]; exact hr
  refine ⟨h.size, (Dk.write_regs _ _ _ _).trans h.regs, fun k hk => (h.small k hk).write _ _ _, fun q hq => ?_, fun ha => ?_, fun t ht => ?_, fun P hP ha => ?_⟩
  · refine ⟨?_, fun t ht => ?_⟩
    · rw [Dk.write_rg d' r s q b hr', if_neg hq]
      exact (h.other q hq).1
    · rw [Dk.read_write d' r s q t b hr', if_neg (fun e => hq e.1)]
      exact (h.other q hq).2 t ht
  · rw [Dk.write_rg d' r s r b hr', if_pos rfl]
    exact h.up ha
  · rw [Dk.read_write d' r s r t b hr', hn]
    by_cases e : t = s
    · rw [if_pos ⟨rfl, e⟩, if_pos e]
      rfl
    · rw [if_neg (fun h => e h.2), if_neg e]
      exact h.read t ht
  · refine Dk.All.write (h.all P (fun t y hy => hP t y (by rw [hn, if_neg (fun e => by subst e; rw [hs] at hy; cases hy)]; exact hy)) ha) hr' (hP s _ (by rw [hn, if_pos rfl]))
theorem Mid.fail {d d' : Dk} {r n n2 : Nat} {new new2 : Nat → Option (List UInt8)} (h : Mid d d' r new n) (hn : n ≤ n2) (hd : d'.down r = true) (hs : ∀ t x, new t = some x → new2 t = some x) : Did d d' r new2 n2 10 :=
  ⟨h.size, h.regs, fun k hk => (h.small k hk).mono (by omega), h.other, .inr rfl, fun ha => absurd hd (by rw [Dk.down_eq, h.up ha]; simp), fun e => absurd e (by decide), fun P hP => h.all P fun t x hx => hP t x (hs t x hx)⟩
theorem Dk.there_at {d : Dk} (h : d.Ok) {r s : Nat} (hr : r < d.regs.length) (hs : s < d.size) : d.there r s = true := (Dk.there_iff d r s).2 ⟨by omega, by omega, by omega, by omega⟩
theorem Mid.bar {d d' : Dk} {r n n2 : Nat} {new : Nat → Option (List UInt8)} (h : Mid d d' r new n) (ok : d'.Ok) (hr : r < d.regs.length) (hn : n ≤ n2) : Did d (d'.barD r) r new n2 (d'.barE r) := by
  have hr' : r < d'.regs.length := by rw [h.regs]; exact hr
  have ht : d'.there r 0 = true := Dk.there_at ok (s := 0) hr' ok.s1
  have hd : d'.barD r = if d'.down r = true then d' else d'.keep r fullM := by unfold Dk.barD; simp [ht, fullM]
  have he : d'.barE r = if d'.down r = true then 10 else 0 := by unfold Dk.barE; simp [ht]
  rw [hd, he]
  by_cases hdn : d'.down r = true
  · rw [if_pos hdn, if_pos hdn]
    exact h.fail hn hdn fun _ _ h => h
  · rw [if_neg hdn, if_neg hdn]
    refine ⟨h.size, (Dk.keep_regs _ _ _).trans h.regs, fun k hk => ((h.small k hk).keep _ _).mono (by omega), fun q hq => ⟨?_, fun t ht => ?_⟩, .inl rfl, fun ha => ⟨rfl, ?_⟩, fun _ => ⟨?_, fun t ht => ?_⟩, fun P hP ha => (h.all P hP ha).keep ok hr' _⟩
    · rw [Dk.keep_rg d' r _ q hr', if_neg hq]
      exact (h.other q hq).1
    · rw [Dk.read_keep_other d' ok r _ q t hr' (by rw [h.size]; exact ht) hq]
      exact (h.other q hq).2 t ht
    · rw [Dk.keep_rg d' r _ r hr', if_pos rfl]
      exact h.up ha
    · rw [Dk.keep_rg d' r _ r hr', if_pos rfl]
    · rw [Dk.read_keep_full d' ok r r t hr' (by rw [h.size]; exact ht)]
      exact h.read t ht
theorem Dk.wrE_at {d : Dk} (ok : d.Ok) {r s : Nat} {b : List UInt8} (hr : r < d.regs.length) (hs : s < d.size) (hb : b.length ≤ 64) : d.wrE r s b = if d.down r = true then 10 else 0 := by
  unfold Dk.wrE
  rw [if_neg (by rw [Dk.there_at ok hr hs]; simp; exact hb)]
  rfl
theorem Dk.wrD_at {d : Dk} (ok : d.Ok) {r s : Nat} {b : List UInt8} (hr : r < d.regs.length) (hs : s < d.size) (hb : b.length ≤ 64) : d.wrD r s b = if d.down r = true then d else d.write r s b := by
  unfold Dk.wrD
  rw [if_neg (by rw [Dk.there_at ok hr hs]; simp; exact hb)]
  rfl
theorem Dk.readI_at {d : Dk} (ok : d.Ok) {r s : Nat} (hr : r < d.regs.length) (hs : s < d.size) : d.readI r s = d.read r s := by
  unfold Dk.readI
  rw [if_pos (Dk.there_at ok hr hs)]
  rfl

/-! ### A disk in memory, going on -/
/-- from w, where the disk's blocks were S, to w': its blocks are S' now, the disk d; nothing of old but of S has changed -/
structure Dt (w : World) (S : Nat → Prop) (w' : World) (S' : Nat → Prop) (p : Nat) (d : Dk) : Prop where
  dsk : Dsk w' S' p d
  but : ButS w w' S
  sub : ∀ b, S' b → Fresh S w w' b
  low : ∀ b, S b → b < w.heap.size
theorem Dsk.low {w : World} {S : Nat → Prop} {p : Nat} {d : Dk} (h : Dsk w S p d) : ∀ b, S b → b < w.heap.size := by
  obtain ⟨gd, gr, vs, h⟩ := h
  exact h.low
theorem grown_setCell (w : World) (b j : Nat) (u : Value) : w.grownBy (w.setCell ⟨b, j, none⟩ u) (some b) :=
  ⟨rfl, rfl, rfl, by simp [World.setCell], fun i hi hn => Below.heap_setCell w ⟨b, j, none⟩ u i (fun e => hn (by rw [e]))⟩
section
variable {w w1 w2 : World} {S S1 S2 : Nat → Prop} {p : Nat} {d d' : Dk}
theorem Dt.start (h : Dsk w S p d) : Dt w S w S p d := ⟨h, ButS.refl w S, fun _ h => .inl h, h.low⟩
theorem Dt.keep (h : Dt w S w1 S1 p d) (k : Keep w1 w2) : Dt w S w2 S1 p d := ⟨h.dsk.keep k, h.but.keep k, fun b hb => (h.sub b hb).imp id fun ⟨a, c⟩ => ⟨a, Nat.lt_of_lt_of_le c k.size⟩, h.low⟩
theorem Dt.step (h : Dt w S w1 S1 p d) (k : Dt w1 S1 w2 S2 p d') : Dt w S w2 S2 p d' := by
  have hs := h.but.size
  refine ⟨k.dsk, ⟨k.but.os.trans h.but.os, k.but.tape.trans h.but.tape, k.but.output.trans h.but.output, Nat.le_trans h.but.size k.but.size, fun b hb hn => ?_⟩, fun b hb => ?_, h.low⟩
  · refine (k.but.block b (by omega) fun h1 => ?_).trans (h.but.block b hb hn)
    rcases h.sub b h1 with h2 | h2
    · exact hn h2
    · omega
  · rcases k.sub b hb with h1 | ⟨h1, h2⟩
    · rcases h.sub b h1 with h3 | ⟨h3, h4⟩
      · exact .inl h3
      · exact .inr ⟨h3, Nat.lt_of_lt_of_le h4 k.but.size⟩
    · exact .inr ⟨by omega, h2⟩
theorem Dt.of (h0 : ∀ b, S b → b < w.heap.size) (h : Dsk w1 (Fresh S w w1) p d) (hb : ButS w w1 S) : Dt w S w1 (Fresh S w w1) p d := ⟨h, hb, fun _ h => h, h0⟩
theorem Dt.old (h0 : ∀ b, S b → b < w.heap.size) (h : Dsk w1 S p d) (hb : ButS w w1 S) : Dt w S w1 S p d := ⟨h, hb, fun b hb => .inl hb, h0⟩
/-- a block of one's own changes -/
theorem Dt.other (h : Dt w S w1 S1 p d) {b : Nat} (hb : w.heap.size ≤ b) (hn : ¬ S1 b) (g : w1.grownBy w2 (some b)) : Dt w S w2 S1 p d := by
  obtain ⟨gd, gr, vs, h1⟩ := h.dsk
  refine ⟨⟨gd, gr, vs, h1.at (fun x hx => g.block x (h1.low x hx) (fun e => hn (by cases e; exact hx))) g.size⟩, h.but.grown g (fun k e hk => by cases e; omega), fun x hx => (h.sub x hx).imp id fun ⟨a, c⟩ => ⟨a, Nat.lt_of_lt_of_le c g.size⟩, h.low⟩
theorem Dt.own (h : Dt w S w1 S1 p d) {b : Nat} (hb : w.heap.size ≤ b) (hn : ¬ S1 b) (i : Nat) (v : Value) : Dt w S (w1.setCell ⟨b, i, none⟩ v) S1 p d := h.other hb hn (grown_setCell w1 b i v)
theorem Dt.lift (h : Dt w S w1 S1 p d) : Dt w S w1 (Fresh S w w1) p d := by
  obtain ⟨gd, gr, vs, h1⟩ := h.dsk
  refine ⟨⟨gd, gr, vs, h1.weak h.sub (fun b hb => ?_)⟩, h.but, fun _ h => h, h.low⟩
  rcases hb with hb | hb
  · exact Nat.lt_of_lt_of_le (h.low b hb) h.but.size
  · exact hb.2
theorem Dt.not_in (h : Dt w S w1 S1 p d) {g : Nat} (hg : g < w.heap.size) (hn : ¬ S g) : ¬ S1 g := fun h1 => (h.sub g h1).elim hn (fun h2 => by omega)
theorem Dt.same (h : Dt w S w1 S1 p d) {g : Nat} (hg : g < w.heap.size) (hn : ¬ S g) : w1.heap[g]? = w.heap[g]? := h.but.block g hg hn
theorem Dt.ok (h : Dt w S w1 S1 p d) : d.Ok := h.dsk.ok
theorem Dt.keeps {w0 : World} (h : Dt w S w1 S1 p d) (k : Keep w0 w) (hS : ∀ b, S b → w0.heap.size ≤ b) : Keep w0 w1 := Below.trans k (h.but.below w0.heap.size k.size hS)
theorem Dt.below (h : Dt w S w1 S1 p d) {B : Nat} (hB : B ≤ w.heap.size) (hS : ∀ b, S b → B ≤ b) : Below B w w1 := h.but.below B hB hS
end
end Go.Proofs.Ythknhonpcmneaaa
