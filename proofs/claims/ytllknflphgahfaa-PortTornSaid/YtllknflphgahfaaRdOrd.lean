/- Readers in regions that draw their order. -/
import Derived.Test.YtllknflphgahfaaReader2
import Derived.Test.YtllknflphgahfaaTell
namespace Go.Proofs.Ytllknflphgahfaa
open Go Go.RowKit
attribute [local irreducible] Go.wpQuiet

set_option maxHeartbeats 1000000 in
theorem new_raw (a0 : Option Addr) (n0 c0 : Nat) (w : World) :
    Calls Try.prog 22 #[.slice a0 n0 c0] w fun e w' => e = .returned (.pointer (some ⟨w.heap.size, 0, none⟩)) ∧ w' = w.alloc (.cells #[.slice a0 n0 c0, .bool false] 57) := by
  go_enter Try.func22, Try.ntmps22
  go_wp2
  go_ret
  exact ⟨rfl, rfl⟩

/-- a reader of the region's own -/
def oRd (n : Nat) (s : Pk.RS) : Tell := ⟨fun v w S => ∃ g, v = .pointer (some ⟨g, 0, none⟩) ∧ n ≤ g ∧ S g ∧ ∃ u, w.heap[g]? = some (.cells #[u, .bool s.bad] 57) ∧ SlB w u s.l ∧ Low n u s.l ∧ (s.l.map B ≠ [] → In S u),
  fun v w w' S S' hs hb ⟨g, h1, h2, h3, u, h4, h5, h6, h7⟩ => by
    have h8 := hb g (Array.getElem?_eq_some_iff.1 h4).1 h3
    have h9 := Sl.lasts h5 h7 hb
    exact ⟨g, h1, h2, h8.1, u, h8.2.trans h4, h9.1, h6, h9.2⟩⟩
theorem Low.mono {m n : Nat} {v : Value} {l : List UInt8} (h : Low m v l) (hm : m ≤ n) : Low n v l := fun hl a k c e => Nat.lt_of_lt_of_le (h hl a k c e) hm
theorem oRd.get {n : Nat} {s : Pk.RS} {g : Nat} {w : World} {S : Nat → Prop} (h : (oRd n s).φ (.pointer (some ⟨g, 0, none⟩)) w S) : n ≤ g ∧ S g ∧ Rd w g s := by
  obtain ⟨g', e, h2, h3, u, h4, h5, h6, h7⟩ := h
  simp only [Value.pointer.injEq, Option.some.injEq, Addr.mk.injEq, and_true] at e
  subst e
  exact ⟨h2, h3, u, h4, h5, h6.mono h2⟩
theorem moved_but {n c k : Nat} {w w' : World} {own : Nat → Nat} {g : Nat} (hb : But w w' g) (hn : n ≤ g) (ho : blocksOf n own k g) (hc : c.testBit k = true) : Moved n c w own w' :=
  ⟨hb.size, fun b hbw hor => hb.block b hbw (fun e => by
    cases e
    rcases ho with h | h
    · omega
    · rw [h] at hor
      rcases hor with h' | h'
      · omega
      · rw [hc] at h'; cases h')⟩
/-- pack.New in such a region -/
theorem oRd.made {n : Nat} {wk w : World} {a0 : Option Addr} {n0 c0 : Nat} {l : List UInt8} (hk : Keep wk w) (hv : SlB wk (.slice a0 n0 c0) l) (hn : n = wk.heap.size) :
    ∀ S : Nat → Prop, (∀ b, b < n ∨ w.heap.size ≤ b → S b) → (oRd n ⟨l, false⟩).φ (.pointer (some ⟨w.heap.size, 0, none⟩)) (w.alloc (.cells #[.slice a0 n0 c0, .bool false] 57)) S := by
  intro S hS
  subst hn
  have hlow := Low.of hv
  refine ⟨_, rfl, hk.size, hS _ (.inr (Nat.le_refl _)), _, heap_alloc_new w _, (hv.keep hk).keep (Keep.alloc _ _), hlow, fun hne a m c e => hS _ (.inl (hlow (fun e => hne (by show List.map B l = []; rw [e]; rfl)) a m c e))⟩
theorem numN_len (s : Pk.RS) (n : Int) : (Pk.numN s n).2.l.length ≤ s.l.length := (Pk.take_len s _).2
theorem text_len (s : Pk.RS) : (Pk.text s).2.l.length ≤ s.l.length := Nat.le_trans (Pk.take_len _ _).2 (numN_len s 1)
theorem take_upto (s : Pk.RS) (n : Nat) : (Pk.take s n).1.length ≤ n := by
  unfold Pk.take
  split
  · simp
  · simp; omega
theorem numN_lt (s : Pk.RS) (n : Nat) (h : 1 ≤ n ∧ n ≤ 8) : (Pk.numN s n).1 < 256 ^ n := by
  unfold Pk.numN
  rw [if_neg (by omega)]
  have h1 := take_upto s n
  have h2 := Pk.num_lt_pow (Pk.take s n).1 (by omega)
  exact Nat.lt_of_lt_of_le h2 (Nat.pow_le_pow_right (by omega) h1)
theorem text_lt (s : Pk.RS) : (Pk.text s).1.length < 256 := by
  have h1 := numN_lt s 1 (by omega)
  have h2 := take_upto (Pk.numN s 1).2 (Pk.numN s 1).1
  unfold Pk.text
  rw [Int.natCast_one] at h1
  simp only
  omega
/-- a block that is not the reader's -/
theorem But.at {w w' : World} {rb g : Nat} {o : Obj} (hb : But w w' rb) (hne : g ≠ rb) (h : w.heap[g]? = some o) : w'.heap[g]? = some o :=
  (hb.block g (Array.getElem?_eq_some_iff.1 h).1 (fun e => hne (Option.some.inj e))).trans h
end Go.Proofs.Ytllknflphgahfaa
