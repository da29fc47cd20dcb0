/- The walks of the small words on rows; slices of rows. -/
import Derived.Test.YtdnmddfnlkaahaaRwP
import Derived.Test.YtdnmddfnlkaahaaPack
import Derived.Test.YtdnmddfnlkaahaaZeros
import Derived.Test.YtdnmddfnlkaahaaTell
import Derived.Test.YtdnmddfnlkaahaaSlC
import Derived.Test.YtdnmddfnlkaahaaSlK
import Derived.Deep.Cut
namespace Go.Proofs.Ytdnmddfnlkaahaa
open Go Go.RowKit
attribute [local irreducible] Go.wpQuiet

/-- a row as a value, as cells -/
def Rw.val (r : Rw) : Value := .agg #[.int .i64 r.t, strV r.k, strV r.v]
def Rw.cells (r : Rw) : List Value := [.int .i64 r.t, .string ⟨r.k.toArray⟩, .string ⟨r.v.toArray⟩]
theorem Rw.cells_length (r : Rw) : r.cells.length = 3 := rfl
theorem Rw.cells_one {r : Rw} : ∀ c ∈ r.cells, c.oneCell' = true := by
  intro c hc
  simp only [Rw.cells, List.mem_cons, List.not_mem_nil, or_false] at hc
  rcases hc with rfl | rfl | rfl <;> rfl
theorem Rw.cells_map_length (l : List Rw) : ∀ c ∈ l.map Rw.cells, c.length = 3 := by
  intro c hc
  obtain ⟨r, _, rfl⟩ := List.mem_map.1 hc
  rfl
theorem Rw.cells_map_one (l : List Rw) : ∀ y ∈ l.map Rw.cells, ∀ c ∈ y, c.oneCell' = true := by
  intro y hy c hc
  obtain ⟨r, _, rfl⟩ := List.mem_map.1 hy
  exact Rw.cells_one c hc

set_option maxHeartbeats 1000000 in
theorem right_any (r : Rw) (w : World) :
    Calls Try.prog 13 #[r.val] w fun e w' => e = .returned (.bool r.right) ∧ Keep w w' := by
  have hs1 := size_str r.k
  have hs2 := size_str r.v
  have hR : r.right = (decide (0 ≤ r.t) && decide (r.t < 4) && decide (r.k.length ≤ 15) && decide (r.v.length ≤ 21)) := rfl
  unfold Rw.val strV
  rw [hR]
  clear hR
  obtain ⟨t, k, v⟩ := r
  simp only at *
  by_cases h1 : 0 ≤ t
  · by_cases h2 : t < 4
    · by_cases h3 : k.length ≤ 15
      · by_cases h4 : v.length ≤ 21
        · go_enter Try.func13, Try.ntmps13
          go_wp2
          go_ret
          exact ⟨ret_bool (by first | (simp [h1, h2, h3, h4]; done) | (simp [h1, h2, h3, h4]; omega)), Keep.alloc _ _⟩
        · go_enter Try.func13, Try.ntmps13
          go_wp2
          go_ret
          exact ⟨ret_bool (by first | (simp [h1, h2, h3, h4]; done) | (simp [h1, h2, h3, h4]; omega)), Keep.alloc _ _⟩
      · go_enter Try.func13, Try.ntmps13
        go_wp2
        go_ret
        exact ⟨ret_bool (by first | (simp [h1, h2, h3]; done) | (simp [h1, h2, h3]; omega)), Keep.alloc _ _⟩
    · go_enter Try.func13, Try.ntmps13
      go_wp2
      go_ret
      exact ⟨ret_bool (by first | (simp [h1, h2]; done) | (simp [h1, h2]; omega)), Keep.alloc _ _⟩
  · go_enter Try.func13, Try.ntmps13
    go_wp2
    go_ret
    exact ⟨ret_bool (by first | (simp [h1]; done) | (simp [h1]; omega)), Keep.alloc _ _⟩

/-- v is a slice of rows -/
def SlR (w : World) (v : Value) (l : List Rw) : Prop := SlC w v 3 (l.map Rw.cells)
theorem SlR.keep {w w' : World} (hk : Keep w w') {v : Value} {l : List Rw} (h : SlR w v l) : SlR w' v l := SlC.keep hk h
theorem SlR.nil (w : World) : SlR w (.slice none 0 0) [] := SlC.nil w 3
theorem SlR.form {w : World} {v : Value} {l : List Rw} (h : SlR w v l) : ∃ ao cap, v = .slice ao l.length cap ∧ l.length ≤ maxLen ∧ l.length ≤ cap := by
  have := SlC.form h
  rwa [List.length_map] at this
theorem SlR.elem {w : World} {ao : Option Addr} {n cap : Nat} {l : List Rw} (h : SlR w (.slice ao n cap) l) (i : Nat) (hi : i < l.length) : ∃ b off, ao = some ⟨b, off, none⟩ ∧ w.cell? ⟨b, off + i * 3, none⟩ = some (.int .i64 l[i].t) ∧ w.cell? ⟨b, off + i * 3 + 1, none⟩ = some (.string ⟨l[i].k.toArray⟩) ∧ w.cell? ⟨b, off + i * 3 + 2, none⟩ = some (.string ⟨l[i].v.toArray⟩) := by
  obtain ⟨b, off, ha, hc⟩ := SlC.cells h (by rw [List.length_map]; omega)
  have e : (l.map Rw.cells)[i]'(by rw [List.length_map]; exact hi) = l[i].cells := by rw [List.getElem_map]
  have hc' := hc i (by rw [List.length_map]; exact hi)
  rw [e] at hc'
  exact ⟨b, off, ha, hc' 0 _ rfl, hc' 1 _ rfl, hc' 2 _ rfl⟩
/-- where they lie, if there are some -/
theorem SlR.there {w : World} {ao : Option Addr} {n cap : Nat} {l : List Rw} (h : SlR w (.slice ao n cap) l) (h0 : 0 < l.length) : ∃ b off, ao = some ⟨b, off, none⟩ ∧ b < w.heap.size ∧ ∀ i (hi : i < l.length), w.cell? ⟨b, off + i * 3, none⟩ = some (.int .i64 l[i].t) ∧ w.cell? ⟨b, off + i * 3 + 1, none⟩ = some (.string ⟨l[i].k.toArray⟩) ∧ w.cell? ⟨b, off + i * 3 + 2, none⟩ = some (.string ⟨l[i].v.toArray⟩) := by
  obtain ⟨b, off, rfl, h1, _⟩ := h.elem 0 h0
  refine ⟨b, off, rfl, World.block_lt_of_cell? w _ h1, fun i hi => ?_⟩
  obtain ⟨b', off', e, h2⟩ := h.elem i hi
  cases e
  exact h2
theorem SlR.first {w : World} {ao : Option Addr} {n cap : Nat} {l : List Rw} (h : SlR w (.slice ao n cap) l) (hi : Nat) (h2 : hi ≤ n) : SlR w (.slice ao hi cap) (l.take hi) := by
  unfold SlR
  rw [List.map_take]
  exact SlC.first h hi h2
/-- v is the call's own slice of rows -/
def OwnR (w : World) (base : Nat) (v : Value) (l : List Rw) : Prop := OwnK w base 24 3 v (l.map Rw.cells)
theorem OwnR.nil (w : World) (base : Nat) : OwnR w base (.slice none 0 0) [] := OwnK.nil w base _ 3
theorem OwnR.keep {w w' : World} {base : Nat} {v : Value} {l : List Rw} (h : OwnR w base v l) (hk : Keep w w') : OwnR w' base v l := OwnK.keep h hk
theorem OwnR.at {w w' : World} {base : Nat} {v : Value} {l : List Rw} (h : OwnR w base v l) (hk : ∀ g, v.ownBlock = some g → g < w.heap.size → w'.heap[g]? = w.heap[g]?) : OwnR w' base v l := OwnK.at h hk
theorem OwnR.slr {w : World} {base : Nat} {v : Value} {l : List Rw} (h : OwnR w base v l) : SlR w v l := OwnK.slc h (by decide)
theorem OwnR.lt {w : World} {base : Nat} {v : Value} {l : List Rw} (h : OwnR w base v l) : ∀ g, v.ownBlock = some g → base ≤ g ∧ g < w.heap.size := OwnK.lt h
theorem OwnR.mono {w : World} {base base' : Nat} {v : Value} {l : List Rw} (h : OwnR w base v l) (hb : base' ≤ base) : OwnR w base' v l := OwnK.mono h hb

theorem elemR : ElemK Try.prog 22 24 (.agg #[.int .i64 0, .string ⟨#[]⟩, .string ⟨#[]⟩]) 3 40 :=
  ElemK.of Try.underlying22 (by kernel_rfl) rfl (by decide)
/-- **append(v, u...)** of rows, v the call's own -/
theorem Gives.appendR {o : Oper} {a : Act} {w : World} {S : Value → World → Prop} (s x : Operand)
    (ho : o.op = .call { callee := .builtin .append, args := #[s, x], argTypes := #[22, 22] }) {base : Nat} {v u : Value} {l k : List Rw} (hs : a.eval s = v) (hx : a.eval x = u)
    (hown : OwnR w base v l) (hu : SlR w u k) (hn : l.length + k.length ≤ 1000000000) (hbase : base ≤ w.heap.size)
    (h : ∀ v' w', OwnR w' base v' (l ++ k) → w.grownBy w' v.ownBlock → S v' w') : Gives Try.prog o a w S := by
  refine Gives.appendK elemR s x ho hs hx hown hu (Rw.cells_map_length k) (Rw.cells_map_one k) (by unfold maxLen; simp; omega) (by simp; omega) hbase fun v' w' h1 h2 => h v' w' ?_ h2
  unfold OwnR
  rw [List.map_append]
  exact h1
theorem SlR.laid {w : World} (r : Rw) : SlR (w.alloc (.cells #[.int .i64 r.t, .string ⟨r.k.toArray⟩, .string ⟨r.v.toArray⟩] 24)) (.slice (some ⟨w.heap.size, 0, none⟩) 1 1) [r] :=
  SlC.laid (w := w) 24 (0, 0) 3 r.cells rfl
/-- a row in a variable of its own -/
def RwAt (w : World) (g : Nat) (r : Rw) : Prop := w.heap[g]? = some (.cells #[.int .i64 r.t, .string ⟨r.k.toArray⟩, .string ⟨r.v.toArray⟩] 24)
theorem RwAt.new (w : World) (r : Rw) : RwAt (w.alloc (.cells #[.int .i64 r.t, .string ⟨r.k.toArray⟩, .string ⟨r.v.toArray⟩] 24)) w.heap.size r := heap_alloc_new w _
theorem RwAt.keep {w w' : World} {g : Nat} {r : Rw} (hk : Keep w w') (h : RwAt w g r) : RwAt w' g r := (hk.block g (Array.getElem?_eq_some_iff.1 h).1).trans h
theorem RwAt.lt {w : World} {g : Nat} {r : Rw} (h : RwAt w g r) : g < w.heap.size := (Array.getElem?_eq_some_iff.1 h).1
theorem RwAt.cells {w : World} {g : Nat} {r : Rw} (h : RwAt w g r) : w.cell? ⟨g, 0, none⟩ = some (.int .i64 r.t) ∧ w.cell? ⟨g, 1, none⟩ = some (.string ⟨r.k.toArray⟩) ∧ w.cell? ⟨g, 2, none⟩ = some (.string ⟨r.v.toArray⟩) := by
  refine ⟨?_, ?_, ?_⟩ <;> (unfold World.cell?; simp [show w.heap[g]? = _ from h])
end Go.Proofs.Ytdnmddfnlkaahaa
