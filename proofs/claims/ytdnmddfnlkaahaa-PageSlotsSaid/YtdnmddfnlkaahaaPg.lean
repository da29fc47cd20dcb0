/- Pages in memory, and the walks of Slot. -/
import Derived.Test.YtdnmddfnlkaahaaPgL
import Derived.Test.YtdnmddfnlkaahaaEqB
import Derived.Test.YtdnmddfnlkaahaaCopy
import Derived.Test.YtdnmddfnlkaahaaCellOf
namespace Go.Proofs.Ytdnmddfnlkaahaa
open Go Go.RowKit
attribute [local irreducible] Go.wpQuiet

def Pg.cells (p : Pg) : List Value := .int .u64 (p.mark : Int) :: .int .i64 p.tenant :: .int .i64 p.number :: p.slots.flatten.map B
def Pg.val (p : Pg) : Value := .agg p.cells.toArray
theorem Pg.Ok.cells {p : Pg} (h : p.Ok) : p.cells.length = 203 := by simp only [Pg.cells, List.length_cons, List.length_map, h.flat]
theorem Pg.cells_one (p : Pg) : ∀ c ∈ p.cells, c.oneCell' = true := by
  intro c hc
  simp only [Pg.cells, List.mem_cons] at hc
  rcases hc with rfl | rfl | rfl | hc
  · rfl
  · rfl
  · rfl
  · exact B_oneCell _ c hc
theorem bigP : BigOk Try.prog 36 203 Pg.zero.cells := BigOk.of (.inl ⟨_, Try.underlying36⟩) (by kernel_rfl)
theorem bigS : BigOk Try.prog 33 40 ((zB 40).map B) := BigOk.of (.inr ⟨_, _, Try.underlying33⟩) (by kernel_rfl)
theorem info_u8 : ∃ i, Try.prog.info? 5 = some i := by
  cases h : Try.prog.info? 5 with
  | none => exact absurd (show (Try.prog.info? 5).isSome = true by kernel_rfl) (by rw [h]; decide)
  | some i => exact ⟨i, rfl⟩
/-- arrays of 40 bytes compared -/
theorem run_eq_slot (w : World) (a b : List UInt8) (ha : a.length = 40) (hb : b.length = 40) :
    (Op.equal 33 (.agg (a.map B).toArray) (.agg (b.map B).toArray)).run Try.prog w = .ok (decide (a = b)) w := by
  obtain ⟨i, hi⟩ := info_u8
  exact run_eq_bytes w 9998 Try.underlying33 hi (by kernel_rfl) Try.underlying5 a b ha hb
/-- pages compared -/
theorem run_eq_page (w : World) (p q : Pg) (hp : p.Ok) (hq : q.Ok) : (Op.equal 36 p.val q.val).run Try.prog w = .ok (decide (p = q)) w := by
  have hs : Try.prog.stoodInHeld 36 = false := by kernel_rfl
  obtain ⟨fs, hfs, hfe⟩ : ∃ fs, Try.prog.underlying 36 = some (.struct fs) ∧ Try.prog.fieldsOf 36 = fs := ⟨_, Try.underlying36, by simp only [Program.fieldsOf, Try.underlying36]⟩
  have h1 := run_equalIn_struct w 9999 36 p.cells.toArray q.cells.toArray (by rw [hfe]; exact hfs) hs
  rw [hfe] at h1
  have h0 := hfs.symm.trans Try.underlying36
  simp only [Option.some.injEq, TypeDesc.struct.injEq] at h0
  subst h0
  refine Eq.trans h1 ?_
  obtain ⟨i5, hi5⟩ := info_u8
  have hi33 : ∃ i, Try.prog.info? 33 = some i := by
    obtain ⟨i, h, _⟩ := bigS.hi
    exact ⟨i, h⟩
  obtain ⟨i33, hi33⟩ := hi33
  have big34 : BigOk Try.prog 34 200 ((List.replicate 5 (zB 40)).flatten.map B) := BigOk.of (.inr ⟨_, _, Try.underlying34⟩) (by kernel_rfl)
  have e3 := run_eq_rows w 9996 Try.underlying34 hi33 bigS Try.underlying33 hi5 (by kernel_rfl) Try.underlying5 p.slots q.slots hp.n hq.n hp.k hq.k
  have pp : ∀ (r : Pg) (hr : r.Ok), (part 34 r.cells.toArray 3).run Try.prog w = .ok (.agg (r.slots.flatten.map B).toArray) w := by
    intro r hr
    rw [run_part_big w big34]
    have e : (r.cells.drop 3).take 200 = r.slots.flatten.map B := List.take_of_length_le (by show (r.slots.flatten.map B).length ≤ 200; rw [List.length_map, hr.flat]; exact Nat.le_refl _)
    rw [e]
  have p0 : ∀ (r : Pg), (part 32 r.cells.toArray 0).run Try.prog w = .ok (.int .u64 r.mark) w := fun r => run_part_plain w (by simp [Program.plainKey, Try.underlying32]) rfl
  have p1 : ∀ (r : Pg), (part 3 r.cells.toArray 1).run Try.prog w = .ok (.int .i64 r.tenant) w := fun r => run_part_plain w (by simp [Program.plainKey, Try.underlying3]) rfl
  have p2 : ∀ (r : Pg), (part 3 r.cells.toArray 2).run Try.prog w = .ok (.int .i64 r.number) w := fun r => run_part_plain w (by simp [Program.plainKey, Try.underlying3]) rfl
  have hd : decide (p = q) = (((p.mark : Int) == q.mark) && ((p.tenant == q.tenant) && ((p.number == q.number) && decide (p.slots = q.slots)))) := by
    rw [Bool.eq_iff_iff]
    cases p; cases q
    simp
    intros
    omega
  rw [hd]
  simp only [Op.eqFields, Sem.run_bind, Sem.run_ite, p0, p1, p2, pp p hp, pp q hq, Result.andThen_ok, run_equalIn_int w 9998 32 .u64 .u64 _ _ Try.underlying32, run_equalIn_int w 9998 3 .i64 .i64 _ _ Try.underlying3, e3]
  cases h1 : ((p.mark : Int) == q.mark) <;> cases h2 : (p.tenant == q.tenant) <;> cases h3 : (p.number == q.number) <;> cases h4 : decide (p.slots = q.slots) <;> simp
/-- a page that lies in a block of its own -/
structure PgAt (w : World) (g : Nat) (p : Pg) : Prop where
  h : w.heap[g]? = some (.cells p.cells.toArray 36)
  ok : p.Ok
theorem PgAt.lt {w : World} {g : Nat} {p : Pg} (h : PgAt w g p) : g < w.heap.size := (Array.getElem?_eq_some_iff.1 h.h).1
theorem PgAt.keep {w w' : World} {g : Nat} {p : Pg} (h : PgAt w g p) (k : Keep w w') : PgAt w' g p := ⟨(k.block g h.lt).trans h.h, h.ok⟩
theorem PgAt.at {w w' : World} {g : Nat} {p : Pg} (h : PgAt w g p) (e : w'.heap[g]? = w.heap[g]?) : PgAt w' g p := ⟨e.trans h.h, h.ok⟩
theorem PgAt.heads {w : World} {g : Nat} {p : Pg} (h : PgAt w g p) : w.cell? ⟨g, 0, none⟩ = some (.int .u64 p.mark) ∧ w.cell? ⟨g, 1, none⟩ = some (.int .i64 p.tenant) ∧ w.cell? ⟨g, 2, none⟩ = some (.int .i64 p.number) := ⟨cell_of h.h 0 _ rfl, cell_of h.h 1 _ rfl, cell_of h.h 2 _ rfl⟩
theorem Pg.cells_slot {p : Pg} (h : p.Ok) (i : Nat) (hi : i < 5) (j : Nat) (v : Value) (hv : ((p.raw i).map B)[j]? = some v) : p.cells[3 + i * 40 + j]? = some v := by
  have e := flat_part 40 p.slots i (by rw [h.n]; exact hi) h.k
  rw [Pg.raw_get (by rw [h.n]; exact hi), ← e] at hv
  obtain ⟨hj, _⟩ := List.getElem?_eq_some_iff.1 hv
  rw [List.length_take] at hj
  rw [List.getElem?_take, if_pos (by omega), List.getElem?_drop] at hv
  have : p.cells[3 + i * 40 + j]? = (p.slots.flatten.map B)[i * 40 + j]? := by
    rw [show 3 + i * 40 + j = i * 40 + j + 1 + 1 + 1 by omega]
    rfl
  rw [this]
  exact hv
theorem PgAt.slotCell {w : World} {g : Nat} {p : Pg} (h : PgAt w g p) (i : Nat) (hi : i < 5) (j : Nat) (v : Value) (hv : ((p.raw i).map B)[j]? = some v) : w.cell? ⟨g, 3 + i * 40 + j, none⟩ = some v := cell_of h.h _ v (by simpa using Pg.cells_slot h.ok i hi j v hv)
/-- a slot's bytes, as a slice -/
theorem PgAt.slice {w : World} {g : Nat} {p : Pg} (h : PgAt w g p) (i : Nat) (hi : i < 5) : SlB w (.slice (some ⟨g, 3 + i * 40, none⟩) 40 40) (p.raw i) := by
  have hl := h.ok.raw hi
  refine ⟨_, 40, by rw [List.length_map, hl], by rw [List.length_map, hl]; decide, ⟨by rw [List.length_map, hl]; decide, fun e => by cases e⟩, fun j hj => ⟨g, _, rfl, ?_⟩⟩
  exact h.slotCell i hi j _ (List.getElem?_eq_getElem hj)
theorem run_buildS (w : World) : (Instr.build 33 #[]).run Try.prog w = .ok (.agg ((zB 40).map B).toArray) w := run_build w _ _ _ (by kernel_rfl)
end Go.Proofs.Ytdnmddfnlkaahaa
