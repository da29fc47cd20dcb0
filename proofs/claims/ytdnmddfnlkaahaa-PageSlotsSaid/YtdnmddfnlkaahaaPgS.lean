/- The walks of page.Slot, Set, Free. -/
import Derived.Test.YtdnmddfnlkaahaaPg
import Derived.Deep.CutRange
import Derived.Test.YtdnmddfnlkaahaaTail
import Derived.Test.YtdnmddfnlkaahaaConv
import Derived.WalkMore
import Derived.Test.YtdnmddfnlkaahaaReaderG
namespace Go.Proofs.Ytdnmddfnlkaahaa
open Go Go.RowKit
attribute [local irreducible] Go.wpQuiet

theorem Pg.slot_at {p : Pg} {q : Nat} (hq : q < 5) (h : p.raw q ≠ zB 40) : p.slot q = p.raw q := by
  unfold Pg.slot
  rw [Int.toNat_natCast, if_pos ⟨by omega, by omega, h⟩]
theorem Pg.slot_free {p : Pg} {q : Nat} (h : p.raw q = zB 40) : p.slot q = [] := by
  unfold Pg.slot
  rw [Int.toNat_natCast, if_neg (fun hh => hh.2.2 h)]
theorem Pg.slot_out {p : Pg} {i : Int} (h : ¬ (0 ≤ i ∧ i < 5)) : p.slot i = [] := by
  unfold Pg.slot
  rw [if_neg (fun hh => h ⟨hh.1, hh.2.1⟩)]
/-- two arrays of 40 bytes compared, as an operation -/
theorem exec_eq_slot {o : Oper} {a : Act} (x y : Operand) (ho : o.op = .binOp .eql 33 x y 33) {b c : List UInt8} (hx : a.eval x = .agg (b.map B).toArray) (hy : a.eval y = .agg (c.map B).toArray) (hb : b.length = 40) (hc : c.length = 40) (w : World) :
    (execOp a.eval o).run Try.prog w = .ok (.value (.bool (decide (b = c)))) w := by
  have hg : Try.prog.eqGuardType Try.prog.depth 33 = false := by kernel_rfl
  unfold execOp
  simp only [ho, hx, hy, eqGuard, binOp, Sem.run_bind, run_program, hg, Result.andThen_ok, Bool.not_false, if_true, Sem.run_pure, run_eq_slot w b c hb hc]
  simp [hg, run_eq_slot w b c hb hc]
theorem exec_buildS {o : Oper} {a : Act} (ho : o.op = .build 33 #[]) (w : World) : (execOp a.eval o).run Try.prog w = .ok (.value (.agg ((zB 40).map B).toArray)) w := by
  unfold execOp
  simp only [ho, List.map_toArray, List.map_nil, Sem.run_bind, run_buildS w, Result.andThen_ok, Sem.run_pure]
set_option maxHeartbeats 4000000 in
theorem slot_any (g : Nat) (p : Pg) (i : Int) (w : World) (h : PgAt w g p) : Calls Try.prog 17 #[.pointer (some ⟨g, 0, none⟩), .int .i64 i] w fun e w' => e = .returned (.string ⟨(p.slot i).toArray⟩) ∧ w = w' := by
  obtain ⟨D, hD⟩ : ∃ D, p.slot i = D := ⟨_, rfl⟩
  rw [hD]
  have HD := Lib.hid hD
  clear hD
  go_enter Try.func17, Try.ntmps17
  by_cases h0 : i < 0
  · have e : D = [] := HD.out.symm.trans (Pg.slot_out (by omega))
    subst e
    go_wp2
    go_ret
    exact ⟨rfl, rfl⟩
  by_cases h5 : 5 ≤ i
  · have e : D = [] := HD.out.symm.trans (Pg.slot_out (by omega))
    subst e
    go_wp2
    go_ret
    exact ⟨rfl, rfl⟩
  obtain ⟨q, rfl⟩ := Int.eq_ofNat_of_zero_le (show 0 ≤ i by omega)
  have hq : q < 5 := by omega
  have hr := h.ok.raw hq
  have hs := h.slice q hq
  have hc := h.slotCell q hq
  go_upto_region 1 with (fail)
  refine wp_region_seq ?_
  refine seqW_pure rfl ?_
  go_big_quiet_step (fail)
  refine seqW_on ?_
  refine seqW_pure rfl ?_
  go_big_quiet_step (fail)
  refine seqW_on ?_
  refine seqW_pure rfl ?_
  go_big_quiet_step (fail)
  refine seqW_on ?_
  refine seqW_pure rfl ?_
  go_big_quiet_step (fail)
  refine seqW_on ?_
  refine seqW_pure rfl ?_
  go_big_quiet_step (fail)
  refine seqW_on ?_
  refine seqW_pure rfl ?_
  go_big_quiet_step (fail)
  refine seqW_on ?_
  refine seqW_pure rfl ?_
  go_big_quiet_step (fail)
  refine seqW_on ?_
  refine seqW_pure rfl ?_
  go_big_quiet_step (fail)
  refine seqW_on ?_
  refine seqW_pure rfl ?_
  go_big_quiet_step (fail)
  refine seqW_on ?_
  refine seqW_pure rfl ?_
  go_big_quiet_step (fail)
  refine seqW_on ?_
  refine seqW_pure rfl ?_
  go_big_quiet_step (fail)
  refine seqW_on ?_
  refine seqW_pure rfl ?_
  go_big_quiet_step (fail)
  refine seqW_on ?_
  refine seqW_pure rfl ?_
  go_big_quiet_step (fail)
  refine seqW_on ?_
  refine seqW_gives (by kernel_rfl) ?_
  refine Gives.value (v := .pointer (some ⟨g, 0, none⟩)) (w' := w) (by go_simp) ?_
  simp only [Act.put, List.setIfInBounds_toArray, List.set_cons_zero, List.set_cons_succ]
  refine seqW_pure rfl ?_
  go_big_quiet_step (fail)
  refine seqW_on ?_
  refine seqW_pure rfl ?_
  go_big_quiet_step (fail)
  refine seqW_on ?_
  refine seqW_gives (by kernel_rfl) ?_
  refine Gives.loadBig bigS _ rfl (g := g) (off := 3 + q * 40) (by first | rfl | go_simp) ((p.raw q).map B) (by rw [List.length_map, hr]) hc ?_
  simp only [Act.put, List.setIfInBounds_toArray, List.set_cons_zero, List.set_cons_succ]
  refine seqW_gives (by kernel_rfl) ?_
  refine Gives.value (v := .agg ((zB 40).map B).toArray) (w' := w) (by exact exec_buildS rfl w) ?_
  simp only [Act.put, List.setIfInBounds_toArray, List.set_cons_zero, List.set_cons_succ]
  refine seqW_gives (by kernel_rfl) ?_
  refine Gives.value (v := .bool (decide (p.raw q = zB 40))) (w' := w) (exec_eq_slot _ _ rfl rfl rfl hr (zB_length 40) w) ?_
  simp only [Act.put, List.setIfInBounds_toArray, List.set_cons_zero, List.set_cons_succ]
  clear hc
  by_cases hz : p.raw q = zB 40
  · have e : D = [] := HD.out.symm.trans (Pg.slot_free hz)
    subst e
    rw [decide_eq_true hz]
    clear hz hs
    refine seqW_pure rfl ?_
    go_big_quiet_step (fail)
    refine seqW_on ?_
    refine seqW_done ?_
    go_wp2
    go_ret
    exact ⟨rfl, rfl⟩
  have e : D = p.raw q := HD.out.symm.trans (Pg.slot_at hq hz)
  rw [← e] at hs hr
  rw [decide_eq_false hz]
  clear hz HD e
  refine seqW_pure rfl ?_
  go_big_quiet_step (fail)
  refine seqW_on ?_
  refine seqW_done ?_
  go_upto_region 3 with (fail)
  refine wp_region_seq ?_
  refine seqW_pure rfl ?_
  go_big_quiet_step (fail)
  refine seqW_on ?_
  refine seqW_pure rfl ?_
  go_big_quiet_step (fail)
  refine seqW_on ?_
  refine seqW_gives (by kernel_rfl) ?_
  refine Gives.value (v := .pointer (some ⟨g, 0, none⟩)) (w' := w) (by go_simp) ?_
  simp only [Act.put, List.setIfInBounds_toArray, List.set_cons_zero, List.set_cons_succ]
  refine seqW_pure rfl ?_
  go_big_quiet_step (fail)
  refine seqW_on ?_
  refine seqW_pure rfl ?_
  go_big_quiet_step (fail)
  refine seqW_on ?_
  refine seqW_pure rfl ?_
  go_big_quiet_step (fail)
  refine seqW_on ?_
  refine seqW_gives (by kernel_rfl) ?_
  refine Gives.toStr Try.underlying38 Try.underlying5 Try.underlying9 _ rfl rfl hs ?_
  simp only [Act.put, List.setIfInBounds_toArray, List.set_cons_zero, List.set_cons_succ]
  try simp only [strV]
  refine seqW_pure rfl ?_
  go_big_quiet_step (fail)
  refine seqW_on ?_
  refine seqW_done ?_
  go_wp2
  go_ret
  exact ⟨rfl, rfl⟩
theorem flatten_setB (k : Nat) : ∀ (l : List (List UInt8)) (i : Nat) (s : List UInt8), i < l.length → s.length = k → (∀ x ∈ l, x.length = k) → (l.set i s).flatten.map B = (l.flatten.map B).take (i * k) ++ s.map B ++ (l.flatten.map B).drop (i * k + k)
  | x :: l, 0, s, _, hs, hl => by
    have := hl x List.mem_cons_self
    rw [List.set_cons_zero, List.flatten_cons, List.flatten_cons, List.map_append, List.map_append, Nat.zero_mul, List.take_zero, List.nil_append, Nat.zero_add, List.drop_append, List.drop_eq_nil_of_le (by rw [List.length_map]; omega), List.nil_append, List.length_map, this, Nat.sub_self, List.drop_zero]
  | x :: l, i + 1, s, h, hs, hl => by
    have hx := hl x List.mem_cons_self
    have ih := flatten_setB k l i s (by simpa using h) hs fun y hy => hl y (List.mem_cons_of_mem _ hy)
    rw [List.set_cons_succ, List.flatten_cons, List.flatten_cons, List.map_append, ih, List.map_append, List.take_append, List.drop_append, List.length_map, hx]
    rw [List.take_of_length_le (l := x.map B) (by rw [List.length_map, hx, Nat.succ_mul]; omega), @List.drop_eq_nil_of_le _ (x.map B) _ (by rw [List.length_map, hx, Nat.succ_mul]; omega), List.nil_append, show (i + 1) * k - k = i * k by rw [Nat.succ_mul]; omega, show (i + 1) * k + k - k = i * k + k by rw [Nat.succ_mul]; omega]
    simp only [List.append_assoc]
theorem Pg.put_cells {p : Pg} (h : p.Ok) (i : Nat) (hi : i < 5) (s : List UInt8) (hs : s.length = 40) : p.cells.take (3 + i * 40) ++ s.map B ++ p.cells.drop (3 + i * 40 + 40) = (p.put i s).cells := by
  have e := flatten_setB 40 p.slots i s (by rw [h.n]; exact hi) hs h.k
  have e2 : (p.put i s).cells = .int .u64 (p.mark : Int) :: .int .i64 p.tenant :: .int .i64 p.number :: (p.slots.set i s).flatten.map B := rfl
  rw [e2, e, show 3 + i * 40 = i * 40 + 1 + 1 + 1 by omega, show i * 40 + 1 + 1 + 1 + 40 = i * 40 + 40 + 1 + 1 + 1 by omega]
  unfold Pg.cells
  simp only [List.take_succ_cons, List.drop_succ_cons, List.cons_append]
theorem PgAt.row {w : World} {g : Nat} {p : Pg} (h : PgAt w g p) (i : Nat) (hi : i < 5) (s : List UInt8) (hs : s.length = 40) : PgAt (w.setRow g (p.cells.take (3 + i * 40) ++ s.map B ++ p.cells.drop (3 + i * 40 + 40)).toArray) g (p.put i s) := by
  rw [Pg.put_cells h.ok i hi s hs]
  exact ⟨setRow_heap w g _ _ _ _ h.h, h.ok.put i s hs⟩
theorem But.of_keep' {w w' : World} {rb : Nat} (hk : Keep w w') : But w w' rb := ⟨hk.os, hk.tape, hk.output, hk.size, fun j hj _ => hk.block j hj⟩
theorem bigR : BigOk Try.prog 24 3 [.int .i64 0, .string ⟨#[]⟩, .string ⟨#[]⟩] := BigOk.of (.inl ⟨_, Try.underlying24⟩) (by kernel_rfl)
theorem below_setRow' {w w2 w4 : World} {o : Obj} {g : Nat} {cs : Array Value} (k : Keep w w2) (hg : g = w2.heap.size) (h : w4 = (w2.alloc o).setRow g cs) : Keep w w4 := by
  subst hg
  rw [h]
  exact below_setRow (k.trans' (Keep.alloc w2 o)) k.size cs
theorem Gives.copyRowS {P : Program} {t u e : TypeId} {z : Value} {bytes : Nat} (E : ElemOk P t e z bytes) {o : Oper} {a : Act} {w : World} {S : Value → World → Prop} (d s : Operand)
    (ho : o.op = .call { callee := .builtin .copy, args := #[d, s], argTypes := #[t, u] }) {g off dLen dCap : Nat} {cur : Array Value} {T : TypeId} {k : List UInt8} (hd : a.eval d = .slice (some ⟨g, off, none⟩) dLen dCap) (hs : a.eval s = .string ⟨k.toArray⟩)
    (hg : w.heap[g]? = some (.cells cur T)) (hle : k.length ≤ dLen) (hfit : off + k.length ≤ cur.size)
    (h : S (.int .i64 k.length) (w.setRow g (cur.toList.take off ++ k.map B ++ cur.toList.drop (off + k.length)).toArray)) : Gives P o a w S := by
  obtain ⟨i, hi, hz, hs1, hb⟩ := E.hi
  have hr := Lib.run_copy_row_string (P := P) w t u o.type e g off dLen dCap ⟨k.toArray⟩ cur T E.ht (by rw [hi]; simp [hs1]) hg (by rw [size_str]; exact hle) (by rw [size_str]; omega)
  rw [size_str] at hr
  refine Gives.value (v := .int .i64 k.length) ?_ h
  unfold execOp
  have hr' : (Builtin.copy_ #[t, u] o.type #[.slice (some ⟨g, off, none⟩) dLen dCap, .string ⟨k.toArray⟩]).run P w = .ok (.int .i64 k.length) (w.setRow g (cur.toList.take off ++ k.map B ++ cur.toList.drop (off + k.length)).toArray) := hr
  simp only [ho, resolve, invoke, builtin, Sem.run_bind, Sem.run_pure, Result.andThen_ok, List.map_toArray, List.map_cons, List.map_nil, hd, hs, hr']
set_option maxHeartbeats 4000000 in
theorem set_any (g : Nat) (p : Pg) (i : Int) (s : List UInt8) (w : World) (h : PgAt w g p) (hsl : s.length ≤ 1000000000000) : Calls Try.prog 15 #[.pointer (some ⟨g, 0, none⟩), .int .i64 i, .string ⟨s.toArray⟩] w fun e w' => e = .returned (.bool (Pg.may i s)) ∧ PgAt w' g (p.set i s) ∧ w.grownBy w' (some g) := by
  obtain ⟨D, hD⟩ : ∃ D, p.set i s = D := ⟨_, rfl⟩
  obtain ⟨M, hM⟩ : ∃ M, Pg.may i s = M := ⟨_, rfl⟩
  rw [hD, hM]
  have HD := Lib.hid hD
  have HM := Lib.hid hM
  clear hD hM
  have hst := size_str s
  go_enter Try.func15, Try.ntmps15
  by_cases h0 : i < 0
  · have e : M = false := HM.out.symm.trans (decide_eq_false (fun hh => by omega))
    subst e
    have e : D = p := HD.out.symm.trans (if_neg (by rw [HM.out]; decide))
    subst e
    go_wp2
    go_ret
    exact ⟨rfl, h, ⟨rfl, rfl, rfl, Nat.le_refl _, fun _ _ _ => rfl⟩⟩
  by_cases h5 : 5 ≤ i
  · have e : M = false := HM.out.symm.trans (decide_eq_false (fun hh => by omega))
    subst e
    have e : D = p := HD.out.symm.trans (if_neg (by rw [HM.out]; decide))
    subst e
    go_wp2
    go_ret
    exact ⟨rfl, h, ⟨rfl, rfl, rfl, Nat.le_refl _, fun _ _ _ => rfl⟩⟩
  obtain ⟨q, rfl⟩ := Int.eq_ofNat_of_zero_le (show 0 ≤ i by omega)
  have hq : q < 5 := by omega
  by_cases hs0 : s = []
  · subst hs0
    have e : M = true := HM.out.symm.trans (decide_eq_true ⟨by omega, by omega, .inl rfl⟩)
    subst e
    have e : D = p.put q (zB 40) := HD.out.symm.trans (by unfold Pg.set; rw [if_pos HM.out, if_pos rfl]; rfl)
    subst e
    clear HD HM hst
    go_upto_region 4 with (fail)
    refine wp_region_seq ?_
    refine seqW_pure rfl ?_
    go_big_quiet_step (fail)
    refine seqW_on ?_
    refine seqW_pure rfl ?_
    go_big_quiet_step (fail)
    refine seqW_on ?_
    refine seqW_gives (by kernel_rfl) ?_
    refine Gives.value (v := .agg ((zB 40).map B).toArray) (w' := w) (by exact exec_buildS rfl w) ?_
    simp only [Act.put, List.setIfInBounds_toArray, List.set_cons_zero, List.set_cons_succ]
    refine seqW_gives (by kernel_rfl) ?_
    refine Gives.value (v := .pointer (some ⟨g, 0, none⟩)) (w' := w) (by go_simp) ?_
    simp only [Act.put, List.setIfInBounds_toArray, List.set_cons_zero, List.set_cons_succ]
    refine seqW_pure rfl ?_
    go_big_quiet_step (fail)
    refine seqW_on ?_
    refine seqW_pure rfl ?_
    go_big_quiet_step (fail)
    refine seqW_on ?_
    refine seqW_gives (by kernel_rfl) ?_
    refine Gives.storeBig bigS _ _ rfl (g := g) (off := 3 + q * 40) (by first | rfl | go_simp) ((zB 40).map B) rfl h.h (by rw [List.length_map, zB_length]) (by rw [List.size_toArray, h.ok.cells]; omega) (B_oneCell _) ?_
    have h2 := h.row q hq (zB 40) (zB_length 40)
    have hb2 := row_but w g (p.cells.toArray.toList.take (3 + q * 40) ++ (zB 40).map B ++ p.cells.toArray.toList.drop (3 + q * 40 + 40)).toArray
    generalize w.setRow g (p.cells.toArray.toList.take (3 + q * 40) ++ (zB 40).map B ++ p.cells.toArray.toList.drop (3 + q * 40 + 40)).toArray = w2 at *
    simp only [Act.put, List.setIfInBounds_toArray, List.set_cons_zero, List.set_cons_succ]
    refine seqW_done ?_
    go_wp2
    go_ret
    exact ⟨rfl, h2, hb2⟩
  have hs0b : s.length ≠ 0 := fun e => hs0 (List.eq_nil_of_length_eq_zero e)
  have hs0e : s.isEmpty = false := by simpa using hs0
  have hmx : s.length ≤ maxLen := by unfold maxLen; omega
  go_upto_region 6 with (fail)
  refine wp_region_seq ?_
  refine seqW_pure rfl ?_
  go_big_quiet_step (fail)
  refine seqW_on ?_
  refine seqW_gives (by kernel_rfl) ?_
  refine Gives.bytes Try.underlying9 Try.underlying38 Try.underlying5 _ rfl rfl hmx fun cb w1 hb1 k1 _ => ?_
  simp only [Act.put, List.setIfInBounds_toArray, List.set_cons_zero, List.set_cons_succ]
  refine seqW_gives (by kernel_rfl) ?_
  refine Gives.call (by first | (go_simp; done) | (go_simp; rfl)) (decode_any _ s w1 hb1) ?_
  rintro e w2 ⟨rfl, k2⟩
  refine ⟨_, rfl, ?_⟩
  have kk := k1.trans' k2
  have hde : (Rw.dec s).1.val = .agg #[.int .i64 (Rw.dec s).1.t, .string ⟨(Rw.dec s).1.k.toArray⟩, .string ⟨(Rw.dec s).1.v.toArray⟩] := rfl
  rw [hde]
  clear hde hb1 k1 k2
  simp only [Act.put, List.setIfInBounds_toArray, List.set_cons_zero, List.set_cons_succ]
  refine seqW_pure rfl ?_
  go_big_quiet_step (fail)
  refine seqW_on ?_
  refine seqW_pure rfl ?_
  go_big_quiet_step (fail)
  refine seqW_on ?_
  refine seqW_pure rfl ?_
  go_big_quiet_step (fail)
  refine seqW_on ?_
  refine seqW_gives (by kernel_rfl) ?_
  refine Gives.allocBig bigR rfl ?_
  simp only [Act.put, List.setIfInBounds_toArray, List.set_cons_zero, List.set_cons_succ]
  refine seqW_gives (by kernel_rfl) ?_
  refine Gives.storeBig bigR _ _ rfl (g := w2.heap.size) (off := 0) rfl [.int .i64 (Rw.dec s).1.t, .string ⟨(Rw.dec s).1.k.toArray⟩, .string ⟨(Rw.dec s).1.v.toArray⟩] rfl (heap_alloc_new w2 _) rfl (by decide) (fun v hv => by simp only [List.mem_cons, List.not_mem_nil, or_false] at hv; rcases hv with rfl | rfl | rfl <;> rfl) ?_
  obtain ⟨w4, hw4⟩ : ∃ w4, w4 = (w2.alloc (.cells [.int .i64 0, .string ⟨#[]⟩, .string ⟨#[]⟩].toArray 24)).setRow w2.heap.size ([.int .i64 (Rw.dec s).1.t, .string ⟨(Rw.dec s).1.k.toArray⟩, .string ⟨(Rw.dec s).1.v.toArray⟩].toArray) := ⟨_, rfl⟩
  refine cast (congrArg _ hw4) ?_
  simp only [Act.put, List.setIfInBounds_toArray, List.set_cons_zero, List.set_cons_succ]
  refine seqW_pure rfl ?_
  go_big_quiet_step (fail)
  refine seqW_on ?_
  refine seqW_done ?_
  have hk4 : Keep w w4 := below_setRow' kk rfl hw4
  clear hw4
  have hne : ∀ x : Int, (x != 0) = !(x == 0) := fun _ => rfl
  by_cases he : (Rw.dec s).2 = 0
  rotate_left
  · have heb : ((Rw.dec s).2 == 0) = false := beq_eq_false_iff_ne.2 he
    have e : M = false := HM.out.symm.trans (decide_eq_false (fun hh => hh.2.2.elim hs0 he))
    subst e
    have e : D = p := HD.out.symm.trans (if_neg (by rw [HM.out]; decide))
    subst e
    generalize (Rw.dec s).2 = E at *
    go_wp2
    go_ret
    exact ⟨rfl, h.keep hk4, But.of_keep' hk4⟩
  have hs40 := dec_len he
  have e : M = true := HM.out.symm.trans (decide_eq_true ⟨by omega, by omega, .inr he⟩)
  subst e
  have e : D = p.put q s := HD.out.symm.trans (by unfold Pg.set; rw [if_pos HM.out, if_neg hs0]; rfl)
  subst e
  rw [he]
  have h4 := h.keep hk4
  clear he HD HM
  go_upto_region 9 with (fail)
  refine wp_region_seq ?_
  refine seqW_pure rfl ?_
  go_big_quiet_step (fail)
  refine seqW_on ?_
  refine seqW_pure rfl ?_
  go_big_quiet_step (fail)
  refine seqW_on ?_
  refine seqW_gives (by kernel_rfl) ?_
  refine Gives.value (v := .pointer (some ⟨g, 0, none⟩)) (w' := w4) (by go_simp) ?_
  simp only [Act.put, List.setIfInBounds_toArray, List.set_cons_zero, List.set_cons_succ]
  refine seqW_pure rfl ?_
  go_big_quiet_step (fail)
  refine seqW_on ?_
  refine seqW_pure rfl ?_
  go_big_quiet_step (fail)
  refine seqW_on ?_
  refine seqW_pure rfl ?_
  go_big_quiet_step (fail)
  refine seqW_on ?_
  refine seqW_pure rfl ?_
  go_big_quiet_step (fail)
  refine seqW_on ?_
  refine seqW_gives (by kernel_rfl) ?_
  refine Gives.copyRowS elemB _ _ rfl (g := g) (off := 3 + q * 40) (dLen := 40) (dCap := 40) (by first | rfl | go_simp) rfl h4.h (by omega) (by rw [List.size_toArray, h.ok.cells]; omega) ?_
  rw [hs40]
  clear h0 h5 hs0 hs0b hs0e
  have hfin := h4.row q hq s hs40
  have hb5 := But.trans (rb := g) (But.of_keep' hk4) (row_but w4 g (p.cells.toArray.toList.take (3 + q * 40) ++ s.map B ++ p.cells.toArray.toList.drop (3 + q * 40 + 40)).toArray)
  generalize w4.setRow g (p.cells.toArray.toList.take (3 + q * 40) ++ s.map B ++ p.cells.toArray.toList.drop (3 + q * 40 + 40)).toArray = w5 at *
  simp only [Act.put, List.setIfInBounds_toArray, List.set_cons_zero, List.set_cons_succ]
  refine seqW_done ?_
  go_wp2
  go_ret
  exact ⟨rfl, hfin, hb5⟩
def SlI (w : World) (v : Value) (l : List Int) : Prop := Sl w v (l.map fun n => .int .i64 n)
theorem SlI.form {w : World} {v : Value} {l : List Int} (h : SlI w v l) : ∃ ao cap, v = .slice ao l.length cap ∧ l.length ≤ maxLen := by
  obtain ⟨ao, cap, hv, hm, hcap, hc⟩ := h
  rw [List.length_map] at hv hm
  exact ⟨ao, cap, hv, hm⟩
theorem SlI.elem {w : World} {ao : Option Addr} {n cap : Nat} {l : List Int} (h : SlI w (.slice ao n cap) l) (i : Nat) (hi : i < l.length) : ∃ b off, ao = some ⟨b, off, none⟩ ∧ w.cell? ⟨b, off + i, none⟩ = some (.int .i64 l[i]) := by
  obtain ⟨ao', cap', hv, hm, hcap, hc⟩ := h
  simp only [Value.slice.injEq] at hv
  obtain ⟨rfl, _, _⟩ := hv
  obtain ⟨b, off, ha, hx⟩ := hc i (by rw [List.length_map]; exact hi)
  exact ⟨b, off, ha, by rw [hx, List.getElem_map]⟩
theorem SlI.nil (w : World) : SlI w (.slice none 0 0) [] := ⟨none, 0, rfl, Nat.zero_le _, ⟨Nat.le_refl _, fun _ => rfl⟩, fun i h => absurd h (by simp)⟩
theorem Pg.slot_empty {p : Pg} (h : p.Ok) {q : Nat} (hq : q < 5) : (p.slot q).isEmpty = p.isFree q := by
  unfold Pg.isFree
  by_cases hz : p.raw q = zB 40
  · rw [Pg.slot_free hz, decide_eq_true hz]
    rfl
  · rw [Pg.slot_at hq hz, decide_eq_false hz, List.isEmpty_eq_false_iff]
    intro e
    have := h.raw hq
    rw [e] at this
    cases this
set_option maxHeartbeats 4000000 in
theorem free_any (g : Nat) (p : Pg) (but : List Int) (v : Value) (w : World) (h : PgAt w g p) (hv : SlI w v but) : Calls Try.prog 19 #[.pointer (some ⟨g, 0, none⟩), v] w fun e w' => e = .returned (.int .i64 (p.free but)) ∧ w = w' := by
  obtain ⟨va, vc, rfl, hmx⟩ := hv.form
  unfold maxLen at hmx
  obtain ⟨D, hD⟩ : ∃ D, p.freeFrom but 0 5 = D := ⟨_, rfl⟩
  have e0 : p.free but = D := hD
  rw [e0]
  have HD := Lib.hid hD
  clear hD e0
  go_enter Try.func19, Try.ntmps19
  go_wp2_with fail
  go_step3
  go_wp2_with fail
  go_step3
  go_wp2_with fail
  go_loopw [10] (fun z wr => ∃ j : Nat, j ≤ 5 ∧ z = .int .i64 j ∧ w = wr ∧ Hid (p.freeFrom but j (5 - j) = D)) (fun z _ => 5 - (intOf z).toNat)
  case atStart => exact ⟨0, by decide, rfl, rfl, HD⟩
  case round =>
    obtain ⟨j, hj, rfl, rfl, hF⟩ := hrel
    by_cases hj5 : j < 5
    rotate_left
    · have hjd : ¬ ((j : Int) < 5) := by omega
      have e : D = -1 := by
        have := hF.out
        rw [show 5 - j = 0 by omega] at this
        exact this.symm
      subst e
      go_wp2
      go_ret
      exact ⟨rfl, rfl⟩
    have hjd : (j : Int) < 5 := by omega
    have hF' : (if p.isFree j = true ∧ ¬ (j : Int) ∈ but then (j : Int) else p.freeFrom but (j + 1) (5 - (j + 1))) = D := by
      have := hF.out
      rw [show 5 - j = 5 - (j + 1) + 1 by omega] at this
      exact this
    have hse := Pg.slot_empty h.ok hj5
    have HF := Lib.hid hF'
    clear hF hF'
    go_wp2_with fail
    refine (slot_any g p j w h).mono ?_
    rintro e w' ⟨rfl, rfl⟩
    generalize p.slot j = R at *
    cases hfr : p.isFree j
    · rw [hfr] at hse
      have hN : p.freeFrom but (j + 1) (5 - (j + 1)) = D := by
        have := HF.out
        rw [hfr, if_neg (fun hh => by cases hh.1)] at this
        exact this
      have HN := Lib.hid hN
      clear HF hN hfr
      go_wp2
      go_roundw
      case rel => exact ⟨j + 1, by omega, by go_num, (by first | rfl | trivial), HN⟩
      case measure => simp [intOf]; omega
    rw [hfr] at hse
    have HFR := Lib.hid hfr
    clear hfr
    go_wp2_with fail
    go_loopw [19] (fun z wr => ∃ k : Nat, k ≤ but.length ∧ z = .int .i64 k ∧ w = wr ∧ Hid (∀ i (h : i < but.length), i < k → but[i] ≠ (j : Int))) (fun z _ => but.length - (intOf z).toNat)
    case atStart => exact ⟨0, Nat.zero_le _, rfl, rfl, Lib.hid (fun _ _ h => by omega)⟩
    case round =>
      obtain ⟨k, hk, rfl, rfl, hno⟩ := hrel
      by_cases hkn : k < but.length
      rotate_left
      · have hkd : ¬ ((k : Int) < (but.length : Int)) := by omega
        have e : D = (j : Int) := by
          have := HF.out
          rw [if_pos ⟨HFR.out, fun hm => by
            obtain ⟨i, hi, he⟩ := List.mem_iff_getElem.1 hm
            exact hno.out i hi (by omega) he⟩] at this
          exact this.symm
        subst e
        clear HF hno
        go_wp2
        go_ret
        exact ⟨rfl, rfl⟩
      have hkd : (k : Int) < (but.length : Int) := by omega
      obtain ⟨gb, ob, rfl, x0⟩ := hv.elem k hkn
      have HK : Hid (but[k] ∈ but) := Lib.hid (List.getElem_mem hkn)
      have HNO : Hid (but[k] ≠ (j : Int) → ∀ i (h : i < but.length), i < k + 1 → but[i] ≠ (j : Int)) := Lib.hid (fun hne i hi hik => by
        by_cases e : i = k
        · subst e; exact hne
        · exact hno.out i hi (by omega))
      generalize but[k] = b at *
      by_cases hb : b = (j : Int)
      · have hbt : (b == (j : Int)) = true := beq_iff_eq.2 hb
        have hN : p.freeFrom but (j + 1) (5 - (j + 1)) = D := by
          have := HF.out
          rw [if_neg (fun hh => hh.2 (hb ▸ HK.out))] at this
          exact this
        have HN := Lib.hid hN
        clear HF hN hb HK HNO
        go_wp2
        go_roundw
        case rel => exact ⟨j + 1, by omega, by go_num, (by first | rfl | trivial), HN⟩
        case measure => simp [intOf]; omega
      · have hbt : (b == (j : Int)) = false := beq_eq_false_iff_ne.2 hb
        have HN2 := Lib.hid (HNO.out hb)
        clear hb HNO HK
        go_wp2
        go_roundw
        case rel => exact ⟨k + 1, by omega, by go_num, (by first | rfl | trivial), HN2⟩
        case measure => simp [intOf]; omega
theorem slot_nil (i : Int) (w : World) : Calls Try.prog 17 #[.pointer none, .int .i64 i] w fun e w' => e = .returned (.string ⟨#[]⟩) ∧ w = w' := by
  go_enter Try.func17, Try.ntmps17
  go_wp2
  go_ret
  exact ⟨rfl, rfl⟩
theorem set_nil (i : Int) (s : List UInt8) (w : World) : Calls Try.prog 15 #[.pointer none, .int .i64 i, .string ⟨s.toArray⟩] w fun e w' => e = .returned (.bool false) ∧ w = w' := by
  go_enter Try.func15, Try.ntmps15
  go_wp2
  go_ret
  exact ⟨rfl, rfl⟩
theorem free_nil (v : Value) (w : World) : Calls Try.prog 19 #[.pointer none, v] w fun e w' => e = .returned (.int .i64 (-1)) ∧ w = w' := by
  go_enter Try.func19, Try.ntmps19
  go_wp2
  go_step3
  go_wp2
  rw [Exit.noGoto_ret]
  go_ret
  exact ⟨rfl, rfl⟩
end Go.Proofs.Ytdnmddfnlkaahaa
