/- Pages, plainly: what comes back, what is torn. -/
import Derived.Test.YtdnmddfnlkaahaaFit05
namespace Go.Proofs.Ytdnmddfnlkaahaa
open Go Go.RowKit

theorem flat_at {α : Type} (k : Nat) : ∀ (l : List (List α)) (i : Nat) (h : i < l.length), (∀ x ∈ l, x.length = k) → (l.flatten.drop (i * k)).take k = l[i]
  | x :: l, 0, _, hl => by
    have := hl x List.mem_cons_self
    rw [Nat.zero_mul, List.drop_zero, List.flatten_cons, List.take_append_of_le_length (by omega), List.take_of_length_le (by omega)]
    rfl
  | x :: l, i + 1, h, hl => by
    have hx := hl x List.mem_cons_self
    have ih := flat_at k l i (by simpa using h) fun y hy => hl y (List.mem_cons_of_mem _ hy)
    rw [List.flatten_cons, List.drop_append, List.drop_eq_nil_of_le (by rw [hx, Nat.succ_mul]; omega), List.nil_append, hx, show (i + 1) * k - k = i * k by rw [Nat.succ_mul]; omega, ih]
    rfl
theorem Pg.enc_sec {p : Pg} (h : p.Ok) (hm : p.mark ≠ 0) (i : Nat) (hi : i < 4) : (p.enc.drop (i * 64)).take 64 = p.sec i := by
  rw [← p.outs_four hm]
  unfold Pg.outs
  rw [flat_at 64 _ i (by simpa using hi) (fun x hx => by
    obtain ⟨j, hj, rfl⟩ := List.mem_map.1 hx
    exact h.sec (List.mem_range.1 hj))]
  simp
theorem zeros_part (n a k : Nat) (h : a + k ≤ n) : ((zB n).drop a).take k = zB k := by
  unfold zB
  rw [List.drop_replicate, List.take_replicate, Nat.min_eq_left (by omega)]
theorem num_zeros : ∀ k, Pk.num (zB k) = 0
  | 0 => rfl
  | k + 1 => by
    have ih := num_zeros k
    unfold Pk.num zB at *
    rw [List.replicate_succ, List.foldl_cons]
    exact ih
theorem be_num (m : Nat) (hm : m < 18446744073709551616) : Pk.num (Pk.be m 8) = m := by
  rw [Pk.num_be m 8 (Nat.le_refl _)]
  exact Nat.mod_eq_of_lt hm
/-- each sector begins with the mark -/
theorem Pg.enc_mark {p : Pg} (h : p.Ok) (i : Nat) (hi : i < 4) : Pk.num ((p.enc.drop (i * 64)).take 8) = p.mark := by
  by_cases hm : p.mark = 0
  · have e : p.enc = zB 256 := by unfold Pg.enc; rw [if_pos hm]
    rw [e, zeros_part _ _ _ (by omega), num_zeros, hm]
  · have e : (p.enc.drop (i * 64)).take 8 = (p.sec i).take 8 := by
      rw [← Pg.enc_sec h hm i hi, List.take_take]
      rfl
    have e2 : (p.sec i).take 8 = Pk.be p.mark 8 := by
      unfold Pg.sec
      rw [List.take_append_of_le_length (by rw [Pk.be_length]; exact Nat.le_refl _), List.take_of_length_le (by rw [Pk.be_length]; exact Nat.le_refl _)]
    rw [e, e2, be_num _ h.m]
theorem Pg.enc_load {p : Pg} (h : p.Ok) (hm : p.mark ≠ 0) (i : Nat) (hi : i < 4) : (p.enc.drop (i * 64 + 8)).take 56 = (p.body.drop (i * 56)).take 56 := by
  have e := Pg.enc_sec h hm i hi
  have e2 : (p.enc.drop (i * 64 + 8)).take 56 = ((p.enc.drop (i * 64)).take 64).drop 8 := by rw [List.drop_take, List.drop_drop]
  rw [e2, e]
  unfold Pg.sec
  rw [List.drop_append, List.drop_eq_nil_of_le (by rw [Pk.be_length]; exact Nat.le_refl _), Pk.be_length, Nat.sub_self, List.nil_append, List.drop_zero]
theorem four_parts (l : List UInt8) (h : l.length = 224) : (l.drop 0).take 56 ++ (l.drop 56).take 56 ++ (l.drop 112).take 56 ++ (l.drop 168).take 56 = l := by
  have e1 : (l.drop 168).take 56 = l.drop 168 := List.take_of_length_le (by rw [List.length_drop]; omega)
  have step : ∀ a, (l.drop a).take 56 ++ l.drop (a + 56) = l.drop a := fun a => by
    rw [← List.drop_drop]
    exact List.take_append_drop 56 _
  rw [e1, List.append_assoc, List.append_assoc, step 112, step 56, step 0, List.drop_zero]
theorem Pg.load_enc {p : Pg} (h : p.Ok) (hm : p.mark ≠ 0) : loadOf p.enc = p.body := by
  have e0 := Pg.enc_load h hm 0 (by decide)
  have e1 := Pg.enc_load h hm 1 (by decide)
  have e2 := Pg.enc_load h hm 2 (by decide)
  have e3 := Pg.enc_load h hm 3 (by decide)
  unfold loadOf
  rw [show p.enc.drop 8 = p.enc.drop (0 * 64 + 8) from rfl, show p.enc.drop 72 = p.enc.drop (1 * 64 + 8) from rfl, show p.enc.drop 136 = p.enc.drop (2 * 64 + 8) from rfl, show p.enc.drop 200 = p.enc.drop (3 * 64 + 8) from rfl, e0, e1, e2, e3]
  exact four_parts p.body h.body
theorem Pg.body_t {p : Pg} (ht : 0 ≤ p.tenant ∧ p.tenant < 65536) : (Pk.num (p.body.take 2) : Int) = p.tenant := by
  have e : p.body.take 2 = Pk.be p.tenant.toNat 2 := by
    unfold Pg.body
    rw [List.append_assoc, List.append_assoc, List.take_append_of_le_length (by rw [Pk.be_length]; exact Nat.le_refl _), List.take_of_length_le (by rw [Pk.be_length]; exact Nat.le_refl _)]
  rw [e, Pk.num_be _ 2 (by decide)]
  have : p.tenant.toNat % 256 ^ 2 = p.tenant.toNat := Nat.mod_eq_of_lt (by omega)
  rw [this]
  omega
theorem Pg.body_n {p : Pg} (hn : 0 ≤ p.number ∧ p.number < 65536) : (Pk.num ((p.body.drop 2).take 2) : Int) = p.number := by
  have e : (p.body.drop 2).take 2 = Pk.be p.number.toNat 2 := by
    unfold Pg.body
    rw [List.append_assoc, List.append_assoc, List.drop_append, List.drop_eq_nil_of_le (by rw [Pk.be_length]; exact Nat.le_refl _), Pk.be_length, Nat.sub_self, List.nil_append, List.drop_zero, List.take_append_of_le_length (by rw [Pk.be_length]; exact Nat.le_refl _), List.take_of_length_le (by rw [Pk.be_length]; exact Nat.le_refl _)]
  rw [e, Pk.num_be _ 2 (by decide)]
  have : p.number.toNat % 256 ^ 2 = p.number.toNat := Nat.mod_eq_of_lt (by omega)
  rw [this]
  omega
theorem Pg.body_chunk {p : Pg} (h : p.Ok) (i : Nat) (hi : i < 5) : chunk p.body i = p.raw i := by
  have e := flat_at 40 p.slots i (by rw [h.n]; exact hi) h.k
  unfold chunk
  have e2 : p.body.drop 4 = p.slots.flatten ++ zB 20 := by
    unfold Pg.body
    rw [List.append_assoc, List.append_assoc, ← List.append_assoc (Pk.be _ 2), List.drop_append, List.drop_eq_nil_of_le (by rw [List.length_append, Pk.be_length, Pk.be_length]; exact Nat.le_refl _), List.length_append, Pk.be_length, Pk.be_length, Nat.sub_self, List.nil_append, List.drop_zero]
  rw [← List.drop_drop, e2, List.drop_append_of_le_length (by rw [h.flat]; omega), List.take_append_of_le_length (by rw [List.length_drop, h.flat]; omega), e, Pg.raw_get (by rw [h.n]; exact hi)]
theorem Pg.of_enc {p : Pg} (h : p.Ok) (hm : p.mark ≠ 0) : Pg.of p.enc p.tenant p.number = p := by
  have e1 := Pg.enc_mark h 0 (by decide)
  rw [Nat.zero_mul, List.drop_zero] at e1
  unfold Pg.of
  rw [e1, if_pos (by omega), Pg.load_enc h hm]
  have e : ((List.range 5).map fun i => (p.body.drop (4 + i * 40)).take 40) = p.slots := by
    refine List.ext_getElem (by simp [h.n]) fun i h1 h2 => ?_
    have hi : i < 5 := by simpa using h1
    rw [List.getElem_map, List.getElem_range]
    have := Pg.body_chunk h i hi
    rw [Pg.raw_get h2] at this
    exact this
  rw [e]
theorem dec_zeros : (Rw.dec (zB 40)).2 = 5 := by
  unfold Rw.dec
  rw [if_neg (fun h => h (zB_length 40)), if_pos rfl]
theorem Pg.RowsOk.rows {p : Pg} (h : p.RowsOk) : p.rows := fun s hs => by
  rcases h s hs with rfl | ⟨r, hr, rfl⟩
  · rw [dec_zeros]; decide
  · rw [Rw.dec_slot r hr]; exact (show (0 : Int) ≠ 9 by decide)
/-- a page comes back -/
theorem Pg.dec_enc {p : Pg} (h : p.Ok) (hm : p.mark ≠ 0) (hr : p.RowsOk) (ht : 0 ≤ p.tenant ∧ p.tenant < 65536) (hn : 0 ≤ p.number ∧ p.number < 65536) : Pg.dec p.enc p.tenant p.number = (p, 0) := by
  unfold Pg.dec
  have hmine : Pg.mine p.enc p.tenant p.number := .inr (by rw [Pg.load_enc h hm]; exact ⟨Pg.body_t ht, Pg.body_n hn⟩)
  rw [Pg.of_enc h hm, if_pos ⟨h.enc, hmine, rfl, hr.rows⟩]
/-- and for nobody else -/
theorem Pg.dec_other {p : Pg} (h : p.Ok) (hm : p.mark ≠ 0) (ht : 0 ≤ p.tenant ∧ p.tenant < 65536) (hn : 0 ≤ p.number ∧ p.number < 65536) (t n : Int) (hne : t ≠ p.tenant ∨ n ≠ p.number) : Pg.dec p.enc t n = (Pg.zero, 11) := by
  unfold Pg.dec
  rw [if_neg]
  rintro ⟨-, hmi, -, -⟩
  have e1 := Pg.enc_mark h 0 (by decide)
  rw [Nat.zero_mul, List.drop_zero] at e1
  rcases hmi with h0 | ⟨h1, h2⟩
  · exact hm (e1.symm.trans h0)
  · rw [Pg.load_enc h hm, Pg.body_t ht] at h1
    rw [Pg.load_enc h hm, Pg.body_n hn] at h2
    rcases hne with e | e
    · exact e h1.symm
    · exact e h2.symm
theorem Pg.dec_size (b : List UInt8) (t n : Int) (h : b.length ≠ 256) : Pg.dec b t n = (Pg.zero, 11) := by
  unfold Pg.dec
  rw [if_neg (fun hh => h hh.1)]
/-- sectors of unlike marks are no page -/
theorem Pg.dec_torn (b : List UInt8) (t n : Int) (i j : Nat) (hi : i < 4) (hj : j < 4) (hne : Pk.num ((b.drop (i * 64)).take 8) ≠ Pk.num ((b.drop (j * 64)).take 8)) : Pg.dec b t n = (Pg.zero, 11) := by
  unfold Pg.dec
  by_cases hl : b.length = 256
  · rw [if_neg]
    rintro ⟨-, -, he, -⟩
    have hok : (Pg.of b t n).Ok := by
      refine ⟨num_lt (b.take 8), ?_, fun s hs => ?_⟩
      · unfold Pg.of
        simp only
        split <;> simp
      · unfold Pg.of at hs
        simp only at hs
        split at hs
        · obtain ⟨i, hi, rfl⟩ := List.mem_map.1 hs
          exact chunk_len (loadOf b) (by rw [← loadsTo_four, loadsTo_len b hl 4 (Nat.le_refl _)]) i (List.mem_range.1 hi)
        · rw [List.eq_of_mem_replicate hs]; exact zB_length 40
    have e1 := Pg.enc_mark hok i hi
    have e2 := Pg.enc_mark hok j hj
    rw [he] at e1 e2
    exact hne (e1.trans e2.symm)
  · rw [if_neg (fun hh => hl hh.1)]
/-- what is told is its own bytes -/
theorem Pg.dec_ok (b : List UInt8) (t n : Int) : (Pg.dec b t n = (Pg.zero, 11)) ∨ (Pg.dec b t n = (Pg.of b t n, 0) ∧ (Pg.of b t n).enc = b ∧ b.length = 256) := by
  unfold Pg.dec
  split
  · rename_i h
    exact .inr ⟨rfl, h.2.2.1, h.1⟩
  · exact .inl rfl
theorem Pg.of_ok (b : List UInt8) (t n : Int) (hl : b.length = 256) : (Pg.of b t n).Ok := by
  refine ⟨num_lt (b.take 8), ?_, fun s hs => ?_⟩
  · unfold Pg.of
    simp only
    split <;> simp
  · unfold Pg.of at hs
    simp only at hs
    split at hs
    · obtain ⟨i, hi, rfl⟩ := List.mem_map.1 hs
      exact chunk_len (loadOf b) (by rw [← loadsTo_four, loadsTo_len b hl 4 (Nat.le_refl _)]) i (List.mem_range.1 hi)
    · rw [List.eq_of_mem_replicate hs]; exact zB_length 40
theorem Pg.dec_zeros (t n : Int) : Pg.dec (zB 256) t n = (Pg.blank t n, 0) := by
  have e : Pk.num ((zB 256).take 8) = 0 := by
    have := zeros_part 256 0 8 (by decide)
    rw [List.drop_zero] at this
    rw [this, num_zeros]
  have e2 := of_none (zB 256) t n e
  unfold Pg.dec
  rw [← e2, if_pos ⟨zB_length 256, .inl e, rfl, fun s hs => by rw [List.eq_of_mem_replicate hs, _root_.Go.Proofs.Ytdnmddfnlkaahaa.dec_zeros]; decide⟩]
theorem Pg.dec_fit (b : List UInt8) (t n : Int) : (Pg.dec b t n).1.Ok := by
  rcases Pg.dec_ok b t n with e | ⟨e, _, hl⟩
  · rw [e]; exact Pg.zero_ok
  · rw [e]; exact Pg.of_ok b t n hl
/-- set to what it was -/
theorem Pg.set_back {p : Pg} (h : p.Ok) (hr : p.RowsOk) (i : Nat) (hi : i < 5) (s : List UInt8) : Pg.may i (p.slot i) = true ∧ (p.put i s).set i (p.slot i) = p := by
  have hmem : p.raw i ∈ p.slots := by
    rw [Pg.raw_get (by rw [h.n]; exact hi)]
    exact List.getElem_mem _
  have hput : ∀ x, x = p.raw i → (p.put i s).put i x = p := fun x hx => by
    subst hx
    unfold Pg.put
    cases p with
    | mk m t n sl =>
      simp only [List.set_set]
      congr 1
      have hl : i < sl.length := by have := h.n; simp only at this; omega
      rw [Pg.raw_get hl]
      exact List.set_getElem_self hl
  rcases hr _ hmem with e | ⟨r, hrr, e⟩
  · have hs : p.slot i = [] := Pg.slot_free e
    have hm : Pg.may i (p.slot i) = true := decide_eq_true ⟨by omega, by omega, .inl hs⟩
    refine ⟨hm, ?_⟩
    unfold Pg.set
    rw [if_pos hm, if_pos hs, Int.toNat_natCast]
    exact hput _ e.symm
  · have hne : p.raw i ≠ zB 40 := by rw [e]; exact r.slot_ne_zero
    have hs : p.slot i = p.raw i := Pg.slot_at hi hne
    have hm : Pg.may i (p.slot i) = true := decide_eq_true ⟨by omega, by omega, .inr (by rw [hs, e, Rw.dec_slot r hrr])⟩
    refine ⟨hm, ?_⟩
    unfold Pg.set
    rw [if_pos hm, if_neg (fun e2 => by rw [hs] at e2; have := h.raw hi; rw [e2] at this; cases this), Int.toNat_natCast]
    exact hput _ hs
theorem or_one (x : Nat) (h : x < 18446744073709551616) : ∃ c : Nat, c ≠ 0 ∧ c < 18446744073709551616 ∧ Go.bits .or .u64 (x : Int) 1 = (c : Int) := by
  have e : Go.bits .or .u64 (x : Int) 1 = IntKind.u64.wrap ((((BitVec.ofInt 64 (x : Int)) ||| (BitVec.ofInt 64 ((1 : Nat) : Int))).toNat : Nat) : Int) := rfl
  refine ⟨((BitVec.ofInt 64 (x : Int)) ||| (BitVec.ofInt 64 ((1 : Nat) : Int))).toNat, fun h0 => ?_, BitVec.isLt _, ?_⟩
  · rw [BitVec.toNat_or, BitVec.ofInt_natCast, BitVec.ofInt_natCast, BitVec.toNat_ofNat, BitVec.toNat_ofNat] at h0
    have := congrArg (fun n => Nat.testBit n 0) h0
    simp at this
  · have hl : ((BitVec.ofInt 64 (x : Int)) ||| (BitVec.ofInt 64 ((1 : Nat) : Int))).toNat < 18446744073709551616 := BitVec.isLt _
    rw [e, IntKind.wrap_u64]
    omega
theorem xor_one (x : Nat) (h : x < 65536) : ∃ c : Nat, c ≠ x ∧ c < 65536 ∧ Go.bits .xor .i64 (x : Int) 1 = (c : Int) := by
  have e : Go.bits .xor .i64 (x : Int) 1 = IntKind.i64.wrap ((((BitVec.ofInt 64 (x : Int)) ^^^ (BitVec.ofInt 64 ((1 : Nat) : Int))).toNat : Nat) : Int) := rfl
  have e2 : ((BitVec.ofInt 64 (x : Int)) ^^^ (BitVec.ofInt 64 ((1 : Nat) : Int))).toNat = x ^^^ 1 := by
    rw [BitVec.toNat_xor, BitVec.ofInt_natCast, BitVec.ofInt_natCast, BitVec.toNat_ofNat, BitVec.toNat_ofNat, Nat.mod_eq_of_lt (by omega), Nat.mod_eq_of_lt (by decide)]
  have h2 : x ^^^ 1 < 2 ^ 16 := Nat.xor_lt_two_pow (by omega) (by decide)
  refine ⟨x ^^^ 1, fun h0 => ?_, by omega, ?_⟩
  · have := congrArg (fun n => Nat.testBit n 0) h0
    simp at this
    omega
  · rw [e, e2, IntKind.wrap_i64]
    omega
def tPage (n : Nat) : Tells Keep := ⟨fun v w => ∃ g, v = .pointer (some ⟨g, 0, none⟩) ∧ n ≤ g ∧ PgAt w g Pg.zero, fun _ _ _ hk ⟨g, h1, h2, h3⟩ => ⟨g, h1, h2, h3.keep hk⟩⟩
def tV' (u : Value) : Tells Keep := ⟨fun v _ => v = u, fun _ _ _ _ h => h⟩
theorem exec_neq_page {o : Oper} {a : Act} (x y : Operand) (ho : o.op = .binOp .neq 36 x y 36) {p q : Pg} (hx : a.eval x = .agg p.cells.toArray) (hy : a.eval y = .agg q.cells.toArray) (hp : p.Ok) (hq : q.Ok) (w : World) :
    (execOp a.eval o).run Try.prog w = .ok (.value (.bool (!decide (p = q)))) w := by
  have hg : Try.prog.eqGuardType Try.prog.depth 36 = false := by kernel_rfl
  have he := run_eq_page w p q hp hq
  unfold Pg.val at he
  unfold execOp
  simp [ho, hx, hy, eqGuard, binOp, hg, he]
theorem exec_eq_page {o : Oper} {a : Act} (x y : Operand) (ho : o.op = .binOp .eql 36 x y 36) {p q : Pg} (hx : a.eval x = .agg p.cells.toArray) (hy : a.eval y = .agg q.cells.toArray) (hp : p.Ok) (hq : q.Ok) (w : World) :
    (execOp a.eval o).run Try.prog w = .ok (.value (.bool (decide (p = q)))) w := by
  have hg : Try.prog.eqGuardType Try.prog.depth 36 = false := by kernel_rfl
  have he := run_eq_page w p q hp hq
  unfold Pg.val at he
  unfold execOp
  simp [ho, hx, hy, eqGuard, binOp, hg, he]
end Go.Proofs.Ytdnmddfnlkaahaa
