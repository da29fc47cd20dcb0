/- The walk of page.Decode. -/
import Derived.Test.YtdnmddfnlkaahaaPgE
import Derived.Test.YtdnmddfnlkaahaaReaderG
import Derived.Test.YtdnmddfnlkaahaaChain
namespace Go.Proofs.Ytdnmddfnlkaahaa
open Go Go.RowKit
attribute [local irreducible] Go.wpQuiet

def Pg.withMark (p : Pg) (m : Nat) : Pg := { p with mark := m }
def Pg.blank (t n : Int) : Pg := ⟨0, t, n, List.replicate 5 (zB 40)⟩
/-- two results, the first one in a block of its own -/
theorem results_page {fn : Func} {a u : Tmp} (h : fn.results = #[.cell a 36, .tmp u]) {tmps : Array Value} {g : Nat} {p : Pg} {w : World} (hp : PgAt w g p) (ha : tmps.getD a undef = .pointer (some ⟨g, 0, none⟩)) :
    (results fn tmps).run Try.prog w = .ok (.tuple #[p.val, tmps.getD u undef]) w := by
  have hl := run_loadBig bigP w g 0 p.cells hp.ok.cells (fun j v hj => cell_of hp.h _ v (by rw [Nat.zero_add]; exact hj))
  simp only [Instr.loadAt, Instr.sureAddr, Sem.run_bind, Sem.run_pure, Result.andThen_ok] at hl
  simp only [results, h, Sem.run_bind]
  have ha' : tmps[a]?.getD undef = .pointer (some ⟨g, 0, none⟩) := by simpa using ha
  simp [ha', asAddr, hl, Pg.val]
theorem PgAt.over {w : World} {g : Nat} {p q : Pg} (h : PgAt w g p) (hq : q.Ok) : PgAt (w.setRow g (p.cells.toArray.toList.take 0 ++ q.cells ++ p.cells.toArray.toList.drop (0 + 203)).toArray) g q := by
  have e : p.cells.toArray.toList.take 0 ++ q.cells ++ p.cells.toArray.toList.drop (0 + 203) = q.cells := by
    rw [List.take_zero, List.nil_append, @List.drop_eq_nil_of_le _ p.cells.toArray.toList _ (by show p.cells.length ≤ _; rw [h.ok.cells]; decide), List.append_nil]
  rw [e]
  exact ⟨setRow_heap w g _ _ _ _ h.h, hq⟩
theorem PgAt.mark {w : World} {g : Nat} {p : Pg} (h : PgAt w g p) (m : Nat) (hm : m < 18446744073709551616) : PgAt (w.setCell ⟨g, 0, none⟩ (.int .u64 m)) g (p.withMark m) := by
  refine ⟨?_, ⟨hm, h.ok.n, h.ok.k⟩⟩
  rw [heap_set_same h.h]
  rfl
theorem PgAt.but {w w' : World} {g rb : Nat} {p : Pg} (h : PgAt w g p) (hb : But w w' rb) (hne : g ≠ rb) : PgAt w' g p := h.at (hb.block g h.lt (fun e => hne (by cases e; rfl)))
/-- what says something, so far -/
def loadsTo (b : List UInt8) (j : Nat) : List UInt8 := ((List.range j).map fun i => (b.drop (i * 64 + 8)).take 56).flatten
theorem loadsTo_succ (b : List UInt8) (j : Nat) : loadsTo b (j + 1) = loadsTo b j ++ (b.drop (j * 64 + 8)).take 56 := by
  unfold loadsTo
  rw [List.range_succ, List.map_append, List.flatten_append]
  simp
theorem loadsTo_four (b : List UInt8) : loadsTo b 4 = loadOf b := by
  simp [loadsTo, loadOf, List.range_succ]
theorem loadsTo_len (b : List UInt8) (hb : b.length = 256) : ∀ j, j ≤ 4 → (loadsTo b j).length = j * 56
  | 0, _ => rfl
  | j + 1, hj => by
    rw [loadsTo_succ, List.length_append, loadsTo_len b hb j (by omega), List.length_take, List.length_drop, hb]
    omega
def chunk (a : List UInt8) (i : Nat) : List UInt8 := (a.drop (4 + i * 40)).take 40
theorem chunk_len (a : List UInt8) (ha : a.length = 224) (i : Nat) (hi : i < 5) : (chunk a i).length = 40 := by
  unfold chunk
  rw [List.length_take, List.length_drop, ha]
  omega
/-- a page whose first slots are told -/
def filled (m : Nat) (t n : Int) (a : List UInt8) (j : Nat) : Pg := ⟨m, t, n, (List.range 5).map fun i => if i < j then chunk a i else zB 40⟩
theorem filled_zero (m : Nat) (t n : Int) (a : List UInt8) : filled m t n a 0 = (Pg.blank t n).withMark m := rfl
theorem filled_ok (m : Nat) (hm : m < 18446744073709551616) (t n : Int) (a : List UInt8) (ha : a.length = 224) (j : Nat) : (filled m t n a j).Ok :=
  ⟨hm, rfl, fun s hs => by
    obtain ⟨i, hi, rfl⟩ := List.mem_map.1 hs
    have := List.mem_range.1 hi
    split
    · exact chunk_len a ha i this
    · exact zB_length 40⟩
theorem filled_put (m : Nat) (t n : Int) (a : List UInt8) (j : Nat) (hj : j < 5) : (filled m t n a j).put j (chunk a j) = filled m t n a (j + 1) := by
  unfold filled Pg.put
  congr 1
  refine List.ext_getElem (by simp) fun i h1 h2 => ?_
  simp only [List.length_set, List.length_map, List.length_range] at h1 h2
  rw [List.getElem_set]
  simp only [List.getElem_map, List.getElem_range]
  by_cases h : j = i
  · subst h
    simp
  · rw [if_neg h]
    by_cases h3 : i < j
    · rw [if_pos h3, if_pos (by omega)]
    · rw [if_neg h3, if_neg (by omega)]
theorem filled_all (b : List UInt8) (t n : Int) (h : 0 < Pk.num (b.take 8)) : filled (Pk.num (b.take 8)) t n (loadOf b) 5 = Pg.of b t n := by
  unfold filled Pg.of
  rw [if_pos h]
  congr 1
theorem of_none (b : List UInt8) (t n : Int) (h : Pk.num (b.take 8) = 0) : Pg.blank t n = Pg.of b t n := by
  unfold Pg.of
  rw [h]
  rfl
theorem numN_at (l : List UInt8) (k : Nat) (hk : 1 ≤ k ∧ k ≤ 8) (hl : k ≤ l.length) : Pk.numN ⟨l, false⟩ k = (Pk.num (l.take k), ⟨l.drop k, false⟩) := by
  unfold Pk.numN
  rw [if_neg (by omega)]
  unfold Pk.take
  rw [if_neg (by simp; omega)]
  simp
theorem take_at (l : List UInt8) (k : Nat) (hl : k ≤ l.length) : Pk.take ⟨l, false⟩ k = (l.take k, ⟨l.drop k, false⟩) := by
  unfold Pk.take
  rw [if_neg (by simp; omega)]
  simp
theorem exec_buildP {o : Oper} {a : Act} {x y : Operand} (ho : o.op = .build 36 #[(1, x), (2, y)]) (t n : Int) (hx : a.eval x = .int .i64 t) (hy : a.eval y = .int .i64 n) (w : World) : (execOp a.eval o).run Try.prog w = .ok (.value (.agg (Pg.blank t n).cells.toArray)) w := by
  have hr : (Instr.build 36 #[(1, .int .i64 t), (2, .int .i64 n)]).run Try.prog w = .ok (.agg (Pg.blank t n).cells.toArray) w := run_build w _ _ _ (by kernel_rfl)
  unfold execOp
  simp only [ho, List.map_toArray, List.map_cons, List.map_nil, hx, hy, Sem.run_bind, hr, Result.andThen_ok, Sem.run_pure]
theorem exec_build0 {o : Oper} {a : Act} (ho : o.op = .build 36 #[]) (w : World) : (execOp a.eval o).run Try.prog w = .ok (.value (.agg Pg.zero.cells.toArray)) w := by
  have hr : (Instr.build 36 #[]).run Try.prog w = .ok (.agg Pg.zero.cells.toArray) w := run_build w _ _ _ (by kernel_rfl)
  unfold execOp
  simp only [ho, List.map_toArray, List.map_nil, Sem.run_bind, hr, Result.andThen_ok, Sem.run_pure]
set_option maxRecDepth 100000 in
set_option maxHeartbeats 4000000 in
theorem pdecode_any (v : Value) (b : List UInt8) (t n : Int) (w : World) (hv : SlB w v b) (hb64 : b.length ≤ 1000000000000) (ht : 0 ≤ t ∧ t < 65536) (hn : 0 ≤ n ∧ n < 65536) :
    Calls Try.prog 21 #[v, .int .i64 t, .int .i64 n] w fun e w' => e = .returned (.tuple #[(Pg.dec b t n).1.val, .int .i64 (Pg.dec b t n).2]) ∧ Keep w w' := by
  obtain ⟨va, vc, rfl, -, -, -⟩ := hv.form
  obtain ⟨D, hD⟩ : ∃ D, Pg.dec b t n = D := ⟨_, rfl⟩
  rw [hD]
  have HD := Lib.hid hD
  clear hD
  go_enter Try.func21, Try.ntmps21
  go_upto_region 0 with (fail)
  refine wp_region_seq ?_
  refine seqW_gives (by kernel_rfl) ?_
  refine Gives.allocBig bigP rfl ?_
  have hR : PgAt (w.alloc (.cells Pg.zero.cells.toArray 36)) w.heap.size Pg.zero := ⟨heap_alloc_new w _, Pg.zero_ok⟩
  have k1 := Keep.alloc w (.cells Pg.zero.cells.toArray 36)
  obtain ⟨w1, hw1⟩ : ∃ w1, w1 = w.alloc (.cells Pg.zero.cells.toArray 36) := ⟨_, rfl⟩
  obtain ⟨gr, hge⟩ : ∃ gr, gr = w.heap.size := ⟨_, rfl⟩
  rw [← hw1, ← hge] at hR
  rw [← hw1] at k1
  rw [← hw1, ← hge]
  have hwg : w.heap.size ≤ gr := Nat.le_of_eq hge.symm
  clear hw1 hge
  simp only [Act.put, List.setIfInBounds_toArray, List.set_cons_zero, List.set_cons_succ]
  refine seqW_pure rfl ?_
  go_big_quiet_step (fail)
  refine seqW_on ?_
  refine seqW_done ?_
  go_upto_region 1 with (fail)
  refine wp_region_seq ?_
  refine seqW_pure rfl ?_
  go_big_quiet_step (fail)
  refine seqW_on ?_
  refine seqW_pure rfl ?_
  go_big_quiet_step (fail)
  refine seqW_on ?_
  refine seqW_gives (by kernel_rfl) ?_
  refine Gives.value (v := .agg (Pg.blank t n).cells.toArray) (w' := w1) (exec_buildP rfl t n rfl rfl w1) ?_
  simp only [Act.put, List.setIfInBounds_toArray, List.set_cons_zero, List.set_cons_succ]
  refine seqW_gives (by kernel_rfl) ?_
  refine Gives.allocBig bigP rfl ?_
  have hP : PgAt (w1.alloc (.cells Pg.zero.cells.toArray 36)) w1.heap.size Pg.zero := ⟨heap_alloc_new w1 _, Pg.zero_ok⟩
  have k2 := Keep.alloc w1 (.cells Pg.zero.cells.toArray 36)
  obtain ⟨w2, hw2⟩ : ∃ w2, w2 = w1.alloc (.cells Pg.zero.cells.toArray 36) := ⟨_, rfl⟩
  obtain ⟨gp, hge⟩ : ∃ gp, gp = w1.heap.size := ⟨_, rfl⟩
  rw [← hw2, ← hge] at hP
  rw [← hw2] at k2
  rw [← hw2, ← hge]
  have hgrp : gr ≠ gp := fun e => by have := hR.lt; omega
  have hwp : w.heap.size ≤ gp := by have := k1.size; omega
  clear hw2 hge
  simp only [Act.put, List.setIfInBounds_toArray, List.set_cons_zero, List.set_cons_succ]
  refine seqW_gives (by kernel_rfl) ?_
  refine Gives.storeBig bigP _ _ rfl (g := gp) (off := 0) rfl (Pg.blank t n).cells rfl hP.h rfl (by rw [List.size_toArray, hP.ok.cells]; exact Nat.le_refl _) (Pg.cells_one _) ?_
  have hok0 : (Pg.blank t n).Ok := ⟨show 0 < 18446744073709551616 by decide, rfl, Pg.zero_ok.k⟩
  have hP3 := hP.over hok0
  have hb3 := row_but w2 gp (Pg.zero.cells.toArray.toList.take 0 ++ (Pg.blank t n).cells ++ Pg.zero.cells.toArray.toList.drop (0 + 203)).toArray
  generalize w2.setRow gp (Pg.zero.cells.toArray.toList.take 0 ++ (Pg.blank t n).cells ++ Pg.zero.cells.toArray.toList.drop (0 + 203)).toArray = w3 at *
  have hR3 : PgAt w3 gr Pg.zero := (hR.keep k2).but hb3 hgrp
  have k3 : Keep w w3 := (k1.trans' k2).trans (But.below hb3 hwp (k1.trans' k2).size)
  have hv3 := hv.keep k3
  clear hR k1 k2 hP hb3
  simp only [Act.put, List.setIfInBounds_toArray, List.set_cons_zero, List.set_cons_succ]
  refine seqW_done ?_
  by_cases hl : b.length = 256
  rotate_left
  · have hlb : ((b.length : Int) != 256) = true := by rw [bne_iff_ne]; omega
    have e : D = (Pg.zero, 11) := HD.out.symm.trans (if_neg (fun hh => hl hh.1))
    have HE := Lib.hid e
    clear hl e
    go_upto_region 3 with (fail)
    refine wp_region_seq ?_
    refine seqW_gives (by kernel_rfl) ?_
    refine Gives.value (v := .agg Pg.zero.cells.toArray) (w' := w3) (exec_build0 rfl w3) ?_
    simp only [Act.put, List.setIfInBounds_toArray, List.set_cons_zero, List.set_cons_succ]
    refine seqW_gives (by kernel_rfl) ?_
    refine Gives.storeBig bigP _ _ rfl (g := gr) (off := 0) rfl Pg.zero.cells rfl hR3.h rfl (by rw [List.size_toArray, hR3.ok.cells]; exact Nat.le_refl _) (Pg.cells_one _) ?_
    have hRz := hR3.over Pg.zero_ok
    have hbz := row_but w3 gr (Pg.zero.cells.toArray.toList.take 0 ++ Pg.zero.cells ++ Pg.zero.cells.toArray.toList.drop (0 + 203)).toArray
    generalize w3.setRow gr (Pg.zero.cells.toArray.toList.take 0 ++ Pg.zero.cells ++ Pg.zero.cells.toArray.toList.drop (0 + 203)).toArray = wz at *
    have kz : Keep w wz := k3.trans (But.below hbz hwg k3.size)
    simp only [Act.put, List.setIfInBounds_toArray, List.set_cons_zero, List.set_cons_succ]
    refine seqW_pure rfl ?_
    go_big_quiet_step (fail)
    refine seqW_on ?_
    refine seqW_done ?_
    go_wp2
    exact bodyPost_ret (results_page rfl hRz rfl) rfl ⟨by rw [HE.out]; rfl, kz⟩
  have hlb : ((b.length : Int) != 256) = false := by rw [bne_eq_false_iff_eq]; omega
  go_upto_region 4 with (fail)
  refine wp_region_seq ?_
  refine seqW_pure rfl ?_
  go_big_quiet_step (fail)
  refine seqW_on ?_
  refine seqW_gives (by kernel_rfl) ?_
  refine Gives.call (by first | (go_simp; done) | (go_simp; rfl)) (new_any (S := fun _ => True) _ b w3 hv3 (fun _ _ _ _ => trivial)) ?_
  rintro e w4 ⟨rfl, hr4, k4, hs4⟩
  refine ⟨_, rfl, ?_⟩
  have hP4 := hP3.keep k4
  have hR4 := hR3.keep k4
  have hb4 := hv3.keep k4
  have kk4 := k3.trans' k4
  have h34 : w.heap.size ≤ w3.heap.size := k3.size
  have hne4 : gp ≠ w3.heap.size ∧ gr ≠ w3.heap.size := ⟨fun e => by have := hP3.lt; omega, fun e => by have := hR3.lt; omega⟩
  generalize w3.heap.size = rb at *
  clear hP3 hR3 hv3 k3 k4 hs4
  simp only [Act.put, List.setIfInBounds_toArray, List.set_cons_zero, List.set_cons_succ]
  refine seqW_gives (by kernel_rfl) ?_
  refine Gives.call (by first | (go_simp; done) | (go_simp; rfl)) (num_any rb ⟨b, false⟩ 8 w4 hr4 (by simp only; omega)) ?_
  rw [show (8 : Int) = ((8 : Nat) : Int) from rfl, numN_at b 8 (by decide) (by omega)]
  rintro e w5 ⟨rfl, hbut, -⟩
  refine ⟨_, rfl, ?_⟩
  have hP5 := hP4.but hbut hne4.1
  have hR5 := hR4.but hbut hne4.2
  have kk5 : Keep w w5 := kk4.trans (But.below hbut h34 kk4.size)
  have hml := num_lt (b.take 8)
  have HOK := Lib.hid (⟨rfl, of_none b t n, filled_all b t n⟩ : Pk.num (b.take 8) = Pk.num (b.take 8) ∧ (Pk.num (b.take 8) = 0 → Pg.blank t n = Pg.of b t n) ∧ (0 < Pk.num (b.take 8) → filled (Pk.num (b.take 8)) t n (loadOf b) 5 = Pg.of b t n))
  clear hP4 hR4 hb4 kk4 hbut hr4
  generalize hmm : Pk.num (b.take 8) = m at HOK hml ⊢
  have HMM := Lib.hid hmm
  clear hmm
  simp only
  simp only [Act.put, List.setIfInBounds_toArray, List.set_cons_zero, List.set_cons_succ]
  refine seqW_pure rfl ?_
  go_big_quiet_step (fail)
  refine seqW_on ?_
  have hx0 := hP5.heads.1
  have hf0 := free_of hP5.h 0
  have hP6 := hP5.mark m hml
  have hB6 := But.setCell w5 gp 0 (.int .u64 m)
  refine seqW_gives (by kernel_rfl) ?_
  refine Gives.skip (w' := w5.setCell ⟨gp, 0, none⟩ (.int .u64 (m : Int))) (by go_simp) ?_
  simp only [Act.put, List.setIfInBounds_toArray, List.set_cons_zero, List.set_cons_succ]
  have hR6 := hR5.but hB6 hgrp
  have kk6 : Keep w (w5.setCell ⟨gp, 0, none⟩ (.int .u64 (m : Int))) := kk5.trans (But.below hB6 hwp kk5.size)
  clear hP5 hR5 hx0 hf0 hB6 kk5 hne4
  generalize w5.setCell ⟨gp, 0, none⟩ (.int .u64 (m : Int)) = w6 at *
  refine seqW_done ?_
  have hv6 := hv.keep kk6
  have hcap : b.length ≤ vc := by
    obtain ⟨_, _, hvv, _, hc, _⟩ := hv.form
    simp only [Value.slice.injEq] at hvv
    omega
  go_wp2_with fail
  go_loopw [9, 27] (fun x z wr => ∃ j : Nat, j ≤ 4 ∧ z = .int .i64 j ∧ Own wr w6.heap.size 5 x ((loadsTo b j).map B) ∧ Below w6.heap.size w6 wr ∧ w6.heap.size ≤ wr.heap.size) (fun _ z _ => 4 - (intOf z).toNat)
  case atStart => exact ⟨0, by decide, rfl, Own.nil _ _ _, Below.refl _ _, Nat.le_refl _⟩
  case round =>
    obtain ⟨j, hj, rfl, hO, hB, hsz⟩ := hrel
    by_cases hj4 : j < 4
    rotate_left
    · have hjd : ¬ ((j : Int) < 4) := by omega
      have ej : j = 4 := by omega
      subst ej
      rw [loadsTo_four] at hO
      rw [hl] at hv6
      have hall : (loadOf b).length = 224 := by rw [← loadsTo_four, loadsTo_len b hl 4 (Nat.le_refl _)]
      have HA : Hid ((Pg.mine b t n ↔ (m = 0 ∨ ((Pk.num ((loadOf b).take 2) : Int) = t ∧ (Pk.num (((loadOf b).drop 2).take 2) : Int) = n)))) := Lib.hid (by unfold Pg.mine; rw [HMM.out])
      generalize loadOf b = A at *
      obtain ⟨oa, on, oc, hvo⟩ := hO.slB.shape
      subst hvo
      have hbO := hO.slB
      have kkr : Keep w wr := kk6.trans' hB
      have hPr := hP6.keep hB
      have hRr := hR6.keep hB
      have hvr := hv6.keep hB
      go_wp2_with fail
      have hin : ∀ a n c, Value.slice oa on oc = .slice (some a) n c → a.block ≠ gp := Own.inOf (S := fun x => x ≠ gp) hO (fun x hx e => by have := (World.ownsRow.lt hO x hx).1; have := hP6.lt; omega)
      refine (new_any (S := fun x => x ≠ gp) _ A wr hbO hin).mono ?_
      rintro e w8 ⟨rfl, hr8, k8, -⟩
      have hP8 := hPr.keep k8
      have hR8 := hRr.keep k8
      have hv8 := hvr.keep k8
      have kk8 := kkr.trans' k8
      have hlo : w.heap.size ≤ wr.heap.size := kkr.size
      have hnp : gp ≠ wr.heap.size := fun e => by have := hPr.lt; omega
      have hnr : gr ≠ wr.heap.size := fun e => by have := hRr.lt; omega
      clear hPr hRr hvr kkr hbO k8 hsz hin hO hB hP6 hR6 hv6 kk6 hj hj4
      generalize wr.heap.size = rd at *
      go_upto_region 12 with (fail)
      go_cut [59] from 43 to 58 (fun z w' => ∃ bad : Bool, z = .bool bad ∧ (bad = true → ¬ Pg.mine b t n) ∧ (bad = false → Pg.mine b t n ∧ (0 < m → Rd (fun x => x ≠ gp) w' rd ⟨A.drop 4, false⟩)) ∧ PgAt w' gp (filled m t n A 0) ∧ PgAt w' gr Pg.zero ∧ SlB w' (.slice va 256 vc) b ∧ Keep w w')
      case first =>
        as_aux_lemma =>
          have c0 : w8.cell? ⟨gp, 0, none⟩ = some (.int .u64 (m : Int)) := hP8.heads.1
          by_cases hm : m = 0
          · subst hm
            have tm : ¬ (0 : Int) < ((0 : Nat) : Int) := by decide
            have hmine := Lib.hid (HA.out.2 (.inl rfl))
            go_wp2
            go_meet
            case rel => exact ⟨false, rfl, (fun h => by cases h), (fun _ => ⟨hmine.out, fun h => absurd h (by decide)⟩), hP8, hR8, hv8, kk8⟩
          have tm : (0 : Int) < (m : Int) := by omega
          have q1 := Pk.num_lt_pow (A.take 2) (by rw [List.length_take]; omega)
          have q1l : (A.take 2).length = 2 := by rw [List.length_take]; omega
          rw [q1l] at q1
          have q2 := Pk.num_lt_pow ((A.drop 2).take 2) (by rw [List.length_take]; omega)
          have q2l : ((A.drop 2).take 2).length = 2 := by rw [List.length_take, List.length_drop]; omega
          rw [q2l] at q2
          go_wp2_with fail
          have hn1 := num_any rd ⟨A, false⟩ 2 w8 hr8 (by simp only; omega)
          rw [show (2 : Int) = ((2 : Nat) : Int) from rfl, numN_at A 2 (by decide) (by omega)] at hn1
          refine hn1.mono ?_
          clear hn1
          rintro e w9 ⟨rfl, hb9, hr9⟩
          have hP9 := hP8.but hb9 hnp
          have hR9 := hR8.but hb9 hnr
          have kk9 : Keep w w9 := kk8.trans (But.below hb9 hlo kk8.size)
          have hv9 : SlB w9 (.slice va 256 vc) b := by rw [← hl]; exact hv.keep kk9
          clear hP8 hR8 hv8 kk8 hb9 hr8 c0
          have e1 : Pk.num (A.take 2) % 18446744073709551616 = Pk.num (A.take 2) := Nat.mod_eq_of_lt (by omega)
          generalize hN1 : Pk.num (A.take 2) = N1 at *
          have hq1 : N1 < 65536 := by omega
          clear q1 q1l e1
          by_cases h1 : (N1 : Int) = t
          rotate_left
          · have h1b : ((N1 : Int) != t) = true := by rw [bne_iff_ne]; exact h1
            have hmine := Lib.hid (fun h : Pg.mine b t n => (HA.out.1 h).elim hm (fun hh => h1 hh.1))
            clear h1
            go_wp2
            go_meet
            case rel => exact ⟨true, rfl, (fun _ => hmine.out), (fun h => by cases h), hP9, hR9, hv9, kk9⟩
          have h1b : ((N1 : Int) != t) = false := by rw [bne_eq_false_iff_eq]; exact h1
          have H1 := Lib.hid h1
          clear h1
          go_wp2_with fail
          have hn1 := num_any rd ⟨A.drop 2, false⟩ 2 w9 hr9 (by simp only [List.length_drop]; omega)
          rw [show (2 : Int) = ((2 : Nat) : Int) from rfl, numN_at (A.drop 2) 2 (by decide) (by rw [List.length_drop]; omega)] at hn1
          refine hn1.mono ?_
          clear hn1
          rintro e w10 ⟨rfl, hb10, hr10⟩
          have hP10 := hP9.but hb10 hnp
          have hR10 := hR9.but hb10 hnr
          have kk10 : Keep w w10 := kk9.trans (But.below hb10 hlo kk9.size)
          have hv10 : SlB w10 (.slice va 256 vc) b := by rw [← hl]; exact hv.keep kk10
          rw [List.drop_drop] at hr10
          clear hP9 hR9 hv9 kk9 hb10 hr9
          generalize hN2 : Pk.num ((A.drop 2).take 2) = N2 at *
          have hq2 : N2 < 65536 := by omega
          clear q2 q2l
          by_cases h2 : (N2 : Int) = n
          rotate_left
          · have h2b : ((N2 : Int) != n) = true := by rw [bne_iff_ne]; exact h2
            have hmine := Lib.hid (fun h : Pg.mine b t n => (HA.out.1 h).elim hm (fun hh => h2 hh.2))
            clear h2
            go_wp2
            go_meet
            case rel => exact ⟨true, rfl, (fun _ => hmine.out), (fun h => by cases h), hP10, hR10, hv10, kk10⟩
          have h2b : ((N2 : Int) != n) = false := by rw [bne_eq_false_iff_eq]; exact h2
          have hmine := Lib.hid (HA.out.2 (.inr ⟨H1.out, h2⟩))
          clear h2
          go_wp2
          go_meet
          case rel => exact ⟨false, rfl, (fun h => by cases h), (fun _ => ⟨hmine.out, fun _ => hr10⟩), hP10, hR10, hv10, kk10⟩
      as_aux_lemma =>
        obtain ⟨bad, rfl, hbad, hgood, hP9, hR9, hv9, kk9⟩ := hcut
        clear hP8 hR8 hv8 kk8 hr8
        cases bad
        rotate_left
        · have e : D = (Pg.zero, 11) := HD.out.symm.trans (if_neg (fun hh => hbad rfl hh.2.1))
          have HE := Lib.hid e
          clear hbad hgood e hP9 hv9
          go_upto_region 13 with (fail)
          refine wp_region_seq ?_
          refine seqW_gives (by kernel_rfl) ?_
          refine Gives.value (v := .agg Pg.zero.cells.toArray) (w' := wc) (exec_build0 rfl wc) ?_
          simp only [Act.put, List.setIfInBounds_toArray, List.set_cons_zero, List.set_cons_succ]
          refine seqW_gives (by kernel_rfl) ?_
          refine Gives.storeBig bigP _ _ rfl (g := gr) (off := 0) rfl Pg.zero.cells rfl hR9.h rfl (by rw [List.size_toArray, hR9.ok.cells]; exact Nat.le_refl _) (Pg.cells_one _) ?_
          have hRz := hR9.over Pg.zero_ok
          have hbz := row_but wc gr (Pg.zero.cells.toArray.toList.take 0 ++ Pg.zero.cells ++ Pg.zero.cells.toArray.toList.drop (0 + 203)).toArray
          generalize wc.setRow gr (Pg.zero.cells.toArray.toList.take 0 ++ Pg.zero.cells ++ Pg.zero.cells.toArray.toList.drop (0 + 203)).toArray = wz at *
          have kz : Keep w wz := kk9.trans (But.below hbz hwg kk9.size)
          simp only [Act.put, List.setIfInBounds_toArray, List.set_cons_zero, List.set_cons_succ]
          refine seqW_pure rfl ?_
          go_big_quiet_step (fail)
          refine seqW_on ?_
          refine seqW_done ?_
          go_wp2
          exact bodyPost_ret (results_page rfl hRz rfl) rfl ⟨by rw [HE.out]; rfl, kz⟩
        have hgood := hgood rfl
        clear hbad
        have HMI := Lib.hid hgood.1
        have hrd := Lib.hid hgood.2
        clear hgood
        go_wp2_with fail
        go_loopw [12] (fun z wr => ∃ j : Nat, j ≤ 5 ∧ (m = 0 → j = 0) ∧ z = .int .i64 j ∧ PgAt wr gp (filled m t n A j) ∧ PgAt wr gr Pg.zero ∧ SlB wr (.slice va 256 vc) b ∧ Hid (0 < m → Rd (fun x => x ≠ gp) wr rd ⟨A.drop (4 + j * 40), false⟩) ∧ Keep w wr) (fun z _ => 5 - (intOf z).toNat)
        case atStart => exact ⟨0, by decide, fun _ => rfl, rfl, hP9, hR9, hv9, hrd, kk9⟩
        case round =>
          obtain ⟨j, hj, hmj, rfl, hP, hR, hvw, hrj, kk⟩ := hrel
          clear hP9 hR9 hv9 hrd kk9
          have c0 : wr.cell? ⟨gp, 0, none⟩ = some (.int .u64 (m : Int)) := hP.heads.1
          go_upto_region 15 with (fail)
          go_cut [67] from 61 to 66 (fun z w' => z = .bool (decide (j < 5 ∧ 0 < m)) ∧ wr = w')
          case first =>
            as_aux_lemma =>
              by_cases h5 : j < 5
              · have h5i : (j : Int) < 5 := by omega
                by_cases hm : 0 < m
                · have hmi : (0 : Int) < (m : Int) := by omega
                  go_wp2
                  go_meet
                  case rel => exact ⟨by rw [decide_eq_true (⟨h5, hm⟩ : j < 5 ∧ 0 < m)], rfl⟩
                · have hmi : ¬ (0 : Int) < (m : Int) := by omega
                  go_wp2
                  go_meet
                  case rel => exact ⟨by rw [decide_eq_false (fun hh : j < 5 ∧ 0 < m => hm hh.2)], rfl⟩
              · have h5i : ¬ (j : Int) < 5 := by omega
                go_wp2
                go_meet
                case rel => exact ⟨by rw [decide_eq_false (fun hh : j < 5 ∧ 0 < m => h5 hh.1)], rfl⟩
          obtain ⟨rfl, rfl⟩ := hcut
          by_cases hgo : j < 5 ∧ 0 < m
          rotate_left
          · rw [decide_eq_false hgo]
            have HP : Hid (filled m t n A j = Pg.of b t n) := Lib.hid (by
              by_cases hm : m = 0
              · have := hmj hm
                subst this
                subst hm
                exact HOK.out.2.1 rfl
              · have : j = 5 := by omega
                subst this
                exact HOK.out.2.2 (by omega))
            rw [HP.out] at hP
            clear hrj hgo hmj c0
            obtain ⟨P, hPP⟩ : ∃ P, Pg.of b t n = P := ⟨_, rfl⟩
            have hten : P.tenant = t := by rw [← hPP]; rfl
            have hnum : P.number = n := by rw [← hPP]; rfl
            rw [hPP] at hP
            have HPP := Lib.hid hPP
            clear hPP
            have hPok := hP.ok
            go_upto_region 18 with (fail)
            refine wp_region_ord' [some (oV (.agg P.cells.toArray)), some (oB P.enc), some (oV (strV (P.enc))), none, some (oV (strV (b))), none]
              #[0, 0, 0, 0, 0, 0] (wr.heap.size) (fun w' => Keep wr w') (by kernel_rfl) (by kernel_rfl) (by kernel_rfl) ((Keep.refl wr).drew) ?_
            refine ordT_same (by kernel_rfl) (fun w2 hC => ?_) ?_
            · exact exec_loadBig bigP _ rfl rfl w2 P.cells hPok.cells (fun j v hj => cell_of (hP.keep hC).h _ v (by rw [Nat.zero_add]; exact hj))
            simp only [Act.put, List.setIfInBounds_toArray, List.set_cons_zero, List.set_cons_succ]
            refine ordT_call (by kernel_rfl) keepK (fun w2 own hC hF => ?_) ?_
            · refine ⟨_, _, by first | (go_simp; done) | (go_simp; rfl), (pencode_any P hPok (by rw [hten]; exact ht) (by rw [hnum]; exact hn) w2).mono ?_⟩
              rintro e w' ⟨v, rfl, hO, hk⟩
              exact ⟨v, rfl, hk, fun S hS => ⟨hO.sl, fun _ => Own.inOf hO fun g hg => hS g (.inr (World.ownsRow.lt hO g hg).1)⟩⟩
            rintro x1 wx1 ownx1 hCx1 hx1
            obtain ⟨ax1, nx1, cx1, rfl⟩ := Sl.shape hx1.1
            simp only [Act.put, List.setIfInBounds_toArray, List.set_cons_zero, List.set_cons_succ]
            refine ordT_str Try.underlying38 Try.underlying5 Try.underlying9 _ rfl (bs := P.enc) (by kernel_rfl) (fun w2 own hC hF => ?_) ?_
            · exact (((hF 1 rfl).1 rfl)).1
            simp only [Act.put, List.setIfInBounds_toArray, List.set_cons_zero, List.set_cons_succ]
            simp only [strV]
            refine ordT_pure rfl ?_
            go_big_quiet_step (fail)
            refine ordT_on ?_
            refine ordT_str Try.underlying38 Try.underlying5 Try.underlying9 _ rfl (bs := b) (by kernel_rfl) (fun w2 own hC hF => ?_) ?_
            · exact hvw.keep hC
            simp only [Act.put, List.setIfInBounds_toArray, List.set_cons_zero, List.set_cons_succ]
            simp only [strV]
            refine ordT_pure rfl ?_
            go_big_quiet_step (fail)
            refine ordT_on ?_
            refine ordT_done fun w9 own hC hF => ?_
            have kE := hC
            clear hF hC hx1
            have hP9 := hP.keep kE
            have hR9 := hR.keep kE
            have kk9 := kk.trans' kE
            clear hP hR hvw kk kE
            by_cases henc : P.enc = b
            rotate_left
            · have e : D = (Pg.zero, 11) := HD.out.symm.trans (if_neg (fun hh => henc (by rw [← HPP.out]; exact hh.2.2.1)))
              have HE := Lib.hid e
              have hbq : (P.enc == b) = false := beq_eq_false_iff_ne.2 henc
              rw [hbq]
              clear e hP9 henc
              go_upto_region 19 with (fail)
              refine wp_region_seq ?_
              refine seqW_gives (by kernel_rfl) ?_
              refine Gives.value (v := .agg Pg.zero.cells.toArray) (w' := w9) (exec_build0 rfl w9) ?_
              simp only [Act.put, List.setIfInBounds_toArray, List.set_cons_zero, List.set_cons_succ]
              refine seqW_gives (by kernel_rfl) ?_
              refine Gives.storeBig bigP _ _ rfl (g := gr) (off := 0) rfl Pg.zero.cells rfl hR9.h rfl (by rw [List.size_toArray, hR9.ok.cells]; exact Nat.le_refl _) (Pg.cells_one _) ?_
              have hRz := hR9.over Pg.zero_ok
              have hbz := row_but w9 gr (Pg.zero.cells.toArray.toList.take 0 ++ Pg.zero.cells ++ Pg.zero.cells.toArray.toList.drop (0 + 203)).toArray
              generalize w9.setRow gr (Pg.zero.cells.toArray.toList.take 0 ++ Pg.zero.cells ++ Pg.zero.cells.toArray.toList.drop (0 + 203)).toArray = wz at *
              have kz : Keep w wz := kk9.trans (But.below hbz hwg kk9.size)
              simp only [Act.put, List.setIfInBounds_toArray, List.set_cons_zero, List.set_cons_succ]
              refine seqW_pure rfl ?_
              go_big_quiet_step (fail)
              refine seqW_on ?_
              refine seqW_done ?_
              go_wp2
              exact bodyPost_ret (results_page rfl hRz rfl) rfl ⟨by rw [HE.out]; rfl, kz⟩
            have HEN := Lib.hid henc
            have hbq : (P.enc == b) = true := beq_iff_eq.2 henc
            rw [hbq]
            clear henc hbq
            go_wp2_with fail
            go_loopw [84] (fun z wr => ∃ j : Nat, j ≤ 5 ∧ z = .int .i64 j ∧ Hid (∀ i, i < j → (Rw.dec (P.raw i)).2 ≠ 9) ∧ PgAt wr gp P ∧ PgAt wr gr Pg.zero ∧ Keep w wr) (fun z _ => 5 - (intOf z).toNat)
            case atStart => exact ⟨0, by decide, rfl, Lib.hid (fun i hi => absurd hi (by omega)), hP9, hR9, kk9⟩
            case round =>
              obtain ⟨j, hj, rfl, hno, hP, hR, kk⟩ := hrel
              clear hP9 hR9 kk9
              by_cases hj5 : j < 5
              rotate_left
              · have hjd : ¬ ((j : Int) < 5) := by omega
                have e : D = (P, 0) := by
                  rw [← HD.out]
                  unfold Pg.dec
                  rw [HPP.out, if_pos ⟨hl, HMI.out, HEN.out, fun x hx => by
                    obtain ⟨i, hi, rfl⟩ := List.mem_iff_getElem.1 hx
                    rw [← Pg.raw_get hi]
                    exact hno.out i (by rw [hPok.n] at hi; omega)⟩]
                have HE := Lib.hid e
                clear e
                go_upto_region 27 with (fail)
                refine wp_region_seq ?_
                refine seqW_gives (by kernel_rfl) ?_
                refine Gives.loadBig bigP _ rfl (g := gp) (off := 0) rfl P.cells hPok.cells (fun j v hj => cell_of hP.h _ v (by rw [Nat.zero_add]; exact hj)) ?_
                simp only [Act.put, List.setIfInBounds_toArray, List.set_cons_zero, List.set_cons_succ]
                refine seqW_gives (by kernel_rfl) ?_
                refine Gives.storeBig bigP _ _ rfl (g := gr) (off := 0) rfl P.cells rfl hR.h hPok.cells (by rw [List.size_toArray, hR.ok.cells]; exact Nat.le_refl _) (Pg.cells_one _) ?_
                have hRz := hR.over hPok
                have hbz := row_but wr gr (Pg.zero.cells.toArray.toList.take 0 ++ P.cells ++ Pg.zero.cells.toArray.toList.drop (0 + 203)).toArray
                generalize wr.setRow gr (Pg.zero.cells.toArray.toList.take 0 ++ P.cells ++ Pg.zero.cells.toArray.toList.drop (0 + 203)).toArray = wz at *
                have kz : Keep w wz := kk.trans (But.below hbz hwg kk.size)
                simp only [Act.put, List.setIfInBounds_toArray, List.set_cons_zero, List.set_cons_succ]
                refine seqW_pure rfl ?_
                go_big_quiet_step (fail)
                refine seqW_on ?_
                refine seqW_done ?_
                go_wp2
                exact bodyPost_ret (results_page rfl hRz rfl) rfl ⟨by rw [HE.out]; rfl, kz⟩
              have hjd : (j : Int) < 5 := by omega
              have hsl := hP.slice j hj5
              have HQ : Hid ((Rw.dec (P.raw j)).2 = 9 → ¬ P.rows) := Lib.hid (fun h9 hr => hr (P.raw j) (by rw [Pg.raw_get (by rw [hPok.n]; exact hj5)]; exact List.getElem_mem _) h9)
              have HNO : Hid ((Rw.dec (P.raw j)).2 ≠ 9 → ∀ i, i < j + 1 → (Rw.dec (P.raw i)).2 ≠ 9) := Lib.hid (fun hne i hi => by
                by_cases e : i = j
                · subst e; exact hne
                · exact hno.out i (by omega))
              go_upto_region 23 with (fail)
              refine wp_region_seq ?_
              refine seqW_pure rfl ?_
              go_big_quiet_step (fail)
              refine seqW_on ?_
              refine seqW_pure rfl ?_
              go_big_quiet_step (fail)
              refine seqW_on ?_
              refine seqW_pure rfl ?_
              go_big_quiet_step (fail)
              refine seqW_on ?_
              refine seqW_pure rfl ?_
              go_big_quiet_step (fail)
              refine seqW_on ?_
              refine seqW_gives (by kernel_rfl) ?_
              refine Gives.call (by first | (go_simp; done) | (go_simp; rfl)) (decode_any _ (P.raw j) wr hsl) ?_
              rintro e w2 ⟨rfl, k2⟩
              refine ⟨_, rfl, ?_⟩
              have hde : (Rw.dec (P.raw j)).1.val = .agg #[.int .i64 (Rw.dec (P.raw j)).1.t, .string ⟨(Rw.dec (P.raw j)).1.k.toArray⟩, .string ⟨(Rw.dec (P.raw j)).1.v.toArray⟩] := rfl
              rw [hde]
              clear hde hsl
              simp only [Act.put, List.setIfInBounds_toArray, List.set_cons_zero, List.set_cons_succ]
              refine seqW_pure rfl ?_
              go_big_quiet_step (fail)
              refine seqW_on ?_
              refine seqW_pure rfl ?_
              go_big_quiet_step (fail)
              refine seqW_on ?_
              refine seqW_pure rfl ?_
              go_big_quiet_step (fail)
              refine seqW_on ?_
              refine seqW_gives (by kernel_rfl) ?_
              refine Gives.allocBig bigR rfl ?_
              simp only [Act.put, List.setIfInBounds_toArray, List.set_cons_zero, List.set_cons_succ]
              refine seqW_gives (by kernel_rfl) ?_
              refine Gives.storeBig bigR _ _ rfl (g := w2.heap.size) (off := 0) rfl [.int .i64 (Rw.dec (P.raw j)).1.t, .string ⟨(Rw.dec (P.raw j)).1.k.toArray⟩, .string ⟨(Rw.dec (P.raw j)).1.v.toArray⟩] rfl (heap_alloc_new w2 _) rfl (by decide) (fun v hv => by simp only [List.mem_cons, List.not_mem_nil, or_false] at hv; rcases hv with rfl | rfl | rfl <;> rfl) ?_
              obtain ⟨w4, hw4⟩ : ∃ w4, w4 = (w2.alloc (.cells [.int .i64 0, .string ⟨#[]⟩, .string ⟨#[]⟩].toArray 24)).setRow w2.heap.size ([.int .i64 (Rw.dec (P.raw j)).1.t, .string ⟨(Rw.dec (P.raw j)).1.k.toArray⟩, .string ⟨(Rw.dec (P.raw j)).1.v.toArray⟩].toArray) := ⟨_, rfl⟩
              refine cast (congrArg _ hw4) ?_
              simp only [Act.put, List.setIfInBounds_toArray, List.set_cons_zero, List.set_cons_succ]
              refine seqW_pure rfl ?_
              go_big_quiet_step (fail)
              refine seqW_on ?_
              refine seqW_done ?_
              have hk4 : Keep wr w4 := below_setRow' k2 rfl hw4
              have hP4 := hP.keep hk4
              have hR4 := hR.keep hk4
              have kk4 := kk.trans' hk4
              clear hw4 k2 hP hR kk hk4
              generalize (Rw.dec (P.raw j)).1 = RR at *
              generalize hee : (Rw.dec (P.raw j)).2 = E at *
              by_cases he : E = 9
              · have e : D = (Pg.zero, 11) := HD.out.symm.trans (if_neg (fun hh => HQ.out he (by rw [← HPP.out]; exact hh.2.2.2)))
                have HE := Lib.hid e
                have heb : (E == 9) = true := beq_iff_eq.2 he
                clear e he hee HQ HNO hP4
                go_upto_region 25 with (fail)
                refine wp_region_seq ?_
                refine seqW_gives (by kernel_rfl) ?_
                refine Gives.value (v := .agg Pg.zero.cells.toArray) (w' := w4) (exec_build0 rfl w4) ?_
                simp only [Act.put, List.setIfInBounds_toArray, List.set_cons_zero, List.set_cons_succ]
                refine seqW_gives (by kernel_rfl) ?_
                refine Gives.storeBig bigP _ _ rfl (g := gr) (off := 0) rfl Pg.zero.cells rfl hR4.h rfl (by rw [List.size_toArray, hR4.ok.cells]; exact Nat.le_refl _) (Pg.cells_one _) ?_
                have hRz := hR4.over Pg.zero_ok
                have hbz := row_but w4 gr (Pg.zero.cells.toArray.toList.take 0 ++ Pg.zero.cells ++ Pg.zero.cells.toArray.toList.drop (0 + 203)).toArray
                generalize w4.setRow gr (Pg.zero.cells.toArray.toList.take 0 ++ Pg.zero.cells ++ Pg.zero.cells.toArray.toList.drop (0 + 203)).toArray = wz at *
                have kz : Keep w wz := kk4.trans (But.below hbz hwg kk4.size)
                simp only [Act.put, List.setIfInBounds_toArray, List.set_cons_zero, List.set_cons_succ]
                refine seqW_pure rfl ?_
                go_big_quiet_step (fail)
                refine seqW_on ?_
                refine seqW_done ?_
                go_wp2
                exact bodyPost_ret (results_page rfl hRz rfl) rfl ⟨by rw [HE.out]; rfl, kz⟩
              have heb : (E == 9) = false := beq_eq_false_iff_ne.2 he
              have HN2 := Lib.hid (HNO.out he)
              clear he hee HQ HNO
              go_wp2
              go_roundw
              case rel => exact ⟨j + 1, by omega, by go_num, HN2, hP4, hR4, kk4⟩
              case measure => simp [intOf]; omega
          rw [decide_eq_true hgo]
          obtain ⟨h5, hm⟩ := hgo
          have h5i : (j : Int) < 5 := by omega
          have hrj := hrj.out hm
          have hrl : (A.drop (4 + j * 40)).length = 224 - (4 + j * 40) := by rw [List.length_drop, hall]
          have hck : (A.drop (4 + j * 40)).take 40 = chunk A j := rfl
          have hcl := chunk_len A hall j h5
          have hput := filled_put m t n A j h5
          go_upto_region 17 with (fail)
          refine wp_region_ch 7 [none, none, none, none, none, some none, some none] (fun _ => True) (by kernel_rfl) (by kernel_rfl) (by kernel_rfl) (by kernel_rfl) (trivial) ?_
          refine chT_pure rfl ?_
          go_big_quiet_step (fail)
          refine chT_on ?_
          refine chT_pure rfl ?_
          go_big_quiet_step (fail)
          refine chT_on ?_
          refine chT_pure rfl ?_
          go_big_quiet_step (fail)
          refine chT_on ?_
          refine chT_pure rfl ?_
          go_big_quiet_step (fail)
          refine chT_on ?_
          refine chT_pure rfl ?_
          go_big_quiet_step (fail)
          refine chT_on ?_
          have hP5 := hP.keep (w' := wr.drew) (Keep.refl wr).drew
          have hR5 := hR.keep (w' := wr.drew) (Keep.refl wr).drew
          have kk5 := kk.trans' (Keep.refl wr).drew
          have hr5 := hrj.keep (w' := wr.drew) (Keep.refl wr).drew
          clear hP hR hvw hrj kk c0
          generalize wr.drew = w5 at *
          refine chT_gives (by kernel_rfl) ?_
          have htk := take_any rd ⟨A.drop (4 + j * 40), false⟩ 40 w5 hr5 (by simp only; omega)
          rw [show (40 : Int) = ((40 : Nat) : Int) from rfl, take_at _ 40 (by omega), hck, List.drop_drop] at htk
          refine Gives.call (by first | (go_simp; done) | (go_simp; rfl)) htk ?_
          clear htk
          rintro e w6 ⟨v6, rfl, hO6, hb6, hr6⟩
          refine ⟨_, rfl, trivial, ?_⟩
          have hP6 := hP5.but hb6 hnp
          have hR6 := hR5.but hb6 hnr
          have kk6 : Keep w w6 := kk5.trans (But.below hb6 hlo kk5.size)
          have hs6 := hO6.slB
          clear hP5 hR5 kk5 hr5 hb6 hO6
          simp only [Act.put, List.setIfInBounds_toArray, List.set_cons_zero, List.set_cons_succ]
          refine chT_gives (by kernel_rfl) ?_
          refine Gives.copyRow elemB _ _ rfl (g := gp) (off := 3 + j * 40) (dLen := 40) (dCap := 40) (by first | rfl | go_simp) rfl hs6 (B_oneCell _) hP6.h (by rw [List.size_toArray, hP6.ok.cells]; omega) ?_
          rw [show ((chunk A j).map B).take 40 = (chunk A j).map B from List.take_of_length_le (by rw [List.length_map, hcl]; exact Nat.le_refl _), List.length_map, hcl]
          refine ⟨trivial, ?_⟩
          have hP7 := hP6.row j h5 (chunk A j) hcl
          rw [hput] at hP7
          have hb7 := row_but w6 gp ((filled m t n A j).cells.toArray.toList.take (3 + j * 40) ++ (chunk A j).map B ++ (filled m t n A j).cells.toArray.toList.drop (3 + j * 40 + 40)).toArray
          have hP7 : PgAt (w6.setRow gp ((filled m t n A j).cells.toArray.toList.take (3 + j * 40) ++ (chunk A j).map B ++ (filled m t n A j).cells.toArray.toList.drop (3 + j * 40 + 40)).toArray) gp (filled m t n A (j + 1)) := hP7
          generalize w6.setRow gp ((filled m t n A j).cells.toArray.toList.take (3 + j * 40) ++ (chunk A j).map B ++ (filled m t n A j).cells.toArray.toList.drop (3 + j * 40 + 40)).toArray = w7 at *
          have hR7 := hR6.but hb7 hgrp
          have kk7 : Keep w w7 := kk6.trans (But.below hb7 hwp kk6.size)
          have hv7 : SlB w7 (.slice va 256 vc) b := by rw [← hl]; exact hv.keep kk7
          have hr7 : Rd (fun x => x ≠ gp) w7 rd ⟨A.drop (4 + (j + 1) * 40), false⟩ := by
            have e : (4 + j * 40 + 40) = 4 + (j + 1) * 40 := by omega
            rw [e] at hr6
            exact hr6.other hb7 (fun e => hnp e.symm) (fun hh => hh rfl)
          clear hP6 hR6 kk6 hs6 hr6 hput
          simp only [Act.put, List.setIfInBounds_toArray, List.set_cons_zero, List.set_cons_succ]
          refine chT_done ?_
          refine seqW_done ?_
          go_wp2
          go_roundw
          case rel => exact ⟨j + 1, by omega, (fun e => by omega), by go_num, hP7, hR7, hv7, Lib.hid (fun _ => hr7), kk7⟩
          case measure => simp [intOf]; omega
    have hjd : (j : Int) < 4 := by omega
    have hvr : SlB wr (.slice va b.length vc) b := hv6.keep hB
    have hcut := hvr.cut (j * 64 + 8) ((j + 1) * 64) (by omega) (by omega)
    rw [show (j + 1) * 64 - (j * 64 + 8) = 56 by omega] at hcut
    have hup := loadsTo_succ b j
    have hul := loadsTo_len b hl j (by omega)
    have hcl : ((b.drop (j * 64 + 8)).take 56).length = 56 := by rw [List.length_take, List.length_drop, hl]; omega
    have HUP := Lib.hid hup
    have i1 : (j : Int) * 64 + 8 ≤ ((j : Int) + 1) * 64 := by omega
    have i2 : ((j : Int) + 1) * 64 ≤ (vc : Int) := by omega
    have i3 : (0 : Int) ≤ (j : Int) * 64 + 8 := by omega
    clear hup
    go_upto_region 9 with (fail)
    refine wp_region_seq ?_
    refine seqW_pure rfl ?_
    go_big_quiet_step (fail)
    refine seqW_on ?_
    refine seqW_pure rfl ?_
    go_big_quiet_step (fail)
    refine seqW_on ?_
    refine seqW_pure rfl ?_
    go_big_quiet_step (fail)
    refine seqW_on ?_
    refine seqW_pure rfl ?_
    go_big_quiet_step (fail)
    refine seqW_on ?_
    refine seqW_pure rfl ?_
    go_big_quiet_step (fail)
    refine seqW_on ?_
    refine seqW_pure rfl ?_
    go_big_quiet_step (fail)
    refine seqW_on ?_
    refine seqW_pure rfl ?_
    go_big_quiet_step (fail)
    refine seqW_on ?_
    refine seqW_pure rfl ?_
    go_big_quiet_step (fail)
    refine seqW_on ?_
    refine seqW_gives (by kernel_rfl) ?_
    refine Gives.value (v := sliced va (j * 64 + 8) ((j + 1) * 64) vc 1) (w' := wr) ((exec_cut elemB _ _ _ rfl rfl ((j : Int) * 64 + 8) (((j : Int) + 1) * 64) rfl rfl i3 i1 i2 wr).trans (by rw [show ((j : Int) * 64 + 8).toNat = j * 64 + 8 by omega, show (((j : Int) + 1) * 64).toNat = (j + 1) * 64 by omega])) ?_
    simp only [Act.put, List.setIfInBounds_toArray, List.set_cons_zero, List.set_cons_succ]
    refine seqW_gives (by kernel_rfl) ?_
    refine Gives.appendB elemB _ _ rfl rfl rfl hO hcut (by rw [hul, hcl]; omega) hsz fun v7 w7 hO7 hg7 => ?_
    rw [← HUP.out] at hO7
    have hB7 := hB.trans (hO.belowAt hg7 hsz)
    have hs7 : w6.heap.size ≤ w7.heap.size := Nat.le_trans hsz hg7.size
    clear hO hB hg7 hvr hcut
    simp only [Act.put, List.setIfInBounds_toArray, List.set_cons_zero, List.set_cons_succ]
    refine seqW_pure rfl ?_
    go_big_quiet_step (fail)
    refine seqW_on ?_
    refine seqW_done ?_
    go_wp2
    go_roundw
    case rel => exact ⟨j + 1, by omega, by go_num, hO7, hB7, hs7⟩
    case measure => simp [intOf]; omega
end Go.Proofs.Ytdnmddfnlkaahaa
