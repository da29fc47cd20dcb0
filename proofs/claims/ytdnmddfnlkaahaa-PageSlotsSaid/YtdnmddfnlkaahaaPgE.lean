/- The walk of page.Encode. -/
import Derived.Test.YtdnmddfnlkaahaaPgS
import Derived.Test.YtdnmddfnlkaahaaPack
import Derived.Test.YtdnmddfnlkaahaaAhead
namespace Go.Proofs.Ytdnmddfnlkaahaa
open Go Go.RowKit
attribute [local irreducible] Go.wpQuiet

theorem run_boxBig {P : Program} (t : TypeId) (cs : List Value) (w : World) : (Instr.box t (.agg cs.toArray)).run P w = .ok (.pointer (some ⟨w.heap.size, 0, none⟩)) (w.alloc (.cells cs.toArray t)) := by
  simp [Instr.box, newVar, newRow, Value.cells]
theorem Gives.boxBig {P : Program} {t : TypeId} {o : Oper} {a : Act} {w : World} {S : Value → World → Prop} (x : Operand) (ho : o.op = .box t x) (cs : List Value) (hx : a.eval x = .agg cs.toArray)
    (h : S (.pointer (some ⟨w.heap.size, 0, none⟩)) (w.alloc (.cells cs.toArray t))) : Gives P o a w S := by
  refine Gives.value (v := .pointer (some ⟨w.heap.size, 0, none⟩)) (w' := w.alloc (.cells cs.toArray t)) ?_ h
  unfold execOp
  simp only [ho, hx, Sem.run_bind, run_boxBig, Result.andThen_ok]
  rfl
/-- a part of a slice -/
theorem exec_cut {P : Program} {t e : TypeId} {z : Value} {bytes : Nat} (E : ElemOk P t e z bytes) {o : Oper} {a : Act} (x lo hi : Operand) (ho : o.op = .slice t x (some lo) (some hi) none) {ao : Option Addr} {n cap : Nat} (hx : a.eval x = .slice ao n cap) (l h : Int) (hlo : a.eval lo = .int .i64 l) (hhi : a.eval hi = .int .i64 h) (h0 : 0 ≤ l) (h1 : l ≤ h) (h2 : h ≤ cap) (w : World) :
    (execOp a.eval o).run P w = .ok (.value (sliced ao l.toNat h.toNat cap 1)) w := by
  obtain ⟨i, hi2, hz, hs1, hb⟩ := E.hi
  have he : P.elem t = e := by simp [Program.elem, E.ht]
  have ht : P.underlying t = some (.slice (P.elem t)) := by rw [he]; exact E.ht
  have hs : (sizeOf (P.elem t)).run P w = .ok 1 w := by simp [he, sizeOf, typeInfo, hi2, hs1]
  unfold execOp
  simp only [ho, hx, hlo, hhi, Option.map_some, Option.map_none, Sem.run_bind, run_sliceAt_slice w t _ _ _ _ ht, run_slice_lh w t ao n cap ht .i64 .i64 l h h0 h1 h2, hs, Result.andThen_ok]
  rfl
/-- the sectors laid so far -/
def Pg.outs (p : Pg) (j : Nat) : List UInt8 := ((List.range j).map p.sec).flatten
theorem Pg.outs_succ (p : Pg) (j : Nat) : p.outs (j + 1) = p.outs j ++ p.sec j := by
  unfold Pg.outs
  rw [List.range_succ, List.map_append, List.flatten_append]
  simp
theorem Pg.outs_four (p : Pg) (h : p.mark ≠ 0) : p.outs 4 = p.enc := by
  unfold Pg.enc
  rw [if_neg h]
  simp [Pg.outs, List.range_succ]
theorem Pg.outs_len {p : Pg} (h : p.Ok) : ∀ j, j ≤ 4 → (p.outs j).length = j * 64
  | 0, _ => rfl
  | j + 1, hj => by rw [Pg.outs_succ, List.length_append, Pg.outs_len h j (by omega), h.sec (by omega)]; omega
/-- the head and the slots so far -/
def Pg.upto (p : Pg) (j : Nat) : List UInt8 := (Pk.be p.tenant.toNat 2 ++ Pk.be p.number.toNat 2) ++ (p.slots.take j).flatten
theorem Pg.upto_succ {p : Pg} (h : p.Ok) (j : Nat) (hj : j < 5) : p.upto (j + 1) = p.upto j ++ p.raw j := by
  unfold Pg.upto
  rw [List.take_succ_eq_append_getElem (by rw [h.n]; exact hj), List.flatten_append, Pg.raw_get (by rw [h.n]; exact hj)]
  simp
theorem Pg.upto_len {p : Pg} (h : p.Ok) (j : Nat) (hj : j ≤ 5) : (p.upto j).length = 4 + j * 40 := by
  unfold Pg.upto
  rw [List.length_append, List.length_append, Pk.be_length, Pk.be_length, flatten_len 40 _ (fun x hx => h.k x (List.mem_of_mem_take hx)), List.length_take, h.n, Nat.min_eq_left hj]
theorem Pg.upto_all {p : Pg} (h : p.Ok) : p.upto 5 ++ List.replicate 20 0 = p.body := by
  unfold Pg.upto Pg.body
  rw [List.take_of_length_le (by rw [h.n]; exact Nat.le_refl _)]
  rfl
theorem Own.belowAt {w w' : World} {base : Nat} {e : TypeId} {v : Value} {xs : List Value} (h : Own w base e v xs) (hg : w.grownBy w' v.ownBlock) (hs : base ≤ w.heap.size) : Below base w w' := h.below hg (Nat.le_refl _) hs
theorem PgAt.below {w w' : World} {g : Nat} {p : Pg} {n : Nat} (h : PgAt w g p) (k : Below n w w') (hg : g < n) : PgAt w' g p := h.at (k.block g hg)
theorem u64_of (n : Int) (h : 0 ≤ n ∧ n < 65536) : IntKind.u64.wrap n = (n.toNat : Int) := by
  have e : IntKind.u64.wrap n = n % 18446744073709551616 := rfl
  omega
set_option maxRecDepth 100000 in
set_option maxHeartbeats 4000000 in
theorem pencode_any (p : Pg) (hp : p.Ok) (ht : 0 ≤ p.tenant ∧ p.tenant < 65536) (hn : 0 ≤ p.number ∧ p.number < 65536) (w : World) : Calls Try.prog 20 #[p.val] w fun e w' => ∃ v, e = .returned v ∧ Own w' w.heap.size 5 v (p.enc.map B) ∧ Keep w w' := by
  obtain ⟨E, hE⟩ : ∃ E, p.enc = E := ⟨_, rfl⟩
  rw [hE]
  have HE := Lib.hid hE
  clear hE
  unfold Pg.val
  go_enter Try.func20, Try.ntmps20
  go_upto_region 0 with (fail)
  refine wp_region_seq ?_
  refine seqW_gives (by kernel_rfl) ?_
  refine Gives.boxBig _ rfl p.cells rfl ?_
  have hP : PgAt (w.alloc (.cells p.cells.toArray 36)) w.heap.size p := ⟨heap_alloc_new w _, hp⟩
  have k1 := Keep.alloc w (.cells p.cells.toArray 36)
  have hg1 : w.heap.size < (w.alloc (.cells p.cells.toArray 36)).heap.size := by simp
  obtain ⟨w1, hw1⟩ : ∃ w1, w1 = w.alloc (.cells p.cells.toArray 36) := ⟨_, rfl⟩
  obtain ⟨g, hge⟩ : ∃ g, g = w.heap.size := ⟨_, rfl⟩
  rw [← hw1, ← hge] at hP
  rw [← hw1] at k1 hg1
  rw [← hge] at hg1
  rw [← hw1, ← hge]
  have hwg : w.heap.size ≤ g := Nat.le_of_eq hge.symm
  have HG := Lib.hid hge
  clear hw1 hge
  simp only [Act.put, List.setIfInBounds_toArray, List.set_cons_zero, List.set_cons_succ]
  refine seqW_pure rfl ?_
  go_big_quiet_step (fail)
  refine seqW_on ?_
  refine seqW_done ?_
  obtain ⟨c0, c1, c2⟩ := hP.heads
  have hmk := hp.m
  by_cases hm : p.mark = 0
  · have e : E = zB 256 := HE.out.symm.trans (by unfold Pg.enc; rw [if_pos hm])
    subst e
    rw [hm] at c0
    go_upto_region 2 with (fail)
    refine wp_region_seq ?_
    refine seqW_gives (by kernel_rfl) ?_
    refine Gives.makeB elemB _ _ 256 rfl rfl rfl (by decide) ?_
    have hO := Own.made w1 5 w.heap.size 256 k1.size (by decide)
    have k2 := k1.trans' (Keep.alloc w1 (.cells ((zB 256).map B).toArray 5))
    generalize w1.alloc (.cells ((zB 256).map B).toArray 5) = w2 at *
    generalize w1.heap.size = g2 at *
    simp only [Act.put, List.setIfInBounds_toArray, List.set_cons_zero, List.set_cons_succ]
    refine seqW_pure rfl ?_
    go_big_quiet_step (fail)
    refine seqW_on ?_
    refine seqW_done ?_
    clear c0 c1 c2
    go_wp2
    go_ret
    exact ⟨_, rfl, hO, k2⟩
  have hmz : ((p.mark : Int) == 0) = false := by rw [beq_eq_false_iff_ne]; omega
  have e : p.outs 4 = E := (Pg.outs_four p hm).trans HE.out
  have HE4 := Lib.hid e
  clear HE e hm
  have hut := u64_of p.tenant ht
  have hun := u64_of p.number hn
  go_upto_region 3 with (fail)
  refine wp_region_ord' [none, some (oV (.int .i64 p.tenant)), none, some (oB (Pk.be p.tenant.toNat 2)), none, some (oV (.int .i64 p.number)), none, some (oOwn w1.heap.size 5 ((Pk.be p.tenant.toNat 2 ++ Pk.be p.number.toNat 2).map B)), none]
    #[0, 0, 0, 0, 0, 0, 0, 0, 0] (w1.heap.size) (fun w' => Keep w1 w') (by kernel_rfl) (by kernel_rfl) (by kernel_rfl) ((Keep.refl w1).drew) ?_
  refine ordT_pure rfl ?_
  go_big_quiet_step (fail)
  refine ordT_on ?_
  refine ordT_same (by kernel_rfl) (fun w2 hC => ?_) ?_
  · have zz := hC.cellk c1
    go_simp
  simp only [Act.put, List.setIfInBounds_toArray, List.set_cons_zero, List.set_cons_succ]
  refine ordT_pure rfl ?_
  go_big_quiet_step (fail)
  refine ordT_on ?_
  refine ordT_call (by kernel_rfl) keepK (fun w2 own hC hF => ?_) ?_
  · refine ⟨_, _, by first | (go_simp; done) | (go_simp; rfl), (put_at _ [] 2 p.tenant.toNat _ _ w2 rfl hut (SlB.nil w2) (by omega) (by omega) (by decide)).mono ?_⟩
    rintro e w' ⟨v, rfl, hO, hk⟩
    exact ⟨v, rfl, hk, fun S hS => ⟨hO.sl, fun _ => Own.inOf hO fun g hg => hS g (.inr (World.ownsRow.lt hO g hg).1)⟩⟩
  rintro x3 wx3 ownx3 hCx3 hx3
  obtain ⟨ax3, nx3, cx3, rfl⟩ := Sl.shape hx3.1
  simp only [Act.put, List.setIfInBounds_toArray, List.set_cons_zero, List.set_cons_succ]
  refine ordT_pure rfl ?_
  go_big_quiet_step (fail)
  refine ordT_on ?_
  refine ordT_same (by kernel_rfl) (fun w2 hC => ?_) ?_
  · have zz := hC.cellk c2
    go_simp
  simp only [Act.put, List.setIfInBounds_toArray, List.set_cons_zero, List.set_cons_succ]
  refine ordT_pure rfl ?_
  go_big_quiet_step (fail)
  refine ordT_on ?_
  refine ordT_call (by kernel_rfl) keepK (fun w2 own hC hF => ?_) ?_
  · have h1 := ((((hF 3 rfl).2 rfl).1 rfl)).1
    refine ⟨_, _, by first | (go_simp; done) | (go_simp; rfl), (put_at _ _ 2 p.number.toNat _ _ w2 rfl hun h1 (by omega) (by omega) (by rw [Pk.be_length]; decide)).mono ?_⟩
    rintro e w' ⟨v, rfl, hO, hk⟩
    exact ⟨v, rfl, hk, fun S hS => ⟨hO.mono hC.size, Own.inOf hO fun g hg => hS g (.inr (World.ownsRow.lt hO g hg).1)⟩⟩
  rintro x7 wx7 ownx7 hCx7 hx7
  obtain ⟨ax7, nx7, cx7, rfl⟩ := Sl.shape hx7.1.sl
  simp only [Act.put, List.setIfInBounds_toArray, List.set_cons_zero, List.set_cons_succ]
  refine ordT_pure rfl ?_
  go_big_quiet_step (fail)
  refine ordT_on ?_
  refine ordT_done fun w3 own hC3 hF => ?_
  have h3 := (((hF 7).1 rfl)).1
  clear hF hx3 hx7
  have hP3 := hP.keep hC3
  have hO3 : Own w3 w1.heap.size 5 (.slice ax7 nx7 cx7) ((p.upto 0).map B) := by
    unfold Pg.upto
    simpa using h3
  have hB3 : Below w1.heap.size w1 w3 := hC3
  have hs3 : w1.heap.size ≤ w3.heap.size := hC3.size
  clear h3 hut hun
  generalize hvv : Value.slice ax7 nx7 cx7 = vv at *
  clear hvv
  go_wp2_with fail
  go_loopw [3, 19] (fun v z wr => ∃ j : Nat, j ≤ 5 ∧ z = .int .i64 j ∧ Own wr w1.heap.size 5 v ((p.upto j).map B) ∧ PgAt wr g p ∧ Below w1.heap.size w1 wr ∧ w1.heap.size ≤ wr.heap.size) (fun _ z _ => 5 - (intOf z).toNat)
  case atStart => exact ⟨0, by decide, rfl, hO3, hP3, hB3, hs3⟩
  case round =>
    obtain ⟨j, hj, rfl, hO, hPr, hB, hsz⟩ := hrel
    clear hO3 hP3 hB3 hs3
    by_cases hj5 : j < 5
    rotate_left
    · have hjd : ¬ ((j : Int) < 5) := by omega
      have ej : j = 5 := by omega
      subst ej
      have hul := Pg.upto_len hp 5 (by decide)
      have hO' := hO
      obtain ⟨ao, na, ca, hva⟩ := hO.slB.shape
      subst hva
      have hna : na = 204 := by
        obtain ⟨_, _, hv, _⟩ := hO.slB.form
        simp only [Value.slice.injEq] at hv
        omega
      subst hna
      have hUA := Lib.hid (Pg.upto_all hp)
      go_upto_region 9 with (fail)
      refine wp_region_seq ?_
      refine seqW_pure rfl ?_
      go_big_quiet_step (fail)
      refine seqW_on ?_
      refine seqW_pure rfl ?_
      go_big_quiet_step (fail)
      refine seqW_on ?_
      refine seqW_gives (by kernel_rfl) ?_
      refine Gives.value (v := .int .i64 204) (w' := wr) (by go_simp) ?_
      simp only [Act.put, List.setIfInBounds_toArray, List.set_cons_zero, List.set_cons_succ]
      refine seqW_pure rfl ?_
      go_big_quiet_step (fail)
      refine seqW_on ?_
      refine seqW_gives (by kernel_rfl) ?_
      refine Gives.appendZeros elemB Try.underlying3 _ _ rfl 20 rfl rfl rfl hO (by rw [hul]; decide) (by rw [hul]; decide) hsz fun v4 w4 hO4 hg4 => ?_
      rw [hUA.out] at hO4
      have hB4 := hO.belowAt hg4 hsz
      have hP4 := hPr.below hB4 hg1
      have hB5 := hB.trans hB4
      have hs4 : w1.heap.size ≤ w4.heap.size := Nat.le_trans hsz hg4.size
      clear hO hPr hB hg4 hB4 hO' hul hUA
      obtain ⟨ab, nb, cb, hvb⟩ := hO4.slB.shape
      subst hvb
      have hbl := hp.body
      have hnb : nb = 224 := by
        obtain ⟨_, _, hv, _⟩ := hO4.slB.form
        simp only [Value.slice.injEq] at hv
        omega
      subst hnb
      have hb4 := hO4.slB
      have hk4 : Keep w w4 := k1.trans (hB5.mono (Nat.le_trans hwg (Nat.le_of_lt hg1)))
      clear hO4 hB5
      simp only [Act.put, List.setIfInBounds_toArray, List.set_cons_zero, List.set_cons_succ]
      refine seqW_pure rfl ?_
      go_big_quiet_step (fail)
      refine seqW_on ?_
      refine seqW_done ?_
      go_wp2_with fail
      go_loopw [5, 34] (fun v z wr => ∃ j : Nat, j ≤ 4 ∧ z = .int .i64 j ∧ Own wr w.heap.size 5 v ((p.outs j).map B) ∧ Keep w4 wr) (fun _ z _ => 4 - (intOf z).toNat)
      case atStart => exact ⟨0, by decide, rfl, Own.nil _ _ _, Keep.refl _⟩
      case round =>
        obtain ⟨j, hj, rfl, hO, hk⟩ := hrel
        by_cases hj4 : j < 4
        rotate_left
        · have hjd : ¬ ((j : Int) < 4) := by omega
          have ej : j = 4 := by omega
          subst ej
          rw [HE4.out] at hO
          have kz := hk4.trans' hk
          clear hb4 hP4 c0 c1 c2
          go_wp2
          go_ret
          exact ⟨_, rfl, hO, kz⟩
        have hjd : (j : Int) < 4 := by omega
        have hP5 := hP4.keep hk
        obtain ⟨d0, -, -⟩ := hP5.heads
        have hb5 : SlB wr (.slice ab 224 cb) p.body := hb4.keep hk
        have hsec : p.sec j = Pk.be p.mark 8 ++ (p.body.drop (j * 56)).take 56 := rfl
        have hos := Pg.outs_succ p j
        have HOS := Lib.hid hos
        have hol := Pg.outs_len hp j (by omega)
        have hcut := hb5.cut (j * 56) ((j + 1) * 56) (by omega) (by omega)
        have hc56 : (j + 1) * 56 - j * 56 = 56 := by omega
        have hcb : 224 ≤ cb := by
          obtain ⟨_, _, hv, _, hc, _⟩ := hb5.form
          simp only [Value.slice.injEq] at hv
          omega
        have i1 : (j : Int) * 56 ≤ ((j : Int) + 1) * 56 := by omega
        have i2 : ((j : Int) + 1) * 56 ≤ (cb : Int) := by omega
        have i3 : (0 : Int) ≤ (j : Int) * 56 := by omega
        rw [hc56] at hcut
        have hcl : ((p.body.drop (j * 56)).take 56).length = 56 := by rw [List.length_take, List.length_drop, hbl]; omega
        have hO1 := hO.slB
        obtain ⟨oa, on, oc, hvo⟩ := hO1.shape
        subst hvo
        have hbase : w.heap.size ≤ wr.heap.size := (hk4.trans' hk).size
        clear hos hP5 hb5
        go_upto_region 14 with (fail)
        refine wp_region_ord' [none, none, some (oV (.int .u64 p.mark)), some (oOwn wr.heap.size 5 ((p.outs j ++ Pk.be p.mark 8).map B)), none, none, none, none, none, none, some (oV (Go.sliced ab (j * 56) ((j + 1) * 56) cb 1)), some (oOwn (wr.heap.size) 5 (((p.outs j ++ Pk.be p.mark 8) ++ ((p.body.drop (j * 56)).take 56)).map B)), none]
          #[0, 0, 0, 0, 0, 0, 0, 0, 0, 0, 0, 8, 0] (wr.heap.size) (fun w' => Keep wr w') (by kernel_rfl) (by kernel_rfl) (by kernel_rfl) ((Keep.refl wr).drew) ?_
        refine ordT_pure rfl ?_
        go_big_quiet_step (fail)
        refine ordT_on ?_
        refine ordT_pure rfl ?_
        go_big_quiet_step (fail)
        refine ordT_on ?_
        refine ordT_same (by kernel_rfl) (fun w2 hC => ?_) ?_
        · have zz := hC.cellk d0
          go_simp
        simp only [Act.put, List.setIfInBounds_toArray, List.set_cons_zero, List.set_cons_succ]
        refine ordT_call (by kernel_rfl) keepK (fun w2 own hC hF => ?_) ?_
        · refine ⟨_, _, by first | (go_simp; done) | (go_simp; rfl), (put_at _ (p.outs j) 8 p.mark _ _ w2 rfl rfl (hO1.keep hC) (by omega) hmk (by rw [hol]; omega)).mono ?_⟩
          rintro e w' ⟨v, rfl, hO, hk⟩
          exact ⟨v, rfl, hk, fun S hS => ⟨hO.mono hC.size, Own.inOf hO fun g hg => hS g (.inr (World.ownsRow.lt hO g hg).1)⟩⟩
        rintro x3 wx3 ownx3 hCx3 hx3
        obtain ⟨ax3, nx3, cx3, rfl⟩ := Sl.shape hx3.1.sl
        simp only [Act.put, List.setIfInBounds_toArray, List.set_cons_zero, List.set_cons_succ]
        refine ordT_pure rfl ?_
        go_big_quiet_step (fail)
        refine ordT_on ?_
        refine ordT_pure rfl ?_
        go_big_quiet_step (fail)
        refine ordT_on ?_
        refine ordT_pure rfl ?_
        go_big_quiet_step (fail)
        refine ordT_on ?_
        refine ordT_pure rfl ?_
        go_big_quiet_step (fail)
        refine ordT_on ?_
        refine ordT_pure rfl ?_
        go_big_quiet_step (fail)
        refine ordT_on ?_
        refine ordT_pure rfl ?_
        go_big_quiet_step (fail)
        refine ordT_on ?_
        refine ordT_same (by kernel_rfl) (fun w2 hC => ?_) ?_
        · refine (exec_cut elemB _ _ _ rfl rfl ((j : Int) * 56) (((j : Int) + 1) * 56) rfl rfl i3 i1 i2 w2).trans ?_
          rw [show ((j : Int) * 56).toNat = j * 56 by omega, show (((j : Int) + 1) * 56).toNat = (j + 1) * 56 by omega]
        simp only [Act.put, List.setIfInBounds_toArray, List.set_cons_zero, List.set_cons_succ]
        refine ordT_told (by kernel_rfl) (told_appendB elemB _ _ rfl (p.outs j ++ Pk.be p.mark 8) ((p.body.drop (j * 56)).take 56) keepG (by rw [List.length_append, hol, Pk.be_length, hcl]; omega) fun w2 own hC hF => ?_) ?_
        · have h2 := (((hF 3 rfl).2 rfl).1 rfl)
          have h1 := hcut.keep hC
          exact ⟨⟨h2.1, con_own h2.1 h2.2 rfl⟩, h1⟩
        rintro x11 wx11 ownx11 - hx11
        obtain ⟨ax11, nx11, cx11, rfl⟩ := Sl.shape hx11.1.sl
        simp only [Act.put, List.setIfInBounds_toArray, List.set_cons_zero, List.set_cons_succ]
        refine ordT_pure rfl ?_
        go_big_quiet_step (fail)
        refine ordT_on ?_
        refine ordT_done fun w6 own hC6 hF => ?_
        have h6 := (((hF 11).1 rfl)).1
        clear hF hx3 hx11
        have hO6 : Own w6 w.heap.size 5 (.slice ax11 nx11 cx11) ((p.outs (j + 1)).map B) := by
          rw [HOS.out, hsec, ← List.append_assoc]
          exact h6.mono hbase
        have hk6 := hk.trans' hC6
        clear h6 hO1 hO hcut hC6
        go_wp2
        go_roundw
        case rel => exact ⟨j + 1, by omega, by go_num, hO6, hk6⟩
        case measure => simp [intOf]; omega
    have hjd : (j : Int) < 5 := by omega
    have hsl := hPr.slice j hj5
    have hup := Pg.upto_succ hp j hj5
    have hul := Pg.upto_len hp j (by omega)
    have hrl := hp.raw hj5
    have HUP := Lib.hid hup
    clear hup
    go_upto_region 7 with (fail)
    refine wp_region_seq ?_
    refine seqW_pure rfl ?_
    go_big_quiet_step (fail)
    refine seqW_on ?_
    refine seqW_pure rfl ?_
    go_big_quiet_step (fail)
    refine seqW_on ?_
    refine seqW_pure rfl ?_
    go_big_quiet_step (fail)
    refine seqW_on ?_
    refine seqW_pure rfl ?_
    go_big_quiet_step (fail)
    refine seqW_on ?_
    refine seqW_pure rfl ?_
    go_big_quiet_step (fail)
    refine seqW_on ?_
    refine seqW_gives (by kernel_rfl) ?_
    refine Gives.appendB elemB _ _ rfl rfl rfl hO hsl (by rw [hul, hrl]; omega) hsz fun v4 w4 hO4 hg4 => ?_
    rw [← HUP.out] at hO4
    have hB4 := hO.belowAt hg4 hsz
    have hP4 := hPr.below hB4 hg1
    have hB5 := hB.trans hB4
    have hs4 : w1.heap.size ≤ w4.heap.size := Nat.le_trans hsz hg4.size
    clear hO hsl hPr hB hg4 hB4
    simp only [Act.put, List.setIfInBounds_toArray, List.set_cons_zero, List.set_cons_succ]
    refine seqW_pure rfl ?_
    go_big_quiet_step (fail)
    refine seqW_on ?_
    refine seqW_done ?_
    go_wp2
    go_roundw
    case rel => exact ⟨j + 1, by omega, by go_num, hO4, hP4, hB5, hs4⟩
    case measure => simp [intOf]; omega
end Go.Proofs.Ytdnmddfnlkaahaa
