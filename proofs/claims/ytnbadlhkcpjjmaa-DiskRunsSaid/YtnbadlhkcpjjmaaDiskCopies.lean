/- The walk of DiskCopies. -/
import Derived.Test.YtnbadlhkcpjjmaaDiskAll
namespace Go.Proofs.Ytnbadlhkcpjjmaa
open Go Go.RowKit
attribute [local irreducible] Go.wpQuiet

theorem Dx.touch {W w w' : World} {X : Nat → Prop} {l : List (Nat × Dk)} (h : Dx W X w l) (hB : ButS w w' X) (hX : ∀ b, X b → W.heap.size ≤ b) : Dx W X w' l := by
  obtain ⟨h0, hx, S, h1, h2, h3⟩ := h
  exact ⟨h0.trans (hB.below W.heap.size h0.size hX), fun b hb => Nat.lt_of_lt_of_le (hx b hb) hB.size, S, fun i hi => (h1 i hi).but hB fun b hb => (h2 i b hi hb).2, h2, h3⟩
theorem one_write (K : Nat) (hK : K < 8) (b : List UInt8) (hb : b.length ≤ 64) : OneI ((newD 1 8).wrD 0 K b) [(K, pad b)] (newD 1 8).data := by
  have h := oneI_new.write (K : Int) b
  have e : valid (K : Int) b = [(K, pad b)] := if_pos ⟨by omega, by omega, hb⟩
  rw [e] at h
  exact h
theorem one_there {d : Dk} {ws : List (Nat × List UInt8)} {dat : List (List UInt8)} (h : OneI d ws dat) (K : Nat) (hK : K < 8) : d.there 0 K = true := (d.there_iff 0 K).2 ⟨by decide, by rw [h.r]; simp, by omega, by rw [h.s]; omega⟩
theorem one_read1 {d : Dk} {dat : List (List UInt8)} {x : List UInt8} {K : Nat} (hK : K < 8) (h : OneI d [(K, x)] dat) : d.readI 0 K = x := by
  unfold Dk.readI
  rw [if_pos (one_there h K hK)]
  unfold Dk.read
  rw [show (d.regs[(0 : Int).toNat]?.getD emptyRg).waits = [(K, x)] from by rw [h.r]; rfl]
  simp [lastW]
theorem one_read2 {d : Dk} {x : List UInt8} {Z : List (List UInt8)} {K : Nat} (hK : K < 8) (hl : Z.length = 8) (h : OneI d [(K, x)] Z) : (d.barD 0).readI 0 K = x := by
  rw [h.bar.read K hK]
  show (Z.set K x).getD K [] = x
  rw [List.getD_eq_getElem?_getD, List.getElem?_set_self (by omega)]
  rfl
theorem and_7 (n : Int) : ∃ k : Nat, k < 8 ∧ Go.bits .and .i64 n 7 = (k : Int) := by
  have e : Go.bits .and .i64 n 7 = IntKind.i64.wrap ((((BitVec.ofInt 64 n) &&& (BitVec.ofInt 64 ((7 : Nat) : Int))).toNat : Nat) : Int) := rfl
  refine ⟨(BitVec.ofInt 64 n).toNat % 8, Nat.mod_lt _ (by decide), ?_⟩
  rw [e, BitVec.ofInt_natCast, BitVec.toNat_and, BitVec.toNat_ofNat, Nat.mod_eq_of_lt (show 7 < 2 ^ 64 by decide), show (7 : Nat) = 2 ^ 3 - 1 from rfl, Nat.and_two_pow_sub_one_eq_mod]
  have := Nat.mod_lt (BitVec.ofInt 64 n).toNat (show 0 < 2 ^ 3 by decide)
  rw [IntKind.wrap_i64]
  omega
theorem strV_add (a b : List UInt8) : (⟨a.toArray⟩ : ByteArray) ++ ⟨b.toArray⟩ = ⟨(a ++ b).toArray⟩ := by
  apply ByteArray.ext
  simp
theorem SlB.upTo {w : World} {a : Option Addr} {n c : Nat} {l : List UInt8} (h : SlB w (.slice a n c) l) (m : Nat) (hm : m ≤ l.length) : SlB w (.slice a m c) (l.take m) := by
  obtain ⟨ao, cap, hv, hx, hcap, hc⟩ := h
  simp only [Value.slice.injEq] at hv
  obtain ⟨rfl, rfl, rfl⟩ := hv
  rw [List.length_map] at hx hcap
  refine ⟨a, c, by rw [List.length_map, List.length_take, Nat.min_eq_left hm], by rw [List.length_map, List.length_take]; omega, ⟨by rw [List.length_map, List.length_take]; omega, hcap.2⟩, fun i hi => ?_⟩
  rw [List.length_map, List.length_take] at hi
  obtain ⟨b, off, ha, hcell⟩ := hc i (by rw [List.length_map]; omega)
  refine ⟨b, off, ha, ?_⟩
  rw [hcell]
  simp
/-- one more, as bytes have it -/
theorem up_byte (x : UInt8) : ∃ y : UInt8, Value.int .u8 (IntKind.u8.wrap ((x.toNat : Int) + 1)) = B y := ⟨UInt8.ofNat (x.toNat + 1), by
  unfold B
  congr 1⟩
set_option maxRecDepth 100000 in
set_option maxHeartbeats 8000000 in
theorem diskCopies_any (v : Value) (b : List UInt8) (s : Int) (w : World) (hb : SlB w v b) : Calls Try.prog 6 #[v, .int .i64 s] w fun e w' => e = .returned (.bool true) ∧ Keep w w' := by
  obtain ⟨ba, bc, rfl, hmx, hcp, -⟩ := hb.form
  unfold maxLen at hmx
  go_enter Try.func6, Try.ntmps6
  go_wp2_with fail
  refine (fit_any _).mono ?_
  rintro e w1 ⟨rfl, k1⟩
  obtain ⟨K, hK, eK⟩ := and_7 s
  by_cases hl : 64 < b.length
  · have tl : (64 : Int) < (b.length : Int) := by omega
    go_upto_region 6 with (fail)
    obtain ⟨bb, hbl, hbb⟩ : ∃ bb : List UInt8, bb.length = 64 ∧ SlB w (.slice ba 64 bc) bb := ⟨b.take 64, by rw [List.length_take]; omega, hb.upTo 64 (by omega)⟩
    have HBL := Lib.hid hbl
    have hbu : bb.length ≤ 64 := by omega
    clear hbl hl hb
    go_wp2_with fail
    refine (new_ds (Ds.nil (Keep.refl w1)) 1 8 (by decide) (by decide) (by decide) (by decide)).mono ?_
    rintro e w2 ⟨p, rfl, h2, k2⟩
    have h2 : Ds w1 w2 [(p, newD 1 8)] := h2
    have k12 := k1.trans' k2
    have sm := newD_small 1 8
    have i3 := one_write K hK bb (by omega)
    have hZl : (newD 1 8).data.length = 8 := rfl
    generalize (newD 1 8).data = Z at i3 hZl
    generalize newD 1 8 = d2 at h2 sm i3
    go_upto_region 7 with (fail)
    refine wp_region_seq ?_
    refine seqW_pure rfl ?_
    go_big_quiet_step (fail)
    refine seqW_on ?_
    refine seqW_gives (by kernel_rfl) ?_
    refine Gives.appendB (l := []) (v := .slice none 0 0) elemB _ _ rfl rfl rfl (Own.nil w2 w2.heap.size _) (hbb.keep k12) (by simp; omega) (Nat.le_refl _) fun vm w3 hO3 hg3 => ?_
    rw [List.nil_append] at hO3
    have k23 : Keep w2 w3 := ⟨hg3.os, hg3.tape, hg3.output, hg3.size, fun bb hbb => hg3.block bb hbb (fun e => by cases e)⟩
    have h3 := h2.dx.more k23 (fun b' => vm.ownBlock = some b') (fun b' hb' => .inr (World.ownsRow.lt hO3 b' hb'))
    have hm3 := hO3.slB
    obtain ⟨ma, mc, rfl, -, -, -⟩ := hm3.form
    simp only [Act.put, List.setIfInBounds_toArray, List.set_cons_zero, List.set_cons_succ]
    refine seqW_pure rfl ?_
    go_big_quiet_step (fail)
    refine seqW_on ?_
    refine seqW_done ?_
    go_wp2_with fail
    refine (write_dx h3 0 (by simp) p _ rfl 0 K _ bb hm3 (sm.room (by decide))).mono ?_
    rintro ee w4 ⟨rfl, h4, hX4⟩
    have h4 : Dx w1 (fun b' => (Value.slice ma bb.length mc).ownBlock = some b') w4 [(p, d2.wrD 0 K bb)] := h4
    have hO4 := hO3.there (fun g e _ => hX4 g e)
    generalize d2.wrD 0 K bb = d at *
    generalize d2.wrE 0 K bb = E4 at *
    have hw12 := k2.size
    clear h2 h3 hO3 hg3 k23 hm3 hX4 k2
    go_wp2_with fail
    go_loopw [33] (fun i wr => ∃ (j : Nat) (m : List UInt8), j ≤ bb.length ∧ i = .int .i64 j ∧ m.length = bb.length ∧ Own wr w2.heap.size 5 (.slice ma bb.length mc) (m.map B) ∧ Dx w1 (fun b' => (Value.slice ma bb.length mc).ownBlock = some b') wr [(p, d)]) (fun i _ => bb.length - (intOf i).toNat)
    case atStart => exact ⟨0, bb, Nat.zero_le _, rfl, rfl, hO4, h4⟩
    case round =>
      obtain ⟨j, m, hj, rfl, hml, hO, hd⟩ := hrel
      clear hO4 h4
      by_cases hjn : j < bb.length
      rotate_left
      · have hjd : ¬ ((j : Int) < (bb.length : Int)) := by omega
        clear hjn hO hml
        have hd := hd.base
        have q1 := one_read1 hK i3
        have q2 := one_read2 hK hZl i3
        have t1 := one_there i3 K hK
        have t2 := one_there i3.bar K hK
        go_wp2_with fail
        refine (read_dx hd 0 (by simp) p _ rfl 0 K).mono ?_
        rintro ee w6 ⟨v6, rfl, hO6, kk6⟩
        rw [t1]
        rw [q1] at hO6
        have hb6 := hO6.slB
        have hl6 : (pad bb).length = 64 := pad_length bb hbu
        have h6 := hd.more kk6 (fun b' => v6.ownBlock = some b') (fun b' hb' => .inr (World.ownsRow.lt hO6 b' hb'))
        have hws := hd.k.size
        obtain ⟨a6, c6, rfl, -, -, -⟩ := hb6.form
        have HL6 := Lib.hid hl6
        rw [hl6] at hO6 hb6 h6 ⊢
        clear hl6
        go_upto_region 15 with (fail)
        refine wp_region_ch 9 [none, none, none, none, none, some none, some none, none, none] (fun w' => SlB w' (.slice ba 64 bc) bb) (by kernel_rfl) (by kernel_rfl) (by kernel_rfl) (by kernel_rfl) (hbb.keep (k1.trans' h6.k)) ?_
        refine chT_pure rfl ?_
        go_big_quiet_step (fail)
        refine chT_on ?_
        refine chT_same (v := strV bb) (by kernel_rfl) (fun w2 hC => exec_str Try.underlying27 Try.underlying5 Try.underlying9 (v := .slice ba 64 bc) _ rfl rfl w2 hC) ?_
        simp only [Act.put, List.setIfInBounds_toArray, List.set_cons_zero, List.set_cons_succ]
        simp only [strV]
        refine chT_pure rfl ?_
        go_big_quiet_step (fail)
        refine chT_on ?_
        refine chT_pure rfl ?_
        go_big_quiet_step (fail)
        refine chT_on ?_
        refine chT_pure rfl ?_
        go_big_quiet_step (fail)
        refine chT_on ?_
        have h6 := h6.keep (w' := w6.drew) (Keep.refl w6).drew
        have hO6 := hO6.there (w' := w6.drew) (fun _ _ _ => rfl)
        refine chT_gives (by kernel_rfl) ?_
        refine Gives.makeB elemB _ _ 0 rfl rfl rfl (by omega) ?_
        have hz := (Own.made w6.drew 5 0 0 (Nat.zero_le _) (by omega)).slB
        have k7 := Keep.alloc w6.drew (.cells ((zB 0).map B).toArray 5)
        have h7 := h6.keep k7
        have hO7 := hO6.keep k7
        have hb7 := hbb.keep (k1.trans' h7.k)
        clear h6 hO6 hb6 k7
        generalize w6.drew.alloc (.cells ((zB 0).map B).toArray 5) = w7 at *
        refine ⟨hb7, ?_⟩
        simp only [Act.put, List.setIfInBounds_toArray, List.set_cons_zero, List.set_cons_succ]
        refine chT_gives (by kernel_rfl) ?_
        refine Gives.toStr Try.underlying27 Try.underlying5 Try.underlying9 _ rfl rfl hz ?_
        refine ⟨hb7, ?_⟩
        simp only [strV]
        simp only [Act.put, List.setIfInBounds_toArray, List.set_cons_zero, List.set_cons_succ]
        have sz1 : ((⟨bb.toArray⟩ : ByteArray).size : Int) ≤ 8388608 := by rw [size_str]; omega
        have sz2 : ((⟨(zB 0).toArray⟩ : ByteArray).size : Int) ≤ 8388608 := by rw [size_str, zB_length]; omega
        refine chT_pure rfl ?_
        go_big_quiet_step (fail)
        refine chT_on ?_
        have hpad : (⟨bb.toArray⟩ : ByteArray) ++ ⟨(zB 0).toArray⟩ = ⟨(pad bb).toArray⟩ := (strV_add bb _).trans (by unfold pad; rw [HBL.out]; rfl)
        rw [hpad]
        clear hpad hz hb7
        refine chT_pure rfl ?_
        go_big_quiet_step (fail)
        refine chT_on ?_
        refine chT_done ?_
        refine seqW_done ?_
        generalize pad bb = P at *
        clear sz1 sz2
        have hb7 := hO7.slB
        go_upto_region 16 with (fail)
        refine wp_region_seq ?_
        refine seqW_pure rfl ?_
        go_big_quiet_step (fail)
        refine seqW_on ?_
        refine seqW_gives (by kernel_rfl) ?_
        refine Gives.toStr Try.underlying27 Try.underlying5 Try.underlying9 _ rfl rfl hb7 ?_
        simp only [Act.put, List.setIfInBounds_toArray, List.set_cons_zero, List.set_cons_succ]
        try simp only [strV]
        refine seqW_pure rfl ?_
        go_big_quiet_step (fail)
        refine seqW_on ?_
        refine seqW_gives (by kernel_rfl) ?_
        refine Gives.value (v := .bool false) (w' := w7) (by go_simp) ?_
        simp only [Act.put, List.setIfInBounds_toArray, List.set_cons_zero, List.set_cons_succ]
        refine seqW_done ?_
        obtain ⟨g6, cp6, hv6, hge6, hlt6⟩ := hO7.head (by rw [List.length_map, HL6.out]; decide)
        simp only [Value.slice.injEq] at hv6
        obtain ⟨rfl, -, -⟩ := hv6
        have x0 := hO7.cellOf 0 (by rw [List.length_map, HL6.out]; decide)
        rw [List.getElem_map] at x0
        have f0 := hO7.freeOf 0
        obtain ⟨y6, hy0⟩ := up_byte (P[0]'(by rw [HL6.out]; decide))
        have hy : Value.int .u8 (IntKind.u8.wrap (((P[0]'(by rw [HL6.out]; decide)).toNat : Int) + 1)) = .int .u8 (y6.toNat : Int) := hy0
        clear hy0
        unfold B at x0
        generalize P[0]'(by rw [HL6.out]; decide) = e6 at *
        have hB6 := (ButS.refl w7 (fun b' => (Value.slice (some ⟨g6, 0, none⟩) 64 c6).ownBlock = some b')).set ⟨g6, 0, none⟩ (.int .u8 (y6.toNat : Int)) rfl
        have hs6 := (h7.touch hB6 (fun b' e => by cases e; exact Nat.le_trans hws hge6)).base
        clear hB6 hO7 h7
        go_wp2_with fail
        clear x0 f0 hy
        generalize w7.setCell ⟨g6, 0, none⟩ (.int .u8 (y6.toNat : Int)) = w8 at *
        refine (barrier_dx hs6 0 (by simp) p _ rfl 0).mono ?_
        rintro ee w9 ⟨rfl, h9, -⟩
        have h9 : Dx w1 (fun _ => False) w9 [(p, d.barD 0)] := h9
        generalize d.barD 0 = d9 at *
        generalize d.barE 0 = E9 at *
        clear hs6
        go_wp2_with fail
        refine (read_dx h9 0 (by simp) p _ rfl 0 K).mono ?_
        rintro ee w10 ⟨v10, rfl, hO10, kk10⟩
        rw [t2]
        rw [q2] at hO10
        have h10 := h9.more kk10 (fun b' => v10.ownBlock = some b') (fun b' hb' => .inr (World.ownsRow.lt hO10 b' hb'))
        have hws9 := h9.k.size
        obtain ⟨a10, c10, rfl, -, -, -⟩ := hO10.slB.form
        rw [HL6.out] at hO10 h10 ⊢
        clear kk10
        obtain ⟨g10, cp10, hv10, hge10, hlt10⟩ := hO10.head (by rw [List.length_map, HL6.out]; decide)
        simp only [Value.slice.injEq] at hv10
        obtain ⟨rfl, -, -⟩ := hv10
        have x0 := hO10.cellOf 1 (by rw [List.length_map, HL6.out]; decide)
        rw [List.getElem_map] at x0
        have f0 := hO10.freeOf 1
        obtain ⟨y10, hy0⟩ := up_byte (P[1]'(by rw [HL6.out]; decide))
        have hy : Value.int .u8 (IntKind.u8.wrap (((P[1]'(by rw [HL6.out]; decide)).toNat : Int) + 1)) = .int .u8 (y10.toNat : Int) := hy0
        clear hy0
        unfold B at x0
        generalize P[1]'(by rw [HL6.out]; decide) = e10 at *
        have hB10 := (ButS.refl w10 (fun b' => (Value.slice (some ⟨g10, 0, none⟩) 64 c10).ownBlock = some b')).set ⟨g10, 1, none⟩ (.int .u8 (y10.toNat : Int)) rfl
        have hs10 := (h10.touch hB10 (fun b' e => by cases e; exact Nat.le_trans hws9 hge10)).base
        clear hB10 hO10 h10
        go_wp2_with fail
        clear x0 f0 hy
        generalize w10.setCell ⟨g10, 1, none⟩ (.int .u8 (y10.toNat : Int)) = w11 at *
        refine (read_dx hs10 0 (by simp) p _ rfl 0 K).mono ?_
        rintro ee w12 ⟨v12, rfl, hO12, kk12⟩
        rw [t2]
        rw [q2] at hO12
        have kz := k1.trans' (hs10.keep kk12).k
        have hb12 := hO12.slB
        obtain ⟨a12, c12, rfl, -, -, -⟩ := hb12.form
        rw [HL6.out] at hb12 ⊢
        clear kk12 hO12 hs10
        go_upto_region 23 with (fail)
        refine wp_region_seq ?_
        refine seqW_pure rfl ?_
        go_big_quiet_step (fail)
        refine seqW_on ?_
        refine seqW_pure rfl ?_
        go_big_quiet_step (fail)
        refine seqW_on ?_
        refine seqW_pure rfl ?_
        go_big_quiet_step (fail)
        refine seqW_on ?_
        refine seqW_pure rfl ?_
        go_big_quiet_step (fail)
        refine seqW_on ?_
        refine seqW_gives (by kernel_rfl) ?_
        refine Gives.toStr Try.underlying27 Try.underlying5 Try.underlying9 _ rfl rfl hb12 ?_
        simp only [Act.put, List.setIfInBounds_toArray, List.set_cons_zero, List.set_cons_succ]
        try simp only [strV]
        refine seqW_pure rfl ?_
        go_big_quiet_step (fail)
        refine seqW_on ?_
        refine seqW_gives (by kernel_rfl) ?_
        refine Gives.value (v := .bool true) (w' := w12) (by go_simp) ?_
        simp only [Act.put, List.setIfInBounds_toArray, List.set_cons_zero, List.set_cons_succ]
        refine seqW_pure rfl ?_
        go_big_quiet_step (fail)
        refine seqW_on ?_
        refine seqW_pure rfl ?_
        go_big_quiet_step (fail)
        refine seqW_on ?_
        refine seqW_done ?_
        go_wp2
        go_ret
        exact ⟨rfl, kz⟩
      have hjd : (j : Int) < (bb.length : Int) := by omega
      obtain ⟨g, cap, hv, hge, hlt⟩ := hO.head (by rw [List.length_map]; omega)
      simp only [Value.slice.injEq] at hv
      obtain ⟨rfl, -, -⟩ := hv
      have x0 := hO.cellOf j (by rw [List.length_map]; omega)
      rw [List.getElem_map] at x0
      have f0 := hO.freeOf j
      obtain ⟨y, hy0⟩ := up_byte (m[j]'(by omega))
      have hO2 := hO.stored j (B y)
      rw [← List.map_set] at hO2
      have hml2 : (m.set j y).length = bb.length := by rw [List.length_set]; exact hml
      have hB2 := (ButS.refl wr (fun b' => (Value.slice (some ⟨g, 0, none⟩) bb.length mc).ownBlock = some b')).set ⟨g, j, none⟩ (B y) rfl
      have hd2 := hd.touch hB2 (fun b' e => by cases e; exact Nat.le_trans hw12 hge)
      generalize m[j]'(by omega) = x at *
      unfold B at x0
      have hy : Value.int .u8 (IntKind.u8.wrap ((x.toNat : Int) + 1)) = .int .u8 (y.toNat : Int) := hy0
      clear hy0
      generalize m.set j y = m2 at *
      clear hO hd hml hB2
      have hO2 : Own (wr.setCell ⟨g, j, none⟩ (.int .u8 (y.toNat : Int))) w2.heap.size 5 (.slice (some ⟨g, 0, none⟩) bb.length mc) (m2.map B) := hO2
      have hd2 : Dx w1 (fun b' => (Value.slice (some ⟨g, 0, none⟩) bb.length mc).ownBlock = some b') (wr.setCell ⟨g, j, none⟩ (.int .u8 (y.toNat : Int))) [(p, d)] := hd2
      go_wp2
      go_roundw
      case rel => exact ⟨j + 1, m2, by omega, by go_num, hml2, hO2, hd2⟩
      case measure => simp [intOf]; omega
  have tl : ¬ ((64 : Int) < (b.length : Int)) := by omega
  go_upto_region 6 with (fail)
  obtain ⟨bb, hbe⟩ : ∃ bb, bb = b := ⟨_, rfl⟩
  rw [← hbe] at hb hl tl hcp hmx ⊢
  have hbb := hb
  have hbu : bb.length ≤ 64 := by omega
  clear hbe hl hb
  go_wp2_with fail
  refine (new_ds (Ds.nil (Keep.refl w1)) 1 8 (by decide) (by decide) (by decide) (by decide)).mono ?_
  rintro e w2 ⟨p, rfl, h2, k2⟩
  have h2 : Ds w1 w2 [(p, newD 1 8)] := h2
  have k12 := k1.trans' k2
  have sm := newD_small 1 8
  have i3 := one_write K hK bb (by omega)
  have hZl : (newD 1 8).data.length = 8 := rfl
  generalize (newD 1 8).data = Z at i3 hZl
  generalize newD 1 8 = d2 at h2 sm i3
  go_upto_region 7 with (fail)
  refine wp_region_seq ?_
  refine seqW_pure rfl ?_
  go_big_quiet_step (fail)
  refine seqW_on ?_
  refine seqW_gives (by kernel_rfl) ?_
  refine Gives.appendB (l := []) (v := .slice none 0 0) elemB _ _ rfl rfl rfl (Own.nil w2 w2.heap.size _) (hbb.keep k12) (by simp; omega) (Nat.le_refl _) fun vm w3 hO3 hg3 => ?_
  rw [List.nil_append] at hO3
  have k23 : Keep w2 w3 := ⟨hg3.os, hg3.tape, hg3.output, hg3.size, fun bb hbb => hg3.block bb hbb (fun e => by cases e)⟩
  have h3 := h2.dx.more k23 (fun b' => vm.ownBlock = some b') (fun b' hb' => .inr (World.ownsRow.lt hO3 b' hb'))
  have hm3 := hO3.slB
  obtain ⟨ma, mc, rfl, -, -, -⟩ := hm3.form
  simp only [Act.put, List.setIfInBounds_toArray, List.set_cons_zero, List.set_cons_succ]
  refine seqW_pure rfl ?_
  go_big_quiet_step (fail)
  refine seqW_on ?_
  refine seqW_done ?_
  go_wp2_with fail
  refine (write_dx h3 0 (by simp) p _ rfl 0 K _ bb hm3 (sm.room (by decide))).mono ?_
  rintro ee w4 ⟨rfl, h4, hX4⟩
  have h4 : Dx w1 (fun b' => (Value.slice ma bb.length mc).ownBlock = some b') w4 [(p, d2.wrD 0 K bb)] := h4
  have hO4 := hO3.there (fun g e _ => hX4 g e)
  generalize d2.wrD 0 K bb = d at *
  generalize d2.wrE 0 K bb = E4 at *
  have hw12 := k2.size
  clear h2 h3 hO3 hg3 k23 hm3 hX4 k2
  go_wp2_with fail
  go_loopw [33] (fun i wr => ∃ (j : Nat) (m : List UInt8), j ≤ bb.length ∧ i = .int .i64 j ∧ m.length = bb.length ∧ Own wr w2.heap.size 5 (.slice ma bb.length mc) (m.map B) ∧ Dx w1 (fun b' => (Value.slice ma bb.length mc).ownBlock = some b') wr [(p, d)]) (fun i _ => bb.length - (intOf i).toNat)
  case atStart => exact ⟨0, bb, Nat.zero_le _, rfl, rfl, hO4, h4⟩
  case round =>
    obtain ⟨j, m, hj, rfl, hml, hO, hd⟩ := hrel
    clear hO4 h4
    by_cases hjn : j < bb.length
    rotate_left
    · have hjd : ¬ ((j : Int) < (bb.length : Int)) := by omega
      clear hjn hO hml
      have hd := hd.base
      have q1 := one_read1 hK i3
      have q2 := one_read2 hK hZl i3
      have t1 := one_there i3 K hK
      have t2 := one_there i3.bar K hK
      go_wp2_with fail
      refine (read_dx hd 0 (by simp) p _ rfl 0 K).mono ?_
      rintro ee w6 ⟨v6, rfl, hO6, kk6⟩
      rw [t1]
      rw [q1] at hO6
      have hb6 := hO6.slB
      have hl6 : (pad bb).length = 64 := pad_length bb hbu
      have h6 := hd.more kk6 (fun b' => v6.ownBlock = some b') (fun b' hb' => .inr (World.ownsRow.lt hO6 b' hb'))
      have hws := hd.k.size
      obtain ⟨a6, c6, rfl, -, -, -⟩ := hb6.form
      have HL6 := Lib.hid hl6
      rw [hl6] at hO6 hb6 h6 ⊢
      clear hl6
      go_upto_region 15 with (fail)
      refine wp_region_ch 9 [none, none, none, none, none, some none, some none, none, none] (fun w' => SlB w' (.slice ba bb.length bc) bb) (by kernel_rfl) (by kernel_rfl) (by kernel_rfl) (by kernel_rfl) (hbb.keep (k1.trans' h6.k)) ?_
      refine chT_pure rfl ?_
      go_big_quiet_step (fail)
      refine chT_on ?_
      refine chT_same (v := strV bb) (by kernel_rfl) (fun w2 hC => exec_str Try.underlying27 Try.underlying5 Try.underlying9 (v := .slice ba bb.length bc) _ rfl rfl w2 hC) ?_
      simp only [Act.put, List.setIfInBounds_toArray, List.set_cons_zero, List.set_cons_succ]
      simp only [strV]
      refine chT_pure rfl ?_
      go_big_quiet_step (fail)
      refine chT_on ?_
      refine chT_pure rfl ?_
      go_big_quiet_step (fail)
      refine chT_on ?_
      refine chT_pure rfl ?_
      go_big_quiet_step (fail)
      refine chT_on ?_
      have h6 := h6.keep (w' := w6.drew) (Keep.refl w6).drew
      have hO6 := hO6.there (w' := w6.drew) (fun _ _ _ => rfl)
      refine chT_gives (by kernel_rfl) ?_
      refine Gives.makeB elemB _ _ (64 - bb.length) rfl (by first | rfl | (show Value.int .i64 (64 - (bb.length : Int)) = _; congr 1; omega)) (by first | rfl | (show Value.int .i64 (64 - (bb.length : Int)) = _; congr 1; omega)) (by omega) ?_
      have hz := (Own.made w6.drew 5 0 (64 - bb.length) (Nat.zero_le _) (by omega)).slB
      have k7 := Keep.alloc w6.drew (.cells ((zB (64 - bb.length)).map B).toArray 5)
      have h7 := h6.keep k7
      have hO7 := hO6.keep k7
      have hb7 := hbb.keep (k1.trans' h7.k)
      clear h6 hO6 hb6 k7
      generalize w6.drew.alloc (.cells ((zB (64 - bb.length)).map B).toArray 5) = w7 at *
      refine ⟨hb7, ?_⟩
      simp only [Act.put, List.setIfInBounds_toArray, List.set_cons_zero, List.set_cons_succ]
      refine chT_gives (by kernel_rfl) ?_
      refine Gives.toStr Try.underlying27 Try.underlying5 Try.underlying9 _ rfl rfl hz ?_
      refine ⟨hb7, ?_⟩
      simp only [strV]
      simp only [Act.put, List.setIfInBounds_toArray, List.set_cons_zero, List.set_cons_succ]
      have sz1 : ((⟨bb.toArray⟩ : ByteArray).size : Int) ≤ 8388608 := by rw [size_str]; omega
      have sz2 : ((⟨(zB (64 - bb.length)).toArray⟩ : ByteArray).size : Int) ≤ 8388608 := by rw [size_str, zB_length]; omega
      refine chT_pure rfl ?_
      go_big_quiet_step (fail)
      refine chT_on ?_
      have hpad : (⟨bb.toArray⟩ : ByteArray) ++ ⟨(zB (64 - bb.length)).toArray⟩ = ⟨(pad bb).toArray⟩ := strV_add bb _
      rw [hpad]
      clear hpad hz hb7
      refine chT_pure rfl ?_
      go_big_quiet_step (fail)
      refine chT_on ?_
      refine chT_done ?_
      refine seqW_done ?_
      generalize pad bb = P at *
      clear sz1 sz2
      have hb7 := hO7.slB
      go_upto_region 16 with (fail)
      refine wp_region_seq ?_
      refine seqW_pure rfl ?_
      go_big_quiet_step (fail)
      refine seqW_on ?_
      refine seqW_gives (by kernel_rfl) ?_
      refine Gives.toStr Try.underlying27 Try.underlying5 Try.underlying9 _ rfl rfl hb7 ?_
      simp only [Act.put, List.setIfInBounds_toArray, List.set_cons_zero, List.set_cons_succ]
      try simp only [strV]
      refine seqW_pure rfl ?_
      go_big_quiet_step (fail)
      refine seqW_on ?_
      refine seqW_gives (by kernel_rfl) ?_
      refine Gives.value (v := .bool false) (w' := w7) (by go_simp) ?_
      simp only [Act.put, List.setIfInBounds_toArray, List.set_cons_zero, List.set_cons_succ]
      refine seqW_done ?_
      obtain ⟨g6, cp6, hv6, hge6, hlt6⟩ := hO7.head (by rw [List.length_map, HL6.out]; decide)
      simp only [Value.slice.injEq] at hv6
      obtain ⟨rfl, -, -⟩ := hv6
      have x0 := hO7.cellOf 0 (by rw [List.length_map, HL6.out]; decide)
      rw [List.getElem_map] at x0
      have f0 := hO7.freeOf 0
      obtain ⟨y6, hy0⟩ := up_byte (P[0]'(by rw [HL6.out]; decide))
      have hy : Value.int .u8 (IntKind.u8.wrap (((P[0]'(by rw [HL6.out]; decide)).toNat : Int) + 1)) = .int .u8 (y6.toNat : Int) := hy0
      clear hy0
      unfold B at x0
      generalize P[0]'(by rw [HL6.out]; decide) = e6 at *
      have hB6 := (ButS.refl w7 (fun b' => (Value.slice (some ⟨g6, 0, none⟩) 64 c6).ownBlock = some b')).set ⟨g6, 0, none⟩ (.int .u8 (y6.toNat : Int)) rfl
      have hs6 := (h7.touch hB6 (fun b' e => by cases e; exact Nat.le_trans hws hge6)).base
      clear hB6 hO7 h7
      go_wp2_with fail
      clear x0 f0 hy
      generalize w7.setCell ⟨g6, 0, none⟩ (.int .u8 (y6.toNat : Int)) = w8 at *
      refine (barrier_dx hs6 0 (by simp) p _ rfl 0).mono ?_
      rintro ee w9 ⟨rfl, h9, -⟩
      have h9 : Dx w1 (fun _ => False) w9 [(p, d.barD 0)] := h9
      generalize d.barD 0 = d9 at *
      generalize d.barE 0 = E9 at *
      clear hs6
      go_wp2_with fail
      refine (read_dx h9 0 (by simp) p _ rfl 0 K).mono ?_
      rintro ee w10 ⟨v10, rfl, hO10, kk10⟩
      rw [t2]
      rw [q2] at hO10
      have h10 := h9.more kk10 (fun b' => v10.ownBlock = some b') (fun b' hb' => .inr (World.ownsRow.lt hO10 b' hb'))
      have hws9 := h9.k.size
      obtain ⟨a10, c10, rfl, -, -, -⟩ := hO10.slB.form
      rw [HL6.out] at hO10 h10 ⊢
      clear kk10
      obtain ⟨g10, cp10, hv10, hge10, hlt10⟩ := hO10.head (by rw [List.length_map, HL6.out]; decide)
      simp only [Value.slice.injEq] at hv10
      obtain ⟨rfl, -, -⟩ := hv10
      have x0 := hO10.cellOf 1 (by rw [List.length_map, HL6.out]; decide)
      rw [List.getElem_map] at x0
      have f0 := hO10.freeOf 1
      obtain ⟨y10, hy0⟩ := up_byte (P[1]'(by rw [HL6.out]; decide))
      have hy : Value.int .u8 (IntKind.u8.wrap (((P[1]'(by rw [HL6.out]; decide)).toNat : Int) + 1)) = .int .u8 (y10.toNat : Int) := hy0
      clear hy0
      unfold B at x0
      generalize P[1]'(by rw [HL6.out]; decide) = e10 at *
      have hB10 := (ButS.refl w10 (fun b' => (Value.slice (some ⟨g10, 0, none⟩) 64 c10).ownBlock = some b')).set ⟨g10, 1, none⟩ (.int .u8 (y10.toNat : Int)) rfl
      have hs10 := (h10.touch hB10 (fun b' e => by cases e; exact Nat.le_trans hws9 hge10)).base
      clear hB10 hO10 h10
      go_wp2_with fail
      clear x0 f0 hy
      generalize w10.setCell ⟨g10, 1, none⟩ (.int .u8 (y10.toNat : Int)) = w11 at *
      refine (read_dx hs10 0 (by simp) p _ rfl 0 K).mono ?_
      rintro ee w12 ⟨v12, rfl, hO12, kk12⟩
      rw [t2]
      rw [q2] at hO12
      have kz := k1.trans' (hs10.keep kk12).k
      have hb12 := hO12.slB
      obtain ⟨a12, c12, rfl, -, -, -⟩ := hb12.form
      rw [HL6.out] at hb12 ⊢
      clear kk12 hO12 hs10
      go_upto_region 23 with (fail)
      refine wp_region_seq ?_
      refine seqW_pure rfl ?_
      go_big_quiet_step (fail)
      refine seqW_on ?_
      refine seqW_pure rfl ?_
      go_big_quiet_step (fail)
      refine seqW_on ?_
      refine seqW_pure rfl ?_
      go_big_quiet_step (fail)
      refine seqW_on ?_
      refine seqW_pure rfl ?_
      go_big_quiet_step (fail)
      refine seqW_on ?_
      refine seqW_gives (by kernel_rfl) ?_
      refine Gives.toStr Try.underlying27 Try.underlying5 Try.underlying9 _ rfl rfl hb12 ?_
      simp only [Act.put, List.setIfInBounds_toArray, List.set_cons_zero, List.set_cons_succ]
      try simp only [strV]
      refine seqW_pure rfl ?_
      go_big_quiet_step (fail)
      refine seqW_on ?_
      refine seqW_gives (by kernel_rfl) ?_
      refine Gives.value (v := .bool true) (w' := w12) (by go_simp) ?_
      simp only [Act.put, List.setIfInBounds_toArray, List.set_cons_zero, List.set_cons_succ]
      refine seqW_pure rfl ?_
      go_big_quiet_step (fail)
      refine seqW_on ?_
      refine seqW_pure rfl ?_
      go_big_quiet_step (fail)
      refine seqW_on ?_
      refine seqW_done ?_
      go_wp2
      go_ret
      exact ⟨rfl, kz⟩
    have hjd : (j : Int) < (bb.length : Int) := by omega
    obtain ⟨g, cap, hv, hge, hlt⟩ := hO.head (by rw [List.length_map]; omega)
    simp only [Value.slice.injEq] at hv
    obtain ⟨rfl, -, -⟩ := hv
    have x0 := hO.cellOf j (by rw [List.length_map]; omega)
    rw [List.getElem_map] at x0
    have f0 := hO.freeOf j
    obtain ⟨y, hy0⟩ := up_byte (m[j]'(by omega))
    have hO2 := hO.stored j (B y)
    rw [← List.map_set] at hO2
    have hml2 : (m.set j y).length = bb.length := by rw [List.length_set]; exact hml
    have hB2 := (ButS.refl wr (fun b' => (Value.slice (some ⟨g, 0, none⟩) bb.length mc).ownBlock = some b')).set ⟨g, j, none⟩ (B y) rfl
    have hd2 := hd.touch hB2 (fun b' e => by cases e; exact Nat.le_trans hw12 hge)
    generalize m[j]'(by omega) = x at *
    unfold B at x0
    have hy : Value.int .u8 (IntKind.u8.wrap ((x.toNat : Int) + 1)) = .int .u8 (y.toNat : Int) := hy0
    clear hy0
    generalize m.set j y = m2 at *
    clear hO hd hml hB2
    have hO2 : Own (wr.setCell ⟨g, j, none⟩ (.int .u8 (y.toNat : Int))) w2.heap.size 5 (.slice (some ⟨g, 0, none⟩) bb.length mc) (m2.map B) := hO2
    have hd2 : Dx w1 (fun b' => (Value.slice (some ⟨g, 0, none⟩) bb.length mc).ownBlock = some b') (wr.setCell ⟨g, j, none⟩ (.int .u8 (y.toNat : Int))) [(p, d)] := hd2
    go_wp2
    go_roundw
    case rel => exact ⟨j + 1, m2, by omega, by go_num, hml2, hO2, hd2⟩
    case measure => simp [intOf]; omega
end Go.Proofs.Ytnbadlhkcpjjmaa
