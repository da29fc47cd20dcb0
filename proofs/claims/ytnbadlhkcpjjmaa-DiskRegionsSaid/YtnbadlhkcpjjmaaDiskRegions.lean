/- The walk of DiskRegions. -/
import Derived.Test.YtnbadlhkcpjjmaaDx
namespace Go.Proofs.Ytnbadlhkcpjjmaa
open Go Go.RowKit
attribute [local irreducible] Go.wpQuiet

/-! ### One region is as another disk's -/
theorem fold_take0 (m : Nat) (l : List ((Nat × List UInt8) × Nat)) : ∀ data : List (List UInt8), (l.foldl (stepD m 0) data).take 8 = l.foldl (stepD m 0) (data.take 8) := by
  induction l with
  | nil => intro data; rfl
  | cons x l ih =>
    intro data
    rw [List.foldl_cons, List.foldl_cons, ih]
    congr 1
    unfold stepD
    split
    · rw [List.take_set]
    · rfl
theorem fold_take8 (m : Nat) (l : List ((Nat × List UInt8) × Nat)) : ∀ data : List (List UInt8), (l.foldl (stepD m 8) data).take 8 = data.take 8 := by
  induction l with
  | nil => intro data; rfl
  | cons x l ih =>
    intro data
    rw [List.foldl_cons, ih]
    unfold stepD
    split
    · rw [List.take_set, List.set_eq_of_length_le (by rw [List.length_take]; omega)]
    · rfl
structure Like (d e : Dk) : Prop where
  s : d.size = 8
  s' : e.size = 8
  l : d.regs.length = 2
  l' : e.regs.length = 2
  r : d.regs[0]? = e.regs[0]?
  t : d.data.take 8 = e.data.take 8
theorem like_new : Like (newD 2 8) (newD 2 8) := ⟨rfl, rfl, rfl, rfl, rfl, rfl⟩
theorem Like.write1 {d e : Dk} (h : Like d e) (s : Int) (b : List UInt8) : Like (d.wrD 1 s b) e := by
  unfold Dk.wrD
  split
  · exact h
  · split
    · exact h
    · exact ⟨h.s, h.s', by simpa [Dk.write, Dk.setRg] using h.l, h.l', by simpa [Dk.write, Dk.setRg] using h.r, h.t⟩
theorem Like.bar1 {d e : Dk} (h : Like d e) : Like (d.barD 1) e := by
  unfold Dk.barD
  split
  · exact h
  · split
    · exact h
    · refine ⟨h.s, h.s', by simpa [Dk.keep] using h.l, h.l', by simpa [Dk.keep] using h.r, ?_⟩
      have : (1 * d.size) = 8 := by rw [h.s]
      show (keepD _ (1 * d.size) _ d.data).take 8 = _
      rw [this]
      exact (fold_take8 _ _ _).trans h.t
theorem Like.there {d e : Dk} (h : Like d e) (r s : Int) : d.there r s = e.there r s := by
  unfold Dk.there
  rw [h.s, h.s', h.l, h.l']
theorem Like.down {d e : Dk} (h : Like d e) : d.down 0 = e.down 0 := by
  unfold Dk.down
  rw [h.r]
theorem Like.zero {d e : Dk} (h : Like d e) (g : Rg) : (d.regs.set 0 g)[0]? = (e.regs.set 0 g)[0]? := by
  rw [List.getElem?_set_self (by rw [h.l]; decide), List.getElem?_set_self (by rw [h.l']; decide)]
theorem Like.write0 {d e : Dk} (h : Like d e) (s : Int) (b : List UInt8) : d.wrE 0 s b = e.wrE 0 s b ∧ Like (d.wrD 0 s b) (e.wrD 0 s b) := by
  have hd : d.down (Int.toNat 0) = e.down (Int.toNat 0) := h.down
  unfold Dk.wrE Dk.wrD
  rw [h.there, hd]
  refine ⟨rfl, ?_⟩
  split
  · exact h
  · split
    · exact h
    · refine ⟨h.s, h.s', by simpa [Dk.write, Dk.setRg] using h.l, by simpa [Dk.write, Dk.setRg] using h.l', ?_, h.t⟩
      have hr : d.regs[(0 : Int).toNat]? = e.regs[(0 : Int).toNat]? := h.r
      unfold Dk.write Dk.setRg
      simp only
      rw [hr]
      exact h.zero _
theorem Like.bar0 {d e : Dk} (h : Like d e) : d.barE 0 = e.barE 0 ∧ Like (d.barD 0) (e.barD 0) := by
  have hd : d.down (Int.toNat 0) = e.down (Int.toNat 0) := h.down
  unfold Dk.barE Dk.barD
  rw [h.there, hd]
  refine ⟨rfl, ?_⟩
  split
  · exact h
  · split
    · exact h
    · have hr : d.regs[(0 : Int).toNat]? = e.regs[(0 : Int).toNat]? := h.r
      refine ⟨h.s, h.s', by simpa [Dk.keep] using h.l, by simpa [Dk.keep] using h.l', ?_, ?_⟩
      · unfold Dk.keep
        simp only
        rw [hr]
        exact h.zero _
      · show (keepD _ (0 * d.size) _ d.data).take 8 = (keepD _ (0 * e.size) _ e.data).take 8
        rw [hr, Nat.zero_mul, Nat.zero_mul]
        unfold keepD
        rw [fold_take0, fold_take0, h.t]
theorem two_range (d : Dk) (h : d.regs.length = 2) : List.range d.regs.length = [0, 1] := by rw [h]; rfl
theorem Like.crash {d e : Dk} (h : Like d e) (m : Nat) : Like (d.crash m) (e.crash m) := by
  have key : ∀ d : Dk, d.size = 8 → d.regs.length = 2 → (d.crash m).data.take 8 = keepD m 0 (d.regs[0]?.getD emptyRg).waits (d.data.take 8) := by
    intro d hs hl
    unfold Dk.crash
    rw [two_range d hl]
    show (keepD m (1 * (d.crashR m 0).size) ((d.crashR m 0).regs[1]?.getD emptyRg).waits (keepD m (0 * d.size) (d.regs[0]?.getD emptyRg).waits d.data)).take 8 = _
    have : (d.crashR m 0).size = 8 := hs
    rw [this, Nat.zero_mul, Nat.one_mul]
    unfold keepD
    rw [fold_take8, fold_take0]
  refine ⟨(crash_size d m).trans h.s, (crash_size e m).trans h.s', by rw [crash_regs, List.length_map, h.l], by rw [crash_regs, List.length_map, h.l'], ?_, ?_⟩
  · rw [crash_regs, crash_regs, List.getElem?_map, List.getElem?_map, h.r]
  · rw [key d h.s h.l, key e h.s' h.l', h.r, h.t]
theorem Like.read {d e : Dk} (h : Like d e) (s : Nat) (hs : s < 8) : d.readI 0 s = e.readI 0 s := by
  have hg : ∀ d : Dk, d.data.getD s [] = (d.data.take 8).getD s [] := by
    intro d
    rw [List.getD_eq_getElem?_getD, List.getD_eq_getElem?_getD, List.getElem?_take_of_lt hs]
  unfold Dk.readI
  rw [h.there]
  split
  · unfold Dk.read
    have hr : d.regs[(0 : Int).toNat]? = e.regs[(0 : Int).toNat]? := h.r
    have e1 : (0 : Int).toNat * d.size + (s : Int).toNat = s := by simp
    have e2 : (0 : Int).toNat * e.size + (s : Int).toNat = s := by simp
    rw [hr, e1, e2, hg d, hg e, h.t]
  · rfl
theorem and_one (n : Int) : Go.bits .and .i64 n 1 = 0 ∨ Go.bits .and .i64 n 1 = 1 := by
  have e : Go.bits .and .i64 n 1 = IntKind.i64.wrap ((((BitVec.ofInt 64 n) &&& (BitVec.ofInt 64 ((1 : Nat) : Int))).toNat : Nat) : Int) := rfl
  rw [e, BitVec.ofInt_natCast, BitVec.toNat_and, BitVec.toNat_ofNat, Nat.mod_eq_of_lt (show 1 < 2 ^ 64 by decide), show (1 : Nat) = 2 ^ 1 - 1 from rfl, Nat.and_two_pow_sub_one_eq_mod]
  have := Nat.mod_lt (BitVec.ofInt 64 n).toNat (show 0 < 2 ^ 1 by decide)
  rw [IntKind.wrap_i64]
  omega
set_option maxRecDepth 100000 in
set_option maxHeartbeats 8000000 in
theorem diskRegions_any (v u : Value) (a b : List Cl) (mask : Nat) (w : World) (hA : SlCl w v a) (hB : SlCl w u b) (hm : mask < 18446744073709551616) : Calls Try.prog 4 #[v, u, .int .u64 mask] w fun e w' => e = .returned (.bool true) ∧ Keep w w' := by
  obtain ⟨va, vc, rfl, hmx, -⟩ := hA.form
  obtain ⟨ua, uc, rfl, hux, -⟩ := hB.form
  unfold maxLen at hmx hux
  go_enter Try.func4, Try.ntmps4
  go_wp2_with fail
  refine (fit_any _).mono ?_
  rintro e w1 ⟨rfl, k1⟩
  by_cases hl : 100 < a.length
  · have tl : (100 : Int) < (a.length : Int) := by omega
    go_wp2
    go_ret
    exact ⟨rfl, k1⟩
  have tl : ¬ ((100 : Int) < (a.length : Int)) := by omega
  by_cases hl2 : 100 < b.length
  · have tl2 : (100 : Int) < (b.length : Int) := by omega
    go_wp2
    go_ret
    exact ⟨rfl, k1⟩
  have tl2 : ¬ ((100 : Int) < (b.length : Int)) := by omega
  go_wp2_with fail
  refine (new_ds (Ds.nil (Keep.refl w1)) 2 8 (by decide) (by decide) (by decide) (by decide)).mono ?_
  rintro e w2 ⟨p, rfl, h2, k2⟩
  have h2 : Ds w1 w2 [(p, newD 2 8)] := h2
  go_wp2_with fail
  refine (new_ds h2 2 8 (by decide) (by decide) (by decide) (by decide)).mono ?_
  rintro e w3 ⟨q, rfl, h3, k3⟩
  have h3 : Ds w1 w3 [(p, newD 2 8), (q, newD 2 8)] := h3
  have s3 := newD_small 2 8
  have i3 := like_new
  generalize newD 2 8 = d3 at *
  clear h2 k2 k3
  obtain ⟨M, hM, hMa, hMb, hM1⟩ : ∃ M : Nat, max (a.length : Int) (b.length : Int) = (M : Int) ∧ a.length ≤ M ∧ b.length ≤ M ∧ M ≤ 100 := ⟨max a.length b.length, by omega, by omega, by omega, by omega⟩
  go_wp2_with fail
  clear hM
  go_loopw [34] (fun i wr => ∃ (j : Nat) (d e : Dk), j ≤ M ∧ i = .int .i64 j ∧ Like d e ∧ d.Small (2 * j) ∧ e.Small j ∧ Ds w1 wr [(p, d), (q, e)]) (fun i _ => M - (intOf i).toNat)
  case atStart => exact ⟨0, d3, d3, Nat.zero_le _, rfl, i3, s3, s3, h3⟩
  case round =>
    obtain ⟨j, d, e, hj, rfl, hI, hS, hT, hd⟩ := hrel
    clear s3 i3 h3
    by_cases hjn : j < M
    rotate_left
    · have hjd : ¬ ((j : Int) < (M : Int)) := by omega
      clear hjn
      go_wp2_with fail
      refine (crash_ds hd 0 Nat.zero_lt_two p _ rfl mask hm).mono ?_
      rintro e w4 ⟨rfl, h4⟩
      have h4 : Ds w1 w4 [(p, d.crash mask), (q, _)] := h4
      go_wp2_with fail
      refine (crash_ds h4 1 Nat.one_lt_two q _ rfl mask hm).mono ?_
      rintro e w5 ⟨rfl, h5⟩
      have h5 : Ds w1 w5 [(p, d.crash mask), (q, _)] := h5
      have hJ := hI.crash mask
      generalize d.crash mask = D at *
      generalize Dk.crash _ mask = E at *
      clear hd h4 hI hS hT
      go_wp2_with fail
      go_loopw [111] (fun i wr => ∃ (j : Nat), j ≤ 8 ∧ i = .int .i64 j ∧ Ds w1 wr [(p, D), (q, E)]) (fun i _ => 8 - (intOf i).toNat)
      case atStart => exact ⟨0, Nat.zero_le _, rfl, h5⟩
      case round =>
        obtain ⟨k, hk, rfl, hd⟩ := hrel
        by_cases hkn : k < 8
        rotate_left
        · have hkd : ¬ ((k : Int) < 8) := by omega
          go_wp2
          go_ret
          exact ⟨rfl, k1.trans' hd.k⟩
        have hkd : (k : Int) < 8 := by omega
        have hR := Lib.hid (hJ.read k hkn)
        go_wp2_with fail
        refine (read_ds hd 0 Nat.zero_lt_two p _ rfl 0 k).mono ?_
        rintro e w6 ⟨v6, rfl, hb6, k6, hd6⟩
        generalize (if D.there 0 k = true then (0 : Int) else 1) = F4
        obtain ⟨a6, c6, rfl, -, -, -⟩ := hb6.form
        go_wp2_with fail
        refine (read_ds hd6 1 Nat.one_lt_two q _ rfl 0 k).mono ?_
        rintro e w7 ⟨v7, rfl, hb7, k7, hd7⟩
        generalize (if E.there 0 k = true then (0 : Int) else 1) = F5
        have hb67 := hb6.keep k7
        rw [← hR.out] at hb7
        obtain ⟨a7, c7, rfl, -, -, -⟩ := hb7.form
        clear hb6 hd6 hd k6 k7 h5
        generalize D.readI 0 k = R at *
        go_upto_region 27 with (fail)
        refine wp_region_seq ?_
        refine seqW_pure rfl ?_
        go_big_quiet_step (fail)
        refine seqW_on ?_
        refine seqW_gives (by kernel_rfl) ?_
        refine Gives.toStr Try.underlying27 Try.underlying5 Try.underlying9 _ rfl rfl hb67 ?_
        simp only [Act.put, List.setIfInBounds_toArray, List.set_cons_zero, List.set_cons_succ]
        try simp only [strV]
        refine seqW_pure rfl ?_
        go_big_quiet_step (fail)
        refine seqW_on ?_
        refine seqW_gives (by kernel_rfl) ?_
        refine Gives.toStr Try.underlying27 Try.underlying5 Try.underlying9 _ rfl rfl hb7 ?_
        simp only [Act.put, List.setIfInBounds_toArray, List.set_cons_zero, List.set_cons_succ]
        try simp only [strV]
        refine seqW_gives (by kernel_rfl) ?_
        refine Gives.value (v := .bool false) (w' := w7) (by go_simp) ?_
        simp only [Act.put, List.setIfInBounds_toArray, List.set_cons_zero, List.set_cons_succ]
        refine seqW_done ?_
        clear hb67 hb7 hR
        go_wp2
        go_roundw
        case rel => exact ⟨k + 1, by omega, by go_num, hd7⟩
        case measure => simp [intOf]; omega
    have hjd : (j : Int) < (M : Int) := by omega
    by_cases hjb : j < b.length
    rotate_left
    · have tjb : ¬ ((j : Int) < (b.length : Int)) := by omega
      clear hjb
      have hS := hS.mono (Nat.le_succ _)
      by_cases hja : j < a.length
      rotate_left
      · have tja : ¬ ((j : Int) < (a.length : Int)) := by omega
        clear hja
        go_wp2
        go_roundw
        case rel => exact ⟨j + 1, d, e, by omega, by go_num, hI, (hS.mono (by omega)), (hT.mono (by omega)), hd⟩
        case measure => simp [intOf]; omega
      have tja : (j : Int) < (a.length : Int) := by omega
      obtain ⟨ga, oa, rfl, dv, hdv, z0, z1, z2, z3, z4⟩ := hA.elem j hja
      have kw := k1.trans' hd.k
      have z2 := kw.cellk z2
      have z3 := kw.cellk z3
      obtain ⟨da, dc, rfl, -, -, -⟩ := hdv.form
      generalize a[j] = c at *
      clear z1 z4
      go_upto_region 14 with (fail)
      refine wp_region_ch 26 [none, none, none, none, none, none, none, none, none, none, none, some none, none, none, none, none, none, none, none, none, none, none, none, some none, none, none] (fun w' => w'.cell? ⟨ga, oa + j * 5 + 2, none⟩ = some (.int .i64 c.s) ∧ w'.cell? ⟨ga, oa + j * 5 + 3, none⟩ = some (.slice da c.data.length dc)) (by kernel_rfl) (by kernel_rfl) (by kernel_rfl) (by kernel_rfl) (⟨z2, z3⟩) ?_
      refine chT_pure rfl ?_
      go_big_quiet_step (fail)
      refine chT_on ?_
      refine chT_pure rfl ?_
      go_big_quiet_step (fail)
      refine chT_on ?_
      refine chT_pure rfl ?_
      go_big_quiet_step (fail)
      refine chT_on ?_
      refine chT_pure rfl ?_
      go_big_quiet_step (fail)
      refine chT_on ?_
      refine chT_pure rfl ?_
      go_big_quiet_step (fail)
      refine chT_on ?_
      refine chT_same (v := .int .i64 c.s) (by kernel_rfl) (fun w2 hC => by
        have zz := hC.1
        go_simp) ?_
      simp only [Act.put, List.setIfInBounds_toArray, List.set_cons_zero, List.set_cons_succ]
      refine chT_pure rfl ?_
      go_big_quiet_step (fail)
      refine chT_on ?_
      refine chT_pure rfl ?_
      go_big_quiet_step (fail)
      refine chT_on ?_
      refine chT_pure rfl ?_
      go_big_quiet_step (fail)
      refine chT_on ?_
      refine chT_pure rfl ?_
      go_big_quiet_step (fail)
      refine chT_on ?_
      refine chT_same (v := .slice da c.data.length dc) (by kernel_rfl) (fun w2 hC => by
        have zz := hC.2
        go_simp) ?_
      simp only [Act.put, List.setIfInBounds_toArray, List.set_cons_zero, List.set_cons_succ]
      have hd0 := hd.keep (w' := wr.drew) (Keep.refl wr).drew
      obtain ⟨X, hX⟩ : ∃ X, d.wrE 0 c.s c.data = X := ⟨_, rfl⟩
      obtain ⟨eX, hI6⟩ := hI.write0 c.s c.data
      rw [hX] at eX
      have hS6 := hS.wrD 0 c.s c.data
      have hT6 := hT.wrD 0 c.s c.data
      refine chT_gives (by kernel_rfl) ?_
      refine Gives.call (by go_simp) (write_ds hd0 0 Nat.zero_lt_two p _ rfl 0 c.s _ c.data (hdv.keep (k1.trans' hd0.k)) (hS.room (by omega))) ?_
      rintro ee w5 ⟨rfl, h5⟩
      have h5 : Ds w1 w5 [(p, d.wrD 0 c.s c.data), (q, e)] := h5
      rw [hX]
      generalize d.wrD 0 c.s c.data = d6 at *
      have kw5 := k1.trans' h5.k
      refine ⟨_, rfl, ⟨?_, ?_⟩, ?_⟩
      · exact kw5.cellk (by assumption)
      · exact kw5.cellk (by assumption)
      clear hd0 hX
      simp only [Act.put, List.setIfInBounds_toArray, List.set_cons_zero, List.set_cons_succ]
      refine chT_pure rfl ?_
      go_big_quiet_step (fail)
      refine chT_on ?_
      refine chT_pure rfl ?_
      go_big_quiet_step (fail)
      refine chT_on ?_
      refine chT_pure rfl ?_
      go_big_quiet_step (fail)
      refine chT_on ?_
      refine chT_pure rfl ?_
      go_big_quiet_step (fail)
      refine chT_on ?_
      refine chT_pure rfl ?_
      go_big_quiet_step (fail)
      refine chT_on ?_
      refine chT_same (v := .int .i64 c.s) (by kernel_rfl) (fun w2 hC => by
        have zz := hC.1
        go_simp) ?_
      simp only [Act.put, List.setIfInBounds_toArray, List.set_cons_zero, List.set_cons_succ]
      refine chT_pure rfl ?_
      go_big_quiet_step (fail)
      refine chT_on ?_
      refine chT_pure rfl ?_
      go_big_quiet_step (fail)
      refine chT_on ?_
      refine chT_pure rfl ?_
      go_big_quiet_step (fail)
      refine chT_on ?_
      refine chT_pure rfl ?_
      go_big_quiet_step (fail)
      refine chT_on ?_
      refine chT_same (v := .slice da c.data.length dc) (by kernel_rfl) (fun w2 hC => by
        have zz := hC.2
        go_simp) ?_
      simp only [Act.put, List.setIfInBounds_toArray, List.set_cons_zero, List.set_cons_succ]
      refine chT_gives (by kernel_rfl) ?_
      refine Gives.call (by go_simp) (write_ds h5 1 Nat.one_lt_two q _ rfl 0 c.s _ c.data (hdv.keep kw5) (hT.room (by omega))) ?_
      rintro ee w6 ⟨rfl, h6⟩
      have h6 : Ds w1 w6 [(p, d6), (q, e.wrD 0 c.s c.data)] := h6
      rw [← eX]
      generalize e.wrD 0 c.s c.data = e6 at *
      have kw6 := k1.trans' h6.k
      refine ⟨_, rfl, ⟨?_, ?_⟩, ?_⟩
      · exact kw6.cellk (by assumption)
      · exact kw6.cellk (by assumption)
      clear h5 eX
      simp only [Act.put, List.setIfInBounds_toArray, List.set_cons_zero, List.set_cons_succ]
      refine chT_pure rfl ?_
      go_big_quiet_step (fail)
      refine chT_on ?_
      refine chT_pure rfl ?_
      go_big_quiet_step (fail)
      refine chT_on ?_
      refine chT_done ?_
      refine seqW_done ?_
      have z0 : w6.cell? ⟨ga, oa + j * 5, none⟩ = _ := kw6.cellk (by assumption)
      rcases and_one c.kind with hk | hk
      · have tb : (Go.bits .and .i64 c.kind 1 == 1) = false := by rw [hk]; rfl
        clear hk
        go_wp2
        go_roundw
        case rel => exact ⟨j + 1, d6, e6, by omega, by go_num, hI6, (hS6.mono (by omega)), hT6, h6⟩
        case measure => simp [intOf]; omega
      · have tb : (Go.bits .and .i64 c.kind 1 == 1) = true := by rw [hk]; rfl
        go_wp2_with fail
        refine (barrier_ds h6 0 Nat.zero_lt_two p _ rfl 0).mono ?_
        rintro ee w7 ⟨rfl, h7⟩
        have h7 : Ds w1 w7 [(p, d6.barD 0), (q, e6)] := h7
        go_wp2_with fail
        refine (barrier_ds h7 1 Nat.one_lt_two q _ rfl 0).mono ?_
        rintro ee w8 ⟨rfl, h8⟩
        have h8 : Ds w1 w8 [(p, d6.barD 0), (q, e6.barD 0)] := h8
        obtain ⟨eY, hI8⟩ := hI6.bar0
        rw [eY]
        have hS8 := hS6.barD 0
        have hT8 := hT6.barD 0
        generalize d6.barD 0 = d8 at *
        generalize e6.barD 0 = e8 at *
        generalize e6.barE 0 = Y at *
        clear h6 h7 eY z0
        go_wp2
        go_roundw
        case rel => exact ⟨j + 1, d8, e8, by omega, by go_num, hI8, (hS8.mono (by omega)), hT8, h8⟩
        case measure => simp [intOf]; omega
    have tjb : (j : Int) < (b.length : Int) := by omega
    obtain ⟨gb, ob, rfl, bv, hbv, x0, x1, x2, x3, x4⟩ := hB.elem j hjb
    have kw := k1.trans' hd.k
    have y2 := kw.cellk x2
    have y3 := kw.cellk x3
    obtain ⟨ba, bc, rfl, -, -, -⟩ := hbv.form
    generalize b[j] = k at *
    go_upto_region 10 with (fail)
    refine wp_region_ch 11 [none, none, none, none, none, none, none, none, none, none, none, none] (fun w' => w'.cell? ⟨gb, ob + j * 5 + 2, none⟩ = some (.int .i64 k.s) ∧ w'.cell? ⟨gb, ob + j * 5 + 3, none⟩ = some (.slice ba k.data.length bc)) (by kernel_rfl) (by kernel_rfl) (by kernel_rfl) (by kernel_rfl) (⟨y2, y3⟩) ?_
    refine chT_pure rfl ?_
    go_big_quiet_step (fail)
    refine chT_on ?_
    refine chT_pure rfl ?_
    go_big_quiet_step (fail)
    refine chT_on ?_
    refine chT_pure rfl ?_
    go_big_quiet_step (fail)
    refine chT_on ?_
    refine chT_pure rfl ?_
    go_big_quiet_step (fail)
    refine chT_on ?_
    refine chT_pure rfl ?_
    go_big_quiet_step (fail)
    refine chT_on ?_
    refine chT_same (v := .int .i64 k.s) (by kernel_rfl) (fun w2 hC => by
      have zz := hC.1
      go_simp) ?_
    simp only [Act.put, List.setIfInBounds_toArray, List.set_cons_zero, List.set_cons_succ]
    refine chT_pure rfl ?_
    go_big_quiet_step (fail)
    refine chT_on ?_
    refine chT_pure rfl ?_
    go_big_quiet_step (fail)
    refine chT_on ?_
    refine chT_pure rfl ?_
    go_big_quiet_step (fail)
    refine chT_on ?_
    refine chT_pure rfl ?_
    go_big_quiet_step (fail)
    refine chT_on ?_
    refine chT_same (v := .slice ba k.data.length bc) (by kernel_rfl) (fun w2 hC => by
      have zz := hC.2
      go_simp) ?_
    simp only [Act.put, List.setIfInBounds_toArray, List.set_cons_zero, List.set_cons_succ]
    refine chT_done ?_
    have hd0 := hd.keep (w' := wr.drew) (Keep.refl wr).drew
    refine seqW_gives (by kernel_rfl) ?_
    refine Gives.call (by go_simp) (write_ds hd0 0 Nat.zero_lt_two p _ rfl 1 k.s _ k.data (hbv.keep (k1.trans' hd0.k)) (hS.room (by omega))) ?_
    rintro ee w4 ⟨rfl, h4⟩
    have h4 : Ds w1 w4 [(p, d.wrD 1 k.s k.data), (q, e)] := h4
    refine ⟨_, rfl, ?_⟩
    clear hd0
    simp only [Act.put, List.setIfInBounds_toArray, List.set_cons_zero, List.set_cons_succ]
    refine seqW_done ?_
    have hI := hI.write1 k.s k.data
    have hS := hS.wrD 1 k.s k.data
    generalize d.wrE 1 k.s k.data = EE at *
    generalize d.wrD 1 k.s k.data = d at *
    have y0 := (k1.trans' h4.k).cellk x0
    clear hd kw y2 y3 x1 x2 x3 x4
    rcases and_one k.kind with hkb | hkb
    · have tb : (Go.bits .and .i64 k.kind 1 == 1) = false := by rw [hkb]; rfl
      clear hkb
      clear x0
      by_cases hja : j < a.length
      rotate_left
      · have tja : ¬ ((j : Int) < (a.length : Int)) := by omega
        clear hja
        go_wp2
        go_roundw
        case rel => exact ⟨j + 1, d, e, by omega, by go_num, hI, (hS.mono (by omega)), (hT.mono (by omega)), h4⟩
        case measure => simp [intOf]; omega
      have tja : (j : Int) < (a.length : Int) := by omega
      obtain ⟨ga, oa, rfl, dv, hdv, z0, z1, z2, z3, z4⟩ := hA.elem j hja
      have kw := k1.trans' h4.k
      have z2 := kw.cellk z2
      have z3 := kw.cellk z3
      obtain ⟨da, dc, rfl, -, -, -⟩ := hdv.form
      generalize a[j] = c at *
      clear z1 z4
      go_upto_region 14 with (fail)
      refine wp_region_ch 26 [none, none, none, none, none, none, none, none, none, none, none, some none, none, none, none, none, none, none, none, none, none, none, none, some none, none, none] (fun w' => w'.cell? ⟨ga, oa + j * 5 + 2, none⟩ = some (.int .i64 c.s) ∧ w'.cell? ⟨ga, oa + j * 5 + 3, none⟩ = some (.slice da c.data.length dc)) (by kernel_rfl) (by kernel_rfl) (by kernel_rfl) (by kernel_rfl) (⟨z2, z3⟩) ?_
      refine chT_pure rfl ?_
      go_big_quiet_step (fail)
      refine chT_on ?_
      refine chT_pure rfl ?_
      go_big_quiet_step (fail)
      refine chT_on ?_
      refine chT_pure rfl ?_
      go_big_quiet_step (fail)
      refine chT_on ?_
      refine chT_pure rfl ?_
      go_big_quiet_step (fail)
      refine chT_on ?_
      refine chT_pure rfl ?_
      go_big_quiet_step (fail)
      refine chT_on ?_
      refine chT_same (v := .int .i64 c.s) (by kernel_rfl) (fun w2 hC => by
        have zz := hC.1
        go_simp) ?_
      simp only [Act.put, List.setIfInBounds_toArray, List.set_cons_zero, List.set_cons_succ]
      refine chT_pure rfl ?_
      go_big_quiet_step (fail)
      refine chT_on ?_
      refine chT_pure rfl ?_
      go_big_quiet_step (fail)
      refine chT_on ?_
      refine chT_pure rfl ?_
      go_big_quiet_step (fail)
      refine chT_on ?_
      refine chT_pure rfl ?_
      go_big_quiet_step (fail)
      refine chT_on ?_
      refine chT_same (v := .slice da c.data.length dc) (by kernel_rfl) (fun w2 hC => by
        have zz := hC.2
        go_simp) ?_
      simp only [Act.put, List.setIfInBounds_toArray, List.set_cons_zero, List.set_cons_succ]
      have hd0 := h4.keep (w' := w4.drew) (Keep.refl w4).drew
      obtain ⟨X, hX⟩ : ∃ X, d.wrE 0 c.s c.data = X := ⟨_, rfl⟩
      obtain ⟨eX, hI6⟩ := hI.write0 c.s c.data
      rw [hX] at eX
      have hS6 := hS.wrD 0 c.s c.data
      have hT6 := hT.wrD 0 c.s c.data
      refine chT_gives (by kernel_rfl) ?_
      refine Gives.call (by go_simp) (write_ds hd0 0 Nat.zero_lt_two p _ rfl 0 c.s _ c.data (hdv.keep (k1.trans' hd0.k)) (hS.room (by omega))) ?_
      rintro ee w5 ⟨rfl, h5⟩
      have h5 : Ds w1 w5 [(p, d.wrD 0 c.s c.data), (q, e)] := h5
      rw [hX]
      generalize d.wrD 0 c.s c.data = d6 at *
      have kw5 := k1.trans' h5.k
      refine ⟨_, rfl, ⟨?_, ?_⟩, ?_⟩
      · exact kw5.cellk (by assumption)
      · exact kw5.cellk (by assumption)
      clear hd0 hX
      simp only [Act.put, List.setIfInBounds_toArray, List.set_cons_zero, List.set_cons_succ]
      refine chT_pure rfl ?_
      go_big_quiet_step (fail)
      refine chT_on ?_
      refine chT_pure rfl ?_
      go_big_quiet_step (fail)
      refine chT_on ?_
      refine chT_pure rfl ?_
      go_big_quiet_step (fail)
      refine chT_on ?_
      refine chT_pure rfl ?_
      go_big_quiet_step (fail)
      refine chT_on ?_
      refine chT_pure rfl ?_
      go_big_quiet_step (fail)
      refine chT_on ?_
      refine chT_same (v := .int .i64 c.s) (by kernel_rfl) (fun w2 hC => by
        have zz := hC.1
        go_simp) ?_
      simp only [Act.put, List.setIfInBounds_toArray, List.set_cons_zero, List.set_cons_succ]
      refine chT_pure rfl ?_
      go_big_quiet_step (fail)
      refine chT_on ?_
      refine chT_pure rfl ?_
      go_big_quiet_step (fail)
      refine chT_on ?_
      refine chT_pure rfl ?_
      go_big_quiet_step (fail)
      refine chT_on ?_
      refine chT_pure rfl ?_
      go_big_quiet_step (fail)
      refine chT_on ?_
      refine chT_same (v := .slice da c.data.length dc) (by kernel_rfl) (fun w2 hC => by
        have zz := hC.2
        go_simp) ?_
      simp only [Act.put, List.setIfInBounds_toArray, List.set_cons_zero, List.set_cons_succ]
      refine chT_gives (by kernel_rfl) ?_
      refine Gives.call (by go_simp) (write_ds h5 1 Nat.one_lt_two q _ rfl 0 c.s _ c.data (hdv.keep kw5) (hT.room (by omega))) ?_
      rintro ee w6 ⟨rfl, h6⟩
      have h6 : Ds w1 w6 [(p, d6), (q, e.wrD 0 c.s c.data)] := h6
      rw [← eX]
      generalize e.wrD 0 c.s c.data = e6 at *
      have kw6 := k1.trans' h6.k
      refine ⟨_, rfl, ⟨?_, ?_⟩, ?_⟩
      · exact kw6.cellk (by assumption)
      · exact kw6.cellk (by assumption)
      clear h5 eX
      simp only [Act.put, List.setIfInBounds_toArray, List.set_cons_zero, List.set_cons_succ]
      refine chT_pure rfl ?_
      go_big_quiet_step (fail)
      refine chT_on ?_
      refine chT_pure rfl ?_
      go_big_quiet_step (fail)
      refine chT_on ?_
      refine chT_done ?_
      refine seqW_done ?_
      have z0 : w6.cell? ⟨ga, oa + j * 5, none⟩ = _ := kw6.cellk (by assumption)
      rcases and_one c.kind with hk | hk
      · have tb : (Go.bits .and .i64 c.kind 1 == 1) = false := by rw [hk]; rfl
        clear hk
        go_wp2
        go_roundw
        case rel => exact ⟨j + 1, d6, e6, by omega, by go_num, hI6, (hS6.mono (by omega)), hT6, h6⟩
        case measure => simp [intOf]; omega
      · have tb : (Go.bits .and .i64 c.kind 1 == 1) = true := by rw [hk]; rfl
        go_wp2_with fail
        refine (barrier_ds h6 0 Nat.zero_lt_two p _ rfl 0).mono ?_
        rintro ee w7 ⟨rfl, h7⟩
        have h7 : Ds w1 w7 [(p, d6.barD 0), (q, e6)] := h7
        go_wp2_with fail
        refine (barrier_ds h7 1 Nat.one_lt_two q _ rfl 0).mono ?_
        rintro ee w8 ⟨rfl, h8⟩
        have h8 : Ds w1 w8 [(p, d6.barD 0), (q, e6.barD 0)] := h8
        obtain ⟨eY, hI8⟩ := hI6.bar0
        rw [eY]
        have hS8 := hS6.barD 0
        have hT8 := hT6.barD 0
        generalize d6.barD 0 = d8 at *
        generalize e6.barD 0 = e8 at *
        generalize e6.barE 0 = Y at *
        clear h6 h7 eY z0
        go_wp2
        go_roundw
        case rel => exact ⟨j + 1, d8, e8, by omega, by go_num, hI8, (hS8.mono (by omega)), hT8, h8⟩
        case measure => simp [intOf]; omega
    · have tb : (Go.bits .and .i64 k.kind 1 == 1) = true := by rw [hkb]; rfl
      clear hkb
      go_wp2_with fail
      refine (barrier_ds h4 0 Nat.zero_lt_two p _ rfl 1).mono ?_
      rintro ee w4b ⟨rfl, h4b⟩
      have h4b : Ds w1 w4b [(p, d.barD 1), (q, e)] := h4b
      have hI := hI.bar1
      have hS := hS.barD 1
      generalize d.barD 1 = d at *
      generalize d.barE 1 = EF at *
      clear h4 y0 x0 tb
      by_cases hja : j < a.length
      rotate_left
      · have tja : ¬ ((j : Int) < (a.length : Int)) := by omega
        clear hja
        go_wp2
        go_roundw
        case rel => exact ⟨j + 1, d, e, by omega, by go_num, hI, (hS.mono (by omega)), (hT.mono (by omega)), h4b⟩
        case measure => simp [intOf]; omega
      have tja : (j : Int) < (a.length : Int) := by omega
      obtain ⟨ga, oa, rfl, dv, hdv, z0, z1, z2, z3, z4⟩ := hA.elem j hja
      have kw := k1.trans' h4b.k
      have z2 := kw.cellk z2
      have z3 := kw.cellk z3
      obtain ⟨da, dc, rfl, -, -, -⟩ := hdv.form
      generalize a[j] = c at *
      clear z1 z4
      go_upto_region 14 with (fail)
      refine wp_region_ch 26 [none, none, none, none, none, none, none, none, none, none, none, some none, none, none, none, none, none, none, none, none, none, none, none, some none, none, none] (fun w' => w'.cell? ⟨ga, oa + j * 5 + 2, none⟩ = some (.int .i64 c.s) ∧ w'.cell? ⟨ga, oa + j * 5 + 3, none⟩ = some (.slice da c.data.length dc)) (by kernel_rfl) (by kernel_rfl) (by kernel_rfl) (by kernel_rfl) (⟨z2, z3⟩) ?_
      refine chT_pure rfl ?_
      go_big_quiet_step (fail)
      refine chT_on ?_
      refine chT_pure rfl ?_
      go_big_quiet_step (fail)
      refine chT_on ?_
      refine chT_pure rfl ?_
      go_big_quiet_step (fail)
      refine chT_on ?_
      refine chT_pure rfl ?_
      go_big_quiet_step (fail)
      refine chT_on ?_
      refine chT_pure rfl ?_
      go_big_quiet_step (fail)
      refine chT_on ?_
      refine chT_same (v := .int .i64 c.s) (by kernel_rfl) (fun w2 hC => by
        have zz := hC.1
        go_simp) ?_
      simp only [Act.put, List.setIfInBounds_toArray, List.set_cons_zero, List.set_cons_succ]
      refine chT_pure rfl ?_
      go_big_quiet_step (fail)
      refine chT_on ?_
      refine chT_pure rfl ?_
      go_big_quiet_step (fail)
      refine chT_on ?_
      refine chT_pure rfl ?_
      go_big_quiet_step (fail)
      refine chT_on ?_
      refine chT_pure rfl ?_
      go_big_quiet_step (fail)
      refine chT_on ?_
      refine chT_same (v := .slice da c.data.length dc) (by kernel_rfl) (fun w2 hC => by
        have zz := hC.2
        go_simp) ?_
      simp only [Act.put, List.setIfInBounds_toArray, List.set_cons_zero, List.set_cons_succ]
      have hd0 := h4b.keep (w' := w4b.drew) (Keep.refl w4b).drew
      obtain ⟨X, hX⟩ : ∃ X, d.wrE 0 c.s c.data = X := ⟨_, rfl⟩
      obtain ⟨eX, hI6⟩ := hI.write0 c.s c.data
      rw [hX] at eX
      have hS6 := hS.wrD 0 c.s c.data
      have hT6 := hT.wrD 0 c.s c.data
      refine chT_gives (by kernel_rfl) ?_
      refine Gives.call (by go_simp) (write_ds hd0 0 Nat.zero_lt_two p _ rfl 0 c.s _ c.data (hdv.keep (k1.trans' hd0.k)) (hS.room (by omega))) ?_
      rintro ee w5 ⟨rfl, h5⟩
      have h5 : Ds w1 w5 [(p, d.wrD 0 c.s c.data), (q, e)] := h5
      rw [hX]
      generalize d.wrD 0 c.s c.data = d6 at *
      have kw5 := k1.trans' h5.k
      refine ⟨_, rfl, ⟨?_, ?_⟩, ?_⟩
      · exact kw5.cellk (by assumption)
      · exact kw5.cellk (by assumption)
      clear hd0 hX
      simp only [Act.put, List.setIfInBounds_toArray, List.set_cons_zero, List.set_cons_succ]
      refine chT_pure rfl ?_
      go_big_quiet_step (fail)
      refine chT_on ?_
      refine chT_pure rfl ?_
      go_big_quiet_step (fail)
      refine chT_on ?_
      refine chT_pure rfl ?_
      go_big_quiet_step (fail)
      refine chT_on ?_
      refine chT_pure rfl ?_
      go_big_quiet_step (fail)
      refine chT_on ?_
      refine chT_pure rfl ?_
      go_big_quiet_step (fail)
      refine chT_on ?_
      refine chT_same (v := .int .i64 c.s) (by kernel_rfl) (fun w2 hC => by
        have zz := hC.1
        go_simp) ?_
      simp only [Act.put, List.setIfInBounds_toArray, List.set_cons_zero, List.set_cons_succ]
      refine chT_pure rfl ?_
      go_big_quiet_step (fail)
      refine chT_on ?_
      refine chT_pure rfl ?_
      go_big_quiet_step (fail)
      refine chT_on ?_
      refine chT_pure rfl ?_
      go_big_quiet_step (fail)
      refine chT_on ?_
      refine chT_pure rfl ?_
      go_big_quiet_step (fail)
      refine chT_on ?_
      refine chT_same (v := .slice da c.data.length dc) (by kernel_rfl) (fun w2 hC => by
        have zz := hC.2
        go_simp) ?_
      simp only [Act.put, List.setIfInBounds_toArray, List.set_cons_zero, List.set_cons_succ]
      refine chT_gives (by kernel_rfl) ?_
      refine Gives.call (by go_simp) (write_ds h5 1 Nat.one_lt_two q _ rfl 0 c.s _ c.data (hdv.keep kw5) (hT.room (by omega))) ?_
      rintro ee w6 ⟨rfl, h6⟩
      have h6 : Ds w1 w6 [(p, d6), (q, e.wrD 0 c.s c.data)] := h6
      rw [← eX]
      generalize e.wrD 0 c.s c.data = e6 at *
      have kw6 := k1.trans' h6.k
      refine ⟨_, rfl, ⟨?_, ?_⟩, ?_⟩
      · exact kw6.cellk (by assumption)
      · exact kw6.cellk (by assumption)
      clear h5 eX
      simp only [Act.put, List.setIfInBounds_toArray, List.set_cons_zero, List.set_cons_succ]
      refine chT_pure rfl ?_
      go_big_quiet_step (fail)
      refine chT_on ?_
      refine chT_pure rfl ?_
      go_big_quiet_step (fail)
      refine chT_on ?_
      refine chT_done ?_
      refine seqW_done ?_
      have z0 : w6.cell? ⟨ga, oa + j * 5, none⟩ = _ := kw6.cellk (by assumption)
      rcases and_one c.kind with hk | hk
      · have tb : (Go.bits .and .i64 c.kind 1 == 1) = false := by rw [hk]; rfl
        clear hk
        go_wp2
        go_roundw
        case rel => exact ⟨j + 1, d6, e6, by omega, by go_num, hI6, (hS6.mono (by omega)), hT6, h6⟩
        case measure => simp [intOf]; omega
      · have tb : (Go.bits .and .i64 c.kind 1 == 1) = true := by rw [hk]; rfl
        go_wp2_with fail
        refine (barrier_ds h6 0 Nat.zero_lt_two p _ rfl 0).mono ?_
        rintro ee w7 ⟨rfl, h7⟩
        have h7 : Ds w1 w7 [(p, d6.barD 0), (q, e6)] := h7
        go_wp2_with fail
        refine (barrier_ds h7 1 Nat.one_lt_two q _ rfl 0).mono ?_
        rintro ee w8 ⟨rfl, h8⟩
        have h8 : Ds w1 w8 [(p, d6.barD 0), (q, e6.barD 0)] := h8
        obtain ⟨eY, hI8⟩ := hI6.bar0
        rw [eY]
        have hS8 := hS6.barD 0
        have hT8 := hT6.barD 0
        generalize d6.barD 0 = d8 at *
        generalize e6.barD 0 = e8 at *
        generalize e6.barE 0 = Y at *
        clear h6 h7 eY z0
        go_wp2
        go_roundw
        case rel => exact ⟨j + 1, d8, e8, by omega, by go_num, hI8, (hS8.mono (by omega)), hT8, h8⟩
        case measure => simp [intOf]; omega
end Go.Proofs.Ytnbadlhkcpjjmaa
