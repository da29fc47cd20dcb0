/- The walk of DiskArms. -/
import Derived.Test.YtnbadlhkcpjjmaaFit03
namespace Go.Proofs.Ytnbadlhkcpjjmaa
open Go Go.RowKit
attribute [local irreducible] Go.wpQuiet

/-- a disk of two regions, of which the second is armed and has taken i writes -/
def ArmI (d : Dk) (n i : Nat) : Prop := ∃ w0 l0 w1, d.size = 4 ∧ d.regs = [⟨w0, false, l0⟩, ⟨w1, true, ((n - min i n : Nat) : Int)⟩] ∧ w1.length = min i n ∧ w0.length ≤ i ∧ d.writes ≤ 2 * i
theorem ArmI.room {d : Dk} {n i : Nat} (h : ArmI d n i) (hn : n ≤ 100) (hi : i ≤ 100) : d.Room := by
  obtain ⟨w0, l0, w1, h1, h2, h3, h4, h5⟩ := h
  refine ⟨by omega, fun r hr => ?_⟩
  rw [h2] at hr
  simp only [List.mem_cons, List.not_mem_nil, or_false] at hr
  rcases hr with rfl | rfl
  · simp only; omega
  · simp only; omega
theorem armI_zero (n : Nat) : ArmI ((newD 2 4).arm 1 n) n 0 := by
  refine ⟨[], 0, [], rfl, ?_, by simp, by simp, by simp [Dk.arm, newD, Dk.there, Dk.setRg]⟩
  simp [Dk.arm, newD, Dk.there, Dk.setRg, emptyRg, List.replicate]
theorem ArmI.down {d : Dk} {n i : Nat} (h : ArmI d n i) : d.downI 1 = decide (n ≤ i) := by
  obtain ⟨w0, l0, w1, h1, h2, h3, h4, h5⟩ := h
  have e1 : (((n - min i n : Nat) : Int) == 0) = decide (n ≤ i) := by rw [Bool.eq_iff_iff, beq_iff_eq, decide_eq_true_iff]; omega
  simp [Dk.downI, Dk.there, Dk.down, h1, h2, -Int.natCast_eq_zero, -beq_eq_false_iff_ne, e1]
theorem ArmI.first {d : Dk} {n i : Nat} (h : ArmI d n i) (x : UInt8) (s : Nat) (hs : s < 4) : d.wrE 1 s [x] = (if n ≤ i then 10 else 0) ∧ ∃ w0 l0 w1, (d.wrD 1 s [x]).size = 4 ∧ (d.wrD 1 s [x]).regs = [⟨w0, false, l0⟩, ⟨w1, true, ((n - min (i + 1) n : Nat) : Int)⟩] ∧ w1.length = min (i + 1) n ∧ w0.length ≤ i ∧ (d.wrD 1 s [x]).writes ≤ 2 * i + 1 := by
  obtain ⟨w0, l0, w1, h1, h2, h3, h4, h5⟩ := h
  have hs' : (s : Int) < 4 := by omega
  by_cases hn : n ≤ i
  · have e1 : n - min i n = 0 := by omega
    have e2 : n - min (i + 1) n = 0 := by omega
    have e3 : min (i + 1) n = min i n := by omega
    rw [e1] at h2
    refine ⟨by simp [Dk.wrE, Dk.there, Dk.down, h1, h2, hs', hn], w0, l0, w1, ?_⟩
    rw [e2, e3]
    have : d.wrD 1 s [x] = d := by simp [Dk.wrD, Dk.there, Dk.down, h1, h2, hs']
    rw [this]
    exact ⟨h1, h2, h3, h4, by omega⟩
  · have e1 : (((n - min i n : Nat) : Int) == 0) = false := by rw [beq_eq_false_iff_ne]; omega
    have e3 : ((n - min i n : Nat) : Int) - 1 = ((n - min (i + 1) n : Nat) : Int) := by omega
    refine ⟨by simp [Dk.wrE, Dk.there, Dk.down, h1, h2, hs', hn, -Int.natCast_eq_zero, -beq_eq_false_iff_ne, e1], w0, l0, w1 ++ [(s, pad [x])], ?_⟩
    have : d.wrD 1 s [x] = d.write 1 s [x] := by simp [Dk.wrD, Dk.there, Dk.down, h1, h2, hs', -Int.natCast_eq_zero, -beq_eq_false_iff_ne, e1]
    rw [this]
    refine ⟨by simp [Dk.write, Dk.setRg, h1], ?_, by simp; omega, h4, by simp [Dk.write]; omega⟩
    rw [← e3]
    simp [Dk.write, Dk.setRg, h2]
theorem ArmI.second {d : Dk} {n i : Nat} (h : ∃ w0 l0 w1, d.size = 4 ∧ d.regs = [⟨w0, false, l0⟩, ⟨w1, true, ((n - min (i + 1) n : Nat) : Int)⟩] ∧ w1.length = min (i + 1) n ∧ w0.length ≤ i ∧ d.writes ≤ 2 * i + 1) : d.wrE 0 0 [] = 0 ∧ ArmI (d.wrD 0 0 []) n (i + 1) := by
  obtain ⟨w0, l0, w1, h1, h2, h3, h4, h5⟩ := h
  refine ⟨by simp [Dk.wrE, Dk.there, Dk.down, h1, h2], w0 ++ [(0, pad [])], l0, w1, ?_⟩
  have : d.wrD 0 0 [] = d.write 0 0 [] := by simp [Dk.wrD, Dk.there, Dk.down, h1, h2]
  rw [this]
  exact ⟨by simp [Dk.write, Dk.setRg, h1], by simp [Dk.write, Dk.setRg, h2], h3, by simp; omega, by simp [Dk.write]; omega⟩
theorem ArmI.room2 {d : Dk} {n i : Nat} (h : ∃ w0 l0 w1, d.size = 4 ∧ d.regs = [⟨w0, false, l0⟩, ⟨w1, true, ((n - min (i + 1) n : Nat) : Int)⟩] ∧ w1.length = min (i + 1) n ∧ w0.length ≤ i ∧ d.writes ≤ 2 * i + 1) (hn : n ≤ 100) (hi : i ≤ 100) : d.Room := by
  obtain ⟨w0, l0, w1, h1, h2, h3, h4, h5⟩ := h
  refine ⟨by omega, fun r hr => ?_⟩
  rw [h2] at hr
  simp only [List.mem_cons, List.not_mem_nil, or_false] at hr
  rcases hr with rfl | rfl
  · simp only; omega
  · simp only; omega
theorem ArmI.bar {d : Dk} {n i : Nat} (h : ArmI d n i) (hi : n ≤ i) : d.barE 1 = 10 ∧ d.barD 1 = d ∧ d.waitsI 1 = n := by
  obtain ⟨w0, l0, w1, h1, h2, h3, h4, h5⟩ := h
  have e1 : n - min i n = 0 := by omega
  rw [e1] at h2
  refine ⟨by simp [Dk.barE, Dk.there, Dk.down, h1, h2], by simp [Dk.barD, Dk.there, Dk.down, h1, h2], ?_⟩
  simp [Dk.waitsI, Dk.there, h1, h2]
  omega
theorem ArmI.anew {d : Dk} {n i : Nat} (h : ArmI d n i) (m : Nat) : ∃ w0 l0 w1, (d.arm 1 m).size = 4 ∧ (d.arm 1 m).regs = [⟨w0, false, l0⟩, ⟨w1, true, (m : Int)⟩] ∧ w1.length = min i n ∧ w0.length ≤ i ∧ (d.arm 1 m).writes ≤ 2 * i := by
  obtain ⟨w0, l0, w1, h1, h2, h3, h4, h5⟩ := h
  refine ⟨w0, l0, w1, ?_⟩
  have : d.arm 1 m = d.setRg 1 ⟨w1, true, max (m : Int) 0⟩ := by simp [Dk.arm, Dk.there, h1, h2]
  rw [this]
  exact ⟨h1, by simp [Dk.setRg, h2], h3, h4, h5⟩
theorem arms_end {d : Dk} {w0 w1 : List (Nat × List UInt8)} {l0 m : Int} (h1 : d.size = 4) (h3 : d.writes < 1000000000) (h2 : d.regs = [⟨w0, false, l0⟩, ⟨w1, true, m⟩]) : d.downI 1 = decide (m = 0) ∧ (d.crash 0).downI 1 = false ∧ (d.crash 0).waitsI 1 = 0 ∧ (d.crash 0).wrE 1 0 [] = 0 ∧ (d.crash 0).Room := by
  have hc : ∃ l1, (d.crash 0).size = 4 ∧ (d.crash 0).writes = d.writes ∧ (d.crash 0).regs = [⟨[], false, l0⟩, ⟨[], false, l1⟩] := by
    refine ⟨m, ?_⟩
    have e : List.range d.regs.length = [0, 1] := by rw [h2]; rfl
    unfold Dk.crash
    rw [e]
    simp [Dk.crashR, Dk.keep, Dk.setRg, h1, h2]
  obtain ⟨l1, e1, e3, e2⟩ := hc
  refine ⟨by rw [Bool.eq_iff_iff]; simp [Dk.downI, Dk.there, Dk.down, h1, h2], by simp [Dk.downI, Dk.there, Dk.down, e1, e2], by simp [Dk.waitsI, Dk.there, e1, e2], by simp [Dk.wrE, Dk.there, Dk.down, e1, e2], by rw [e3]; exact h3, fun r hr => ?_⟩
  rw [e2] at hr
  simp only [List.mem_cons, List.not_mem_nil, or_false] at hr
  rcases hr with rfl | rfl <;> exact Nat.zero_lt_succ _
theorem and_31 (n : Int) : ∃ k : Nat, k < 32 ∧ Go.bits .and .i64 n 31 = (k : Int) := by
  have e : Go.bits .and .i64 n 31 = IntKind.i64.wrap ((((BitVec.ofInt 64 n) &&& (BitVec.ofInt 64 ((31 : Nat) : Int))).toNat : Nat) : Int) := rfl
  refine ⟨(BitVec.ofInt 64 n).toNat % 32, Nat.mod_lt _ (by decide), ?_⟩
  rw [e, BitVec.ofInt_natCast, BitVec.toNat_and, BitVec.toNat_ofNat, Nat.mod_eq_of_lt (show 31 < 2 ^ 64 by decide), show (31 : Nat) = 2 ^ 5 - 1 from rfl, Nat.and_two_pow_sub_one_eq_mod]
  have := Nat.mod_lt (BitVec.ofInt 64 n).toNat (show 0 < 2 ^ 5 by decide)
  rw [IntKind.wrap_i64]
  omega
theorem and_3 (k : Nat) (h : k < 9223372036854775808) : Go.bits .and .i64 (k : Int) 3 = ((k % 4 : Nat) : Int) := by
  have e : Go.bits .and .i64 (k : Int) 3 = IntKind.i64.wrap ((((BitVec.ofInt 64 (k : Int)) &&& (BitVec.ofInt 64 ((3 : Nat) : Int))).toNat : Nat) : Int) := rfl
  rw [e, BitVec.ofInt_natCast, BitVec.ofInt_natCast, BitVec.toNat_and, BitVec.toNat_ofNat, BitVec.toNat_ofNat, Nat.mod_eq_of_lt (by omega), Nat.mod_eq_of_lt (by decide), show (3 : Nat) = 2 ^ 2 - 1 from rfl, Nat.and_two_pow_sub_one_eq_mod, IntKind.wrap_i64]
  omega
set_option maxRecDepth 100000 in
set_option maxHeartbeats 8000000 in
theorem diskArms_any (n m : Int) (w : World) : Calls Try.prog 8 #[.int .i64 n, .int .i64 m] w fun e w' => e = .returned (.bool true) ∧ Keep w w' := by
  go_enter Try.func8, Try.ntmps8
  go_wp2_with fail
  refine (fit_any w).mono ?_
  rintro e w1 ⟨rfl, k1⟩
  go_wp2_with fail
  obtain ⟨N, hN, eN⟩ := and_31 n
  obtain ⟨M, hM, eM⟩ := and_31 m
  rw [eN, eM]
  clear eN eM
  refine (new_ds (Ds.nil k1) 2 4 (by decide) (by decide) (by decide) (by decide)).mono ?_
  rintro e w2 ⟨p, rfl, h2, -⟩
  have h2 : Ds w w2 [(p, newD 2 4)] := h2
  go_wp2_with fail
  refine (arm_ds h2 0 Nat.zero_lt_one p _ rfl 1 N (by omega)).mono ?_
  rintro e w3 ⟨rfl, h3⟩
  have h3 : Ds w w3 [(p, (newD 2 4).arm 1 N)] := h3
  have a3 := armI_zero N
  generalize (newD 2 4).arm 1 N = d3 at *
  clear h2 k1
  go_wp2_with fail
  go_loopw [20] (fun i wr => ∃ (j : Nat) (d : Dk), j ≤ N + 3 ∧ i = .int .i64 j ∧ ArmI d N j ∧ Ds w wr [(p, d)]) (fun i _ => N + 3 - (intOf i).toNat)
  case atStart => exact ⟨0, d3, Nat.zero_le _, rfl, a3, h3⟩
  case round =>
    obtain ⟨j, d, hj, rfl, hA, hd⟩ := hrel
    clear a3 h3
    by_cases hjn : j < N + 3
    rotate_left
    · have hjd : ¬ ((j : Int) < (N : Int) + 3) := by omega
      have hje : N ≤ j := by omega
      obtain ⟨eb1, eb2, eb3⟩ := hA.bar hje
      clear hje
      go_wp2_with fail
      refine (barrier_ds hd 0 Nat.zero_lt_one p _ rfl 1).mono ?_
      rintro e w4 ⟨rfl, h4⟩
      rw [eb1]
      have h4 : Ds w w4 [(p, d.barD 1)] := h4
      rw [eb2] at h4
      go_wp2_with fail
      refine (waits_ds h4 0 Nat.zero_lt_one p _ rfl 1).mono ?_
      rintro e w5 ⟨rfl, rfl⟩
      rw [eb3]
      go_wp2_with fail
      refine (arm_ds h4 0 Nat.zero_lt_one p _ rfl 1 M (by omega)).mono ?_
      rintro e w5 ⟨rfl, h5⟩
      have h5 : Ds w w5 [(p, d.arm 1 M)] := h5
      obtain ⟨x0, l0, x1, q1, q2, q3, q4, q5⟩ := hA.anew M
      obtain ⟨z1, z2, z3, z4, hrm⟩ := arms_end q1 (by omega) q2
      clear eb1 eb2 eb3 q1 q2 q3 q4 q5 hA
      generalize d.arm 1 M = dm at *
      by_cases hM0 : M = 0
      · have tq : ((M : Int) == 0) = true := by rw [hM0]; rfl
        have z1 : dm.downI 1 = true := by rw [z1]; exact decide_eq_true (by omega)
        clear hM0
        go_wp2_with fail
        refine (down_ds h5 0 Nat.zero_lt_one p _ rfl 1).mono ?_
        rintro e w6 ⟨rfl, rfl⟩
        rw [z1]
        go_wp2_with fail
        refine (crash_ds h5 0 Nat.zero_lt_one p _ rfl 0 (by decide)).mono ?_
        rintro e w6 ⟨rfl, h6⟩
        have h6 : Ds w w6 [(p, dm.crash 0)] := h6
        go_wp2_with fail
        refine (down_ds h6 0 Nat.zero_lt_one p _ rfl 1).mono ?_
        rintro e w7 ⟨rfl, rfl⟩
        rw [z2]
        go_wp2_with fail
        refine (waits_ds h6 0 Nat.zero_lt_one p _ rfl 1).mono ?_
        rintro e w7 ⟨rfl, rfl⟩
        rw [z3]
        go_wp2_with fail
        refine (write_ds h6 0 Nat.zero_lt_one p _ rfl 1 0 (.slice none 0 0) [] (SlB.nil _) hrm).mono ?_
        rintro e w7 ⟨rfl, h7⟩
        rw [z4]
        go_wp2
        go_ret
        exact ⟨rfl, h7.k⟩
      · have tq : ((M : Int) == 0) = false := by rw [beq_eq_false_iff_ne]; omega
        have z1 : dm.downI 1 = false := by rw [z1]; exact decide_eq_false (by omega)
        clear hM0
        go_wp2_with fail
        refine (down_ds h5 0 Nat.zero_lt_one p _ rfl 1).mono ?_
        rintro e w6 ⟨rfl, rfl⟩
        rw [z1]
        go_wp2_with fail
        refine (crash_ds h5 0 Nat.zero_lt_one p _ rfl 0 (by decide)).mono ?_
        rintro e w6 ⟨rfl, h6⟩
        have h6 : Ds w w6 [(p, dm.crash 0)] := h6
        go_wp2_with fail
        refine (down_ds h6 0 Nat.zero_lt_one p _ rfl 1).mono ?_
        rintro e w7 ⟨rfl, rfl⟩
        rw [z2]
        go_wp2_with fail
        refine (waits_ds h6 0 Nat.zero_lt_one p _ rfl 1).mono ?_
        rintro e w7 ⟨rfl, rfl⟩
        rw [z3]
        go_wp2_with fail
        refine (write_ds h6 0 Nat.zero_lt_one p _ rfl 1 0 (.slice none 0 0) [] (SlB.nil _) hrm).mono ?_
        rintro e w7 ⟨rfl, h7⟩
        rw [z4]
        go_wp2
        go_ret
        exact ⟨rfl, h7.k⟩
    have hjd : (j : Int) < (N : Int) + 3 := by omega
    have ea := and_3 j (by omega)
    have hK : j % 4 < 4 := Nat.mod_lt _ (by decide)
    generalize j % 4 = K at ea hK
    obtain ⟨f1, f2⟩ := hA.first (UInt8.ofNat j) K hK
    have hr1 := hA.room (by omega) (by omega)
    have hb8 : (UInt8.ofNat j).toNat = j := by simp; omega
    have hr2 := ArmI.room2 f2 (by omega) (by omega)
    obtain ⟨g1, g2⟩ := ArmI.second f2
    have g3 := g2.down
    clear f2
    by_cases hN2 : N ≤ j
    · have t1 : (N : Int) ≤ (j : Int) := by omega
      rw [if_pos hN2] at f1
      have g4 : ((d.wrD 1 K [UInt8.ofNat j]).wrD 0 0 []).downI 1 = true := by rw [g3]; exact decide_eq_true (by omega)
      have t2 : (N : Int) - 1 ≤ (j : Int) := by omega
      clear g3 hN2
      have hbb : SlB (wr.alloc (.cells #[.int .u8 j] 5)) (.slice (some ⟨wr.heap.size, 0, none⟩) 1 1) [UInt8.ofNat j] := by
        have h := slB_one wr (UInt8.ofNat j)
        rw [hb8] at h
        exact h
      have hda := hd.keep (Keep.alloc wr (.cells #[.int .u8 j] 5))
      have hjw : (j : Int) + 1 ≤ (N : Int) + 3 := by omega
      go_wp2_with fail
      refine (write_ds hda 0 Nat.zero_lt_one p _ rfl 1 K _ [UInt8.ofNat j] hbb hr1).mono ?_
      rintro e w4 ⟨rfl, h4⟩
      have h4 : Ds w w4 [(p, d.wrD 1 K [UInt8.ofNat j])] := h4
      rw [f1]
      clear hda hbb hd f1 hr1 hA
      generalize d.wrD 1 K [UInt8.ofNat j] = da at *
      go_wp2_with fail
      refine (write_ds h4 0 Nat.zero_lt_one p _ rfl 0 0 (.slice none 0 0) [] (SlB.nil _) hr2).mono ?_
      rintro e w5 ⟨rfl, h5⟩
      have h5 : Ds w w5 [(p, da.wrD 0 0 [])] := h5
      rw [g1]
      clear h4 g1 hr2
      generalize da.wrD 0 0 [] = db at *
      go_wp2_with fail
      refine (down_ds h5 0 Nat.zero_lt_one p _ rfl 1).mono ?_
      rintro e w6 ⟨rfl, rfl⟩
      rw [g4]
      go_wp2
      go_roundw
      case rel => exact ⟨j + 1, db, by omega, by go_num, g2, h5⟩
      case measure => simp [intOf]; omega
    · have t1 : ¬ ((N : Int) ≤ (j : Int)) := by omega
      rw [if_neg hN2] at f1
      by_cases hN3 : N ≤ j + 1
      · have g4 : ((d.wrD 1 K [UInt8.ofNat j]).wrD 0 0 []).downI 1 = true := by rw [g3]; exact decide_eq_true (by omega)
        have t2 : (N : Int) - 1 ≤ (j : Int) := by omega
        clear g3 hN2 hN3
        have hbb : SlB (wr.alloc (.cells #[.int .u8 j] 5)) (.slice (some ⟨wr.heap.size, 0, none⟩) 1 1) [UInt8.ofNat j] := by
          have h := slB_one wr (UInt8.ofNat j)
          rw [hb8] at h
          exact h
        have hda := hd.keep (Keep.alloc wr (.cells #[.int .u8 j] 5))
        have hjw : (j : Int) + 1 ≤ (N : Int) + 3 := by omega
        go_wp2_with fail
        refine (write_ds hda 0 Nat.zero_lt_one p _ rfl 1 K _ [UInt8.ofNat j] hbb hr1).mono ?_
        rintro e w4 ⟨rfl, h4⟩
        have h4 : Ds w w4 [(p, d.wrD 1 K [UInt8.ofNat j])] := h4
        rw [f1]
        clear hda hbb hd f1 hr1 hA
        generalize d.wrD 1 K [UInt8.ofNat j] = da at *
        go_wp2_with fail
        refine (write_ds h4 0 Nat.zero_lt_one p _ rfl 0 0 (.slice none 0 0) [] (SlB.nil _) hr2).mono ?_
        rintro e w5 ⟨rfl, h5⟩
        have h5 : Ds w w5 [(p, da.wrD 0 0 [])] := h5
        rw [g1]
        clear h4 g1 hr2
        generalize da.wrD 0 0 [] = db at *
        go_wp2_with fail
        refine (down_ds h5 0 Nat.zero_lt_one p _ rfl 1).mono ?_
        rintro e w6 ⟨rfl, rfl⟩
        rw [g4]
        go_wp2
        go_roundw
        case rel => exact ⟨j + 1, db, by omega, by go_num, g2, h5⟩
        case measure => simp [intOf]; omega
      · have g4 : ((d.wrD 1 K [UInt8.ofNat j]).wrD 0 0 []).downI 1 = false := by rw [g3]; exact decide_eq_false (by omega)
        have t2 : ¬ ((N : Int) - 1 ≤ (j : Int)) := by omega
        clear g3 hN2 hN3
        have hbb : SlB (wr.alloc (.cells #[.int .u8 j] 5)) (.slice (some ⟨wr.heap.size, 0, none⟩) 1 1) [UInt8.ofNat j] := by
          have h := slB_one wr (UInt8.ofNat j)
          rw [hb8] at h
          exact h
        have hda := hd.keep (Keep.alloc wr (.cells #[.int .u8 j] 5))
        have hjw : (j : Int) + 1 ≤ (N : Int) + 3 := by omega
        go_wp2_with fail
        refine (write_ds hda 0 Nat.zero_lt_one p _ rfl 1 K _ [UInt8.ofNat j] hbb hr1).mono ?_
        rintro e w4 ⟨rfl, h4⟩
        have h4 : Ds w w4 [(p, d.wrD 1 K [UInt8.ofNat j])] := h4
        rw [f1]
        clear hda hbb hd f1 hr1 hA
        generalize d.wrD 1 K [UInt8.ofNat j] = da at *
        go_wp2_with fail
        refine (write_ds h4 0 Nat.zero_lt_one p _ rfl 0 0 (.slice none 0 0) [] (SlB.nil _) hr2).mono ?_
        rintro e w5 ⟨rfl, h5⟩
        have h5 : Ds w w5 [(p, da.wrD 0 0 [])] := h5
        rw [g1]
        clear h4 g1 hr2
        generalize da.wrD 0 0 [] = db at *
        go_wp2_with fail
        refine (down_ds h5 0 Nat.zero_lt_one p _ rfl 1).mono ?_
        rintro e w6 ⟨rfl, rfl⟩
        rw [g4]
        go_wp2
        go_roundw
        case rel => exact ⟨j + 1, db, by omega, by go_num, g2, h5⟩
        case measure => simp [intOf]; omega
end Go.Proofs.Ytnbadlhkcpjjmaa
