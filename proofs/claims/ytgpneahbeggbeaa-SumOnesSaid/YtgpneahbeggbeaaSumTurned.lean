/- The walk of SumTurned. -/
import Derived.Test.YtgpneahbeggbeaaSumZeros
import Derived.Deep.Cut
import Derived.RegionTactic
namespace Go.Proofs.Ytgpneahbeggbeaa
open Go.RowKit
attribute [local irreducible] Go.wpQuiet

theorem elemB : ElemOk Try.prog 22 5 (.int .u8 0) 1 := ElemOk.of Try.underlying22 (by kernel_rfl) rfl

theorem and7 (x : Int) : ∃ q : Nat, q < 8 ∧ Go.bits .and .i64 x 7 = (q : Int) := by
  have h : (BitVec.ofInt 64 x &&& 7#64).toNat ≤ 7 := by
    rw [BitVec.toNat_and]
    exact Nat.and_le_right
  refine ⟨(BitVec.ofInt 64 x &&& 7#64).toNat, by omega, ?_⟩
  show IntKind.i64.wrap (((BitVec.ofInt 64 x &&& BitVec.ofInt 64 7).toNat : Nat) : Int) = _
  rw [show (BitVec.ofInt 64 7 : BitVec 64) = 7#64 from rfl, IntKind.wrap_i64]
  omega

/-- a byte with one bit turned -/
theorem bit_turned (b : UInt8) (q : Nat) (hq : q < 8) : ∃ c : UInt8, c ≠ b ∧ Go.bits .xor .u8 (b.toNat : Int) (2 ^ q % 256) = (c.toNat : Int) := by
  have hb := b.toNat_lt
  have hp : (2 : Nat) ^ q < 256 := by
    have : (2 : Nat) ^ q < 2 ^ 8 := (Nat.pow_lt_pow_iff_right (by decide)).2 hq
    omega
  have hx : b.toNat ^^^ 2 ^ q < 256 := Nat.xor_lt_two_pow (n := 8) hb hp
  refine ⟨UInt8.ofNat (b.toNat ^^^ 2 ^ q), ?_, ?_⟩
  · intro he
    have h1 := congrArg UInt8.toNat he
    rw [UInt8.toNat_ofNat', Nat.mod_eq_of_lt hx] at h1
    have h2 := congrArg (fun n => b.toNat ^^^ n) h1
    simp only [← Nat.xor_assoc, Nat.xor_self, Nat.zero_xor] at h2
    have : 0 < 2 ^ q := Nat.two_pow_pos q
    omega
  · rw [UInt8.toNat_ofNat', Nat.mod_eq_of_lt hx]
    have h2 : ((2 : Int) ^ q % 256) = ((2 ^ q : Nat) : Int) := by
      have : ((2 : Int) ^ q) = ((2 ^ q : Nat) : Int) := by simp
      rw [this]
      generalize 2 ^ q = p at *
      omega
    rw [h2]
    simp only [Go.bits, BitVec.ofInt_natCast, IntKind.wrap_u8]
    show (((BitVec.ofNat 8 b.toNat ^^^ BitVec.ofNat 8 (2 ^ q)).toNat : Nat) : Int) % 256 = _
    rw [BitVec.toNat_xor, BitVec.toNat_ofNat, BitVec.toNat_ofNat, Nat.mod_eq_of_lt hb, Nat.mod_eq_of_lt hp]
    omega

theorem cn_beq {c d : BitVec 32} (h : c ≠ d) : (cn c == cn d) = false := by
  rw [beq_eq_false_iff_ne]
  exact fun he => h (cn_inj.1 he)

theorem turned_set (l : List UInt8) (k : Nat) (c : UInt8) : (l.map B).set k (.int .u8 (c.toNat : Int)) = (l.set k c).map B := by
  rw [List.map_set]; rfl

set_option maxHeartbeats 2000000 in
theorem sumTurned_main (v : Value) (l : List UInt8) (at_ bit : Int) (w : World) (hv : SlB w v l) (hl0 : 0 < l.length) (hl3 : l.length ≤ 300) :
    Calls Try.prog 4 #[v, .int .i64 at_, .int .i64 bit] w fun e w' => e = .returned (.bool true) ∧ Keep w w' := by
  have hv0 := hv
  obtain ⟨ao, cap, rfl, hm, hcap, hc⟩ := hv.form
  clear hv
  unfold maxLen at hm
  obtain ⟨b, off, rfl, -⟩ := hc 0 hl0
  have hcell : ∀ i (h : i < l.length), w.cell? ⟨b, off + i, none⟩ = some (.int .u8 (l[i].toNat : Int)) := fun i h => by
    obtain ⟨b', off', ha, h2⟩ := hc i h
    cases ha
    exact h2
  have HC := Lib.hid hcell
  clear hc hcell
  have b0 : ((l.length : Int) == 0) = false := beq_eq_false_iff_ne.2 (by omega)
  have b1 : decide ((300 : Int) < (l.length : Int)) = false := decide_eq_false (by omega)
  have t1 := Int.tmod_lt_of_pos at_ (show (0 : Int) < l.length by omega)
  have t2 := Int.tmod_lt_of_pos (-at_) (show (0 : Int) < l.length by omega)
  rw [Int.neg_tmod] at t2
  obtain ⟨q, hq, hqe⟩ := and7 bit
  go_enter Try.func4, Try.ntmps4
  go_wp2_with fail
  refine (fit_any _).mono ?_
  rintro e w1 ⟨rfl, hk1⟩
  go_upto_region 6 with (fail)
  have hg0 : 0 ≤ (at_.tmod l.length + l.length) % (l.length : Int) := Int.emod_nonneg _ (by omega)
  have hg1 : (at_.tmod l.length + l.length) % (l.length : Int) < l.length := Int.emod_lt_of_pos _ (by omega)
  obtain ⟨k, hk⟩ := Int.eq_ofNat_of_zero_le hg0
  rw [hk] at hg1 ⊢
  clear hk hg0 t1 t2 hqe
  have hk2 : k < l.length := by omega
  clear hg1
  -- c := append(nil, b...)
  refine wp_region_seq ?_
  refine seqW_pure rfl ?_
  go_big_quiet_step (fail)
  refine seqW_on ?_
  refine seqW_gives rfl ?_
  refine Gives.appendB (l := []) (k := l) elemB _ _ rfl rfl rfl (Own.nil w1 w1.heap.size _) (hv0.keep hk1) (by simp; omega) (Nat.le_refl _) ?_
  intro v2 w2 ho2 hgr2
  have hgr : w1.grownBy w2 none := hgr2
  have hk2w : Keep w1 w2 := (Below.refl _ _).grown hgr (Nat.le_refl _) (fun j hj => by cases hj)
  clear hgr2 hgr
  rw [List.nil_append] at ho2
  obtain ⟨g, c2, rfl, hg1, hg2⟩ := ho2.head (by simpa using hl0)
  rw [List.length_map] at ho2 ⊢
  simp only [Act.put, List.setIfInBounds_toArray, List.set_cons_zero, List.set_cons_succ]
  refine seqW_pure rfl ?_
  go_big_quiet_step (fail)
  refine seqW_on ?_
  refine seqW_done ?_
  have hcc : w2.cell? ⟨g, k, none⟩ = some (.int .u8 (l[k].toNat : Int)) := by
    have := ho2.cellOf k (by simpa using hk2)
    simpa [B] using this
  have hff := ho2.freeOf k
  go_wp2_with fail
  go_region
  go_wp2_with fail
  obtain ⟨c8, hc8, hce⟩ := bit_turned l[k] q hq
  rw [hce]
  have ho3 := ho2.stored k (.int .u8 (c8.toNat : Int))
  rw [turned_set] at ho3
  have hk3 : Keep w1 (w2.setCell ⟨g, k, none⟩ (.int .u8 (c8.toNat : Int))) := Keep.setCell hk2w hg1 _
  have hs3 : w2.heap.size = (w2.setCell ⟨g, k, none⟩ (.int .u8 (c8.toNat : Int))).heap.size := by simp
  clear hcc hff hce ho2 hk2w
  rw [hs3]
  clear hs3
  generalize w2.setCell ⟨g, k, none⟩ (.int .u8 (c8.toNat : Int)) = w3 at *
  refine (of_any _ [l.set k c8] _ (one_part (W := (w3.alloc (.cells #[.slice (some ⟨g, 0, none⟩) l.length c2] 22)).drew) 22 (heap_new w3 _ _ rfl) (ho3.slB.keep (Keep.alloc _ _).drew))).mono ?_
  rintro e w' ⟨rfl, rfl⟩
  rw [show ([l.set k c8] : List (List UInt8)).flatten = l.set k c8 by simp]
  have hne := cn_beq (Crc.sum_set_ne l k hk2 c8 hc8)
  generalize hW4 : (w3.alloc (.cells #[.slice (some ⟨g, 0, none⟩) l.length c2] 22)).drew = w4
  have hk4 : Keep w1 w4 := hW4 ▸ (hk3.trans' (Keep.alloc _ _)).drew
  clear hW4 hc8 ho3 hk3
  go_wp2_with fail
  refine (of_any _ [l] _ (one_part (W := w4.alloc (.cells #[.slice (some ⟨b, off, none⟩) l.length cap] 22)) 22 (heap_new w4 _ _ rfl) (hv0.keep ((hk1.trans' hk4).trans' (Keep.alloc _ _))))).mono ?_
  rintro e w' ⟨rfl, rfl⟩
  rw [show ([l] : List (List UInt8)).flatten = l by simp]
  generalize hW5 : w4.alloc (.cells #[.slice (some ⟨b, off, none⟩) l.length cap] 22) = w5
  have hk5 : Keep w1 w5 := hW5 ▸ (hk4.trans' (Keep.alloc _ _))
  clear hW5 hk4
  go_upto_region 10 with (fail)
  refine wp_region_seq ?_
  refine seqW_pure rfl ?_
  go_big_quiet_step (fail)
  refine seqW_on ?_
  refine seqW_gives rfl ?_
  refine Gives.appendB (l := []) (k := l) elemB _ _ rfl rfl rfl (Own.nil w5 w5.heap.size _) (hv0.keep (hk1.trans' hk5)) (by simp; omega) (Nat.le_refl _) ?_
  intro v6 w6 ho6 hgr2
  have hgr : w5.grownBy w6 none := hgr2
  have hk6 : Keep w1 w6 := hk5.trans' ((Below.refl _ _).grown hgr (Nat.le_refl _) (fun j hj => by cases hj))
  have hsz6 := hk5.size
  clear hgr2 hgr hk5
  rw [List.nil_append] at ho6
  obtain ⟨g6, c6, rfl, hg61, hg62⟩ := ho6.head (by simpa using hl0)
  rw [List.length_map] at ho6 ⊢
  simp only [Act.put, List.setIfInBounds_toArray, List.set_cons_zero, List.set_cons_succ]
  refine seqW_pure rfl ?_
  go_big_quiet_step (fail)
  refine seqW_on ?_
  refine seqW_done ?_
  by_cases hlast : k + 1 = l.length
  · have hrem : ((k : Int) + 1) % (l.length : Int) = 0 := by
      rw [show (k : Int) + 1 = (l.length : Int) by omega]; exact Int.emod_self
    go_upto_region 12 with (fail)
    rw [hrem]
    clear hrem hne
    have hc0 : w6.cell? ⟨g6, 0, none⟩ = some (.int .u8 (l[0].toNat : Int)) := by
      have := ho6.cellOf 0 (by simp; omega)
      simpa [B] using this
    have hf0 := ho6.freeOf 0
    have hck : w6.cell? ⟨g6, k, none⟩ = some (.int .u8 (l[k].toNat : Int)) := by
      have := ho6.cellOf k (by simp; omega)
      simpa [B] using this
    have hfk := ho6.freeOf k
    by_cases hk0 : k = 0
    · subst hk0
      go_region
      go_upto_region 13 with (fail)
      have hk7 : Keep w1 ((w6.setCell ⟨g6, 0, none⟩ (.int .u8 (l[0].toNat : Int))).setCell ⟨g6, 0, none⟩ (.int .u8 (l[0].toNat : Int))).drew := (Keep.setCell (Keep.setCell hk6 (Nat.le_trans hsz6 hg61) _) (Nat.le_trans hsz6 hg61) _).drew
      generalize ((w6.setCell ⟨g6, 0, none⟩ (.int .u8 (l[0].toNat : Int))).setCell ⟨g6, 0, none⟩ (.int .u8 (l[0].toNat : Int))).drew = w7 at *
      clear hc0 hf0 hck hfk hk6 ho6 hlast b0 b1
      refine wp_region_dag' (C := fun w' => Keep w7 w') (R := Keep) [none, none, none, none, none, none, none, none, none, none, none, none, none, none, none, none, none, none, none, none, none, none, none] (by kernel_rfl) (by kernel_rfl) (Keep.refl w7).drew ?_
      refine dagT_pure rfl ?_
      go_big_quiet_step (fail)
      refine dagT_on ?_
      refine dagT_pure rfl ?_
      go_big_quiet_step (fail)
      refine dagT_on ?_
      refine dagT_pure rfl ?_
      go_big_quiet_step (fail)
      refine dagT_on ?_
      refine dagT_skip (by kernel_rfl) ?_
      simp only [Act.put, List.setIfInBounds_toArray, List.set_cons_zero, List.set_cons_succ]
      refine dagT_skip (by kernel_rfl) ?_
      simp only [Act.put, List.setIfInBounds_toArray, List.set_cons_zero, List.set_cons_succ]
      refine dagT_skip (by kernel_rfl) ?_
      simp only [Act.put, List.setIfInBounds_toArray, List.set_cons_zero, List.set_cons_succ]
      refine dagT_skip (by kernel_rfl) ?_
      simp only [Act.put, List.setIfInBounds_toArray, List.set_cons_zero, List.set_cons_succ]
      refine dagT_skip (by kernel_rfl) ?_
      simp only [Act.put, List.setIfInBounds_toArray, List.set_cons_zero, List.set_cons_succ]
      refine dagT_skip (by kernel_rfl) ?_
      simp only [Act.put, List.setIfInBounds_toArray, List.set_cons_zero, List.set_cons_succ]
      refine dagT_skip (by kernel_rfl) ?_
      simp only [Act.put, List.setIfInBounds_toArray, List.set_cons_zero, List.set_cons_succ]
      refine dagT_skip (by kernel_rfl) ?_
      simp only [Act.put, List.setIfInBounds_toArray, List.set_cons_zero, List.set_cons_succ]
      refine dagT_skip (by kernel_rfl) ?_
      simp only [Act.put, List.setIfInBounds_toArray, List.set_cons_zero, List.set_cons_succ]
      refine dagT_pure rfl ?_
      go_big_quiet_step (fail)
      refine dagT_on ?_
      refine dagT_pure rfl ?_
      go_big_quiet_step (fail)
      refine dagT_on ?_
      refine dagT_skip (by kernel_rfl) ?_
      simp only [Act.put, List.setIfInBounds_toArray, List.set_cons_zero, List.set_cons_succ]
      refine dagT_skip (by kernel_rfl) ?_
      simp only [Act.put, List.setIfInBounds_toArray, List.set_cons_zero, List.set_cons_succ]
      refine dagT_skip (by kernel_rfl) ?_
      simp only [Act.put, List.setIfInBounds_toArray, List.set_cons_zero, List.set_cons_succ]
      refine dagT_skip (by kernel_rfl) ?_
      simp only [Act.put, List.setIfInBounds_toArray, List.set_cons_zero, List.set_cons_succ]
      refine dagT_skip (by kernel_rfl) ?_
      simp only [Act.put, List.setIfInBounds_toArray, List.set_cons_zero, List.set_cons_succ]
      refine dagT_skip (by kernel_rfl) ?_
      simp only [Act.put, List.setIfInBounds_toArray, List.set_cons_zero, List.set_cons_succ]
      refine dagT_skip (by kernel_rfl) ?_
      simp only [Act.put, List.setIfInBounds_toArray, List.set_cons_zero, List.set_cons_succ]
      refine dagT_pure rfl ?_
      go_big_quiet_step (fail)
      refine dagT_on ?_
      refine dagT_pure rfl ?_
      go_big_quiet_step (fail)
      refine dagT_on ?_
      refine dagT_done ?_
      intro w2 hC hF
      go_wp2
      go_ret
      exact ⟨rfl, hk1.trans' (hk7.trans' hC)⟩
    · go_region
      go_upto_region 13 with (fail)
      have hk7 : Keep w1 ((w6.setCell ⟨g6, k, none⟩ (.int .u8 (l[0].toNat : Int))).setCell ⟨g6, 0, none⟩ (.int .u8 (l[k].toNat : Int))).drew := (Keep.setCell (Keep.setCell hk6 (Nat.le_trans hsz6 hg61) _) (Nat.le_trans hsz6 hg61) _).drew
      generalize ((w6.setCell ⟨g6, k, none⟩ (.int .u8 (l[0].toNat : Int))).setCell ⟨g6, 0, none⟩ (.int .u8 (l[k].toNat : Int))).drew = w7 at *
      clear hc0 hf0 hck hfk hk6 ho6 hlast b0 b1
      refine wp_region_dag' (C := fun w' => Keep w7 w') (R := Keep) [none, none, none, none, none, none, none, none, none, none, none, none, none, none, none, none, none, none, none, none, none, none, none] (by kernel_rfl) (by kernel_rfl) (Keep.refl w7).drew ?_
      refine dagT_pure rfl ?_
      go_big_quiet_step (fail)
      refine dagT_on ?_
      refine dagT_pure rfl ?_
      go_big_quiet_step (fail)
      refine dagT_on ?_
      refine dagT_pure rfl ?_
      go_big_quiet_step (fail)
      refine dagT_on ?_
      refine dagT_skip (by kernel_rfl) ?_
      simp only [Act.put, List.setIfInBounds_toArray, List.set_cons_zero, List.set_cons_succ]
      refine dagT_skip (by kernel_rfl) ?_
      simp only [Act.put, List.setIfInBounds_toArray, List.set_cons_zero, List.set_cons_succ]
      refine dagT_skip (by kernel_rfl) ?_
      simp only [Act.put, List.setIfInBounds_toArray, List.set_cons_zero, List.set_cons_succ]
      refine dagT_skip (by kernel_rfl) ?_
      simp only [Act.put, List.setIfInBounds_toArray, List.set_cons_zero, List.set_cons_succ]
      refine dagT_skip (by kernel_rfl) ?_
      simp only [Act.put, List.setIfInBounds_toArray, List.set_cons_zero, List.set_cons_succ]
      refine dagT_skip (by kernel_rfl) ?_
      simp only [Act.put, List.setIfInBounds_toArray, List.set_cons_zero, List.set_cons_succ]
      refine dagT_skip (by kernel_rfl) ?_
      simp only [Act.put, List.setIfInBounds_toArray, List.set_cons_zero, List.set_cons_succ]
      refine dagT_skip (by kernel_rfl) ?_
      simp only [Act.put, List.setIfInBounds_toArray, List.set_cons_zero, List.set_cons_succ]
      refine dagT_skip (by kernel_rfl) ?_
      simp only [Act.put, List.setIfInBounds_toArray, List.set_cons_zero, List.set_cons_succ]
      refine dagT_pure rfl ?_
      go_big_quiet_step (fail)
      refine dagT_on ?_
      refine dagT_pure rfl ?_
      go_big_quiet_step (fail)
      refine dagT_on ?_
      refine dagT_skip (by kernel_rfl) ?_
      simp only [Act.put, List.setIfInBounds_toArray, List.set_cons_zero, List.set_cons_succ]
      refine dagT_skip (by kernel_rfl) ?_
      simp only [Act.put, List.setIfInBounds_toArray, List.set_cons_zero, List.set_cons_succ]
      refine dagT_skip (by kernel_rfl) ?_
      simp only [Act.put, List.setIfInBounds_toArray, List.set_cons_zero, List.set_cons_succ]
      refine dagT_skip (by kernel_rfl) ?_
      simp only [Act.put, List.setIfInBounds_toArray, List.set_cons_zero, List.set_cons_succ]
      refine dagT_skip (by kernel_rfl) ?_
      simp only [Act.put, List.setIfInBounds_toArray, List.set_cons_zero, List.set_cons_succ]
      refine dagT_skip (by kernel_rfl) ?_
      simp only [Act.put, List.setIfInBounds_toArray, List.set_cons_zero, List.set_cons_succ]
      refine dagT_skip (by kernel_rfl) ?_
      simp only [Act.put, List.setIfInBounds_toArray, List.set_cons_zero, List.set_cons_succ]
      refine dagT_pure rfl ?_
      go_big_quiet_step (fail)
      refine dagT_on ?_
      refine dagT_pure rfl ?_
      go_big_quiet_step (fail)
      refine dagT_on ?_
      refine dagT_done ?_
      intro w2 hC hF
      go_wp2
      go_ret
      exact ⟨rfl, hk1.trans' (hk7.trans' hC)⟩
  · have hrem : ((k : Int) + 1) % (l.length : Int) = (k : Int) + 1 := Int.emod_eq_of_lt (by omega) (by omega)
    go_upto_region 12 with (fail)
    rw [hrem]
    clear hrem hne
    have hk1l : k + 1 < l.length := by omega
    have hc0 : w6.cell? ⟨g6, k + 1, none⟩ = some (.int .u8 (l[k + 1].toNat : Int)) := by
      have := ho6.cellOf (k + 1) (by simp; omega)
      simpa [B] using this
    have hf0 := ho6.freeOf (k + 1)
    have hck : w6.cell? ⟨g6, k, none⟩ = some (.int .u8 (l[k].toNat : Int)) := by
      have := ho6.cellOf k (by simp; omega)
      simpa [B] using this
    have hfk := ho6.freeOf k
    go_region
    go_upto_region 13 with (fail)
    have ho7 : SlB ((w6.setCell ⟨g6, k, none⟩ (.int .u8 (l[k + 1].toNat : Int))).setCell ⟨g6, k + 1, none⟩ (.int .u8 (l[k].toNat : Int))).drew (.slice (some ⟨g6, 0, none⟩) l.length c6) ((l.set k l[k + 1]).set (k + 1) l[k]) := by
      have h1 := (ho6.stored k (.int .u8 (l[k + 1].toNat : Int))).stored (k + 1) (.int .u8 (l[k].toNat : Int))
      rw [turned_set, turned_set] at h1
      exact h1.slB.keep (Keep.refl _).drew
    have hk7 : Keep w1 ((w6.setCell ⟨g6, k, none⟩ (.int .u8 (l[k + 1].toNat : Int))).setCell ⟨g6, k + 1, none⟩ (.int .u8 (l[k].toNat : Int))).drew := (Keep.setCell (Keep.setCell hk6 (Nat.le_trans hsz6 hg61) _) (Nat.le_trans hsz6 hg61) _).drew
    generalize ((w6.setCell ⟨g6, k, none⟩ (.int .u8 (l[k + 1].toNat : Int))).setCell ⟨g6, k + 1, none⟩ (.int .u8 (l[k].toNat : Int))).drew = w7 at *
    clear hc0 hf0 hck hfk hk6 ho6
    have hbz : ((k : Int) + 1 == 0) = false := beq_eq_false_iff_ne.2 (by omega)
    by_cases heq : l[k] = l[k + 1]
    · have hbq : ((l[k].toNat : Int) == (l[k + 1].toNat : Int)) = true := by rw [heq]; exact beq_self_eq_true _
      have HQ := Lib.hid heq
      clear heq
      refine wp_region_dag' (C := fun w' => Keep w7 w') (R := Keep) [none, none, none, none, none, none, some (tV (.int .u8 (l[k].toNat : Int))), none, none, none, some (tV (.int .u8 (l[k + 1].toNat : Int))), none, none, none, none, none, none, none, none, none, none, none, none] (by kernel_rfl) (by kernel_rfl) (Keep.refl w7).drew ?_
      refine dagT_pure rfl ?_
      go_big_quiet_step (fail)
      refine dagT_on ?_
      refine dagT_pure rfl ?_
      go_big_quiet_step (fail)
      refine dagT_on ?_
      refine dagT_pure rfl ?_
      go_big_quiet_step (fail)
      refine dagT_on ?_
      refine dagT_pure rfl ?_
      go_big_quiet_step (fail)
      refine dagT_on ?_
      refine dagT_pure rfl ?_
      go_big_quiet_step (fail)
      refine dagT_on ?_
      refine dagT_pure rfl ?_
      go_big_quiet_step (fail)
      refine dagT_on ?_
      refine dagT_told (by kernel_rfl) ?_ ?_
      · intro w2 hC hF
        have hcl : w2.cell? ⟨b, off + k, none⟩ = some (.int .u8 (l[k].toNat : Int)) := ((hk1.trans' (hk7.trans' hC)).cell (World.block_lt_of_cell? w _ (HC.out k (by omega)))).trans (HC.out k (by omega))
        refine Gives.value (v := .int .u8 (l[k].toNat : Int)) (w' := w2) (by go_simp) ?_
        exact ⟨hC, Keep.refl _, rfl⟩
      intro v w2 hC hF hv
      clear hC hF
      simp only [Act.put, List.setIfInBounds_toArray, List.set_cons_zero, List.set_cons_succ]
      obtain rfl := hv
      refine dagT_pure rfl ?_
      go_big_quiet_step (fail)
      refine dagT_on ?_
      refine dagT_pure rfl ?_
      go_big_quiet_step (fail)
      refine dagT_on ?_
      refine dagT_pure rfl ?_
      go_big_quiet_step (fail)
      refine dagT_on ?_
      refine dagT_told (by kernel_rfl) ?_ ?_
      · intro w2 hC hF
        have hcl : w2.cell? ⟨b, off + (k + 1), none⟩ = some (.int .u8 (l[k + 1].toNat : Int)) := ((hk1.trans' (hk7.trans' hC)).cell (World.block_lt_of_cell? w _ (HC.out (k + 1) (by omega)))).trans (HC.out (k + 1) (by omega))
        refine Gives.value (v := .int .u8 (l[k + 1].toNat : Int)) (w' := w2) (by go_simp) ?_
        exact ⟨hC, Keep.refl _, rfl⟩
      intro v w2 hC hF hv
      clear hC hF
      simp only [Act.put, List.setIfInBounds_toArray, List.set_cons_zero, List.set_cons_succ]
      obtain rfl := hv
      refine dagT_pure rfl ?_
      go_big_quiet_step (fail)
      refine dagT_on ?_
      refine dagT_pure rfl ?_
      go_big_quiet_step (fail)
      refine dagT_on ?_
      refine dagT_pure rfl ?_
      go_big_quiet_step (fail)
      refine dagT_on ?_
      refine dagT_skip (by kernel_rfl) ?_
      simp only [Act.put, List.setIfInBounds_toArray, List.set_cons_zero, List.set_cons_succ]
      refine dagT_skip (by kernel_rfl) ?_
      simp only [Act.put, List.setIfInBounds_toArray, List.set_cons_zero, List.set_cons_succ]
      refine dagT_skip (by kernel_rfl) ?_
      simp only [Act.put, List.setIfInBounds_toArray, List.set_cons_zero, List.set_cons_succ]
      refine dagT_skip (by kernel_rfl) ?_
      simp only [Act.put, List.setIfInBounds_toArray, List.set_cons_zero, List.set_cons_succ]
      refine dagT_skip (by kernel_rfl) ?_
      simp only [Act.put, List.setIfInBounds_toArray, List.set_cons_zero, List.set_cons_succ]
      refine dagT_skip (by kernel_rfl) ?_
      simp only [Act.put, List.setIfInBounds_toArray, List.set_cons_zero, List.set_cons_succ]
      refine dagT_skip (by kernel_rfl) ?_
      simp only [Act.put, List.setIfInBounds_toArray, List.set_cons_zero, List.set_cons_succ]
      refine dagT_pure rfl ?_
      go_big_quiet_step (fail)
      refine dagT_on ?_
      refine dagT_pure rfl ?_
      go_big_quiet_step (fail)
      refine dagT_on ?_
      refine dagT_done ?_
      intro w2 hC hF
      go_wp2
      go_ret
      exact ⟨rfl, hk1.trans' (hk7.trans' hC)⟩
    · have hbq : ((l[k].toNat : Int) == (l[k + 1].toNat : Int)) = false := beq_eq_false_iff_ne.2 (fun h => heq (UInt8.toNat_inj.1 (by omega)))
      have hne := cn_ne (Crc.sum_swap_ne l k hk1l heq)
      have HQ := Lib.hid heq
      clear heq
      generalize (l.set k l[k + 1]).set (k + 1) l[k] = ls at *
      refine wp_region_dag' (C := fun w' => Keep w7 w') (R := Keep) [none, none, none, none, none, none, some (tV (.int .u8 (l[k].toNat : Int))), none, none, none, some (tV (.int .u8 (l[k + 1].toNat : Int))), none, none, none, none, some (tBB [ls]), some (tV (.int .u32 (cn (Crc.sum ls)))), none, some (tBB [l]), some (tV (.int .u32 (cn (Crc.sum l)))), none, none, none] (by kernel_rfl) (by kernel_rfl) (Keep.refl w7).drew ?_
      refine dagT_pure rfl ?_
      go_big_quiet_step (fail)
      refine dagT_on ?_
      refine dagT_pure rfl ?_
      go_big_quiet_step (fail)
      refine dagT_on ?_
      refine dagT_pure rfl ?_
      go_big_quiet_step (fail)
      refine dagT_on ?_
      refine dagT_pure rfl ?_
      go_big_quiet_step (fail)
      refine dagT_on ?_
      refine dagT_pure rfl ?_
      go_big_quiet_step (fail)
      refine dagT_on ?_
      refine dagT_pure rfl ?_
      go_big_quiet_step (fail)
      refine dagT_on ?_
      refine dagT_told (by kernel_rfl) ?_ ?_
      · intro w2 hC hF
        have hcl : w2.cell? ⟨b, off + k, none⟩ = some (.int .u8 (l[k].toNat : Int)) := ((hk1.trans' (hk7.trans' hC)).cell (World.block_lt_of_cell? w _ (HC.out k (by omega)))).trans (HC.out k (by omega))
        refine Gives.value (v := .int .u8 (l[k].toNat : Int)) (w' := w2) (by go_simp) ?_
        exact ⟨hC, Keep.refl _, rfl⟩
      intro v w2 hC hF hv
      clear hC hF
      simp only [Act.put, List.setIfInBounds_toArray, List.set_cons_zero, List.set_cons_succ]
      obtain rfl := hv
      refine dagT_pure rfl ?_
      go_big_quiet_step (fail)
      refine dagT_on ?_
      refine dagT_pure rfl ?_
      go_big_quiet_step (fail)
      refine dagT_on ?_
      refine dagT_pure rfl ?_
      go_big_quiet_step (fail)
      refine dagT_on ?_
      refine dagT_told (by kernel_rfl) ?_ ?_
      · intro w2 hC hF
        have hcl : w2.cell? ⟨b, off + (k + 1), none⟩ = some (.int .u8 (l[k + 1].toNat : Int)) := ((hk1.trans' (hk7.trans' hC)).cell (World.block_lt_of_cell? w _ (HC.out (k + 1) (by omega)))).trans (HC.out (k + 1) (by omega))
        refine Gives.value (v := .int .u8 (l[k + 1].toNat : Int)) (w' := w2) (by go_simp) ?_
        exact ⟨hC, Keep.refl _, rfl⟩
      intro v w2 hC hF hv
      clear hC hF
      simp only [Act.put, List.setIfInBounds_toArray, List.set_cons_zero, List.set_cons_succ]
      obtain rfl := hv
      refine dagT_pure rfl ?_
      go_big_quiet_step (fail)
      refine dagT_on ?_
      refine dagT_pure rfl ?_
      go_big_quiet_step (fail)
      refine dagT_on ?_
      refine dagT_pure rfl ?_
      go_big_quiet_step (fail)
      refine dagT_on ?_
      refine dagT_pure rfl ?_
      go_big_quiet_step (fail)
      refine dagT_on ?_
      refine dagT_told (by kernel_rfl) ?_ ?_
      · intro w2 hC hF
        refine Gives.value (v := .slice (some ⟨w2.heap.size, 0, none⟩) 1 1) (w' := w2.alloc (.cells #[.slice (some ⟨g6, 0, none⟩) l.length c6] 22)) (by go_simp) ?_
        exact ⟨hC.trans' (Keep.alloc _ _), Keep.alloc _ _, one_part 22 (heap_alloc_new w2 _) (ho7.keep (hC.trans' (Keep.alloc _ _)))⟩
      intro p1 w2 hC hF hp1
      clear hC hF
      simp only [Act.put, List.setIfInBounds_toArray, List.set_cons_zero, List.set_cons_succ]
      refine dagT_told (by kernel_rfl) ?_ ?_
      · intro w2 hC hF
        refine Gives.call (by go_simp) (of_any _ _ _ ((hF 15 (by kernel_rfl)).1 rfl)) ?_
        rintro e w' ⟨rfl, rfl⟩
        exact ⟨_, rfl, hC, Keep.refl _, tV_eq (by simp)⟩
      intro v w2 hC hF hv
      clear hC hF
      simp only [Act.put, List.setIfInBounds_toArray, List.set_cons_zero, List.set_cons_succ]
      obtain rfl := hv
      refine dagT_pure rfl ?_
      go_big_quiet_step (fail)
      refine dagT_on ?_
      refine dagT_told (by kernel_rfl) ?_ ?_
      · intro w2 hC hF
        refine Gives.value (v := .slice (some ⟨w2.heap.size, 0, none⟩) 1 1) (w' := w2.alloc (.cells #[.slice (some ⟨b, off, none⟩) l.length cap] 22)) (by go_simp) ?_
        exact ⟨hC.trans' (Keep.alloc _ _), Keep.alloc _ _, one_part 22 (heap_alloc_new w2 _) (hv0.keep (hk1.trans' (hk7.trans' (hC.trans' (Keep.alloc _ _)))))⟩
      intro p2 w2 hC hF hp2
      clear hC hF
      simp only [Act.put, List.setIfInBounds_toArray, List.set_cons_zero, List.set_cons_succ]
      refine dagT_told (by kernel_rfl) ?_ ?_
      · intro w2 hC hF
        refine Gives.call (by go_simp) (of_any _ _ _ ((hF 18 (by kernel_rfl)).1 rfl)) ?_
        rintro e w' ⟨rfl, rfl⟩
        exact ⟨_, rfl, hC, Keep.refl _, tV_eq (by simp)⟩
      intro v w2 hC hF hv
      clear hC hF
      simp only [Act.put, List.setIfInBounds_toArray, List.set_cons_zero, List.set_cons_succ]
      obtain rfl := hv
      refine dagT_pure rfl ?_
      go_big_quiet_step (fail)
      refine dagT_on ?_
      refine dagT_pure rfl ?_
      go_big_quiet_step (fail)
      refine dagT_on ?_
      refine dagT_pure rfl ?_
      go_big_quiet_step (fail)
      refine dagT_on ?_
      refine dagT_done ?_
      intro w2 hC hF
      go_wp2
      go_ret
      exact ⟨rfl, hk1.trans' (hk7.trans' hC)⟩
theorem sumTurned_any (v : Value) (l : List UInt8) (at_ bit : Int) (w : World) (hv : SlB w v l) :
    Calls Try.prog 4 #[v, .int .i64 at_, .int .i64 bit] w fun e w' => e = .returned (.bool true) ∧ Keep w w' := by
  by_cases h0 : 0 < l.length
  · by_cases h3 : l.length ≤ 300
    · exact sumTurned_main v l at_ bit w hv h0 h3
    · obtain ⟨ao, cap, rfl, hm, hcap, hc⟩ := hv.form
      clear hv hc
      unfold maxLen at hm
      have b0 : ((l.length : Int) == 0) = false := beq_eq_false_iff_ne.2 (by omega)
      have b1 : decide ((300 : Int) < (l.length : Int)) = true := decide_eq_true (by omega)
      go_enter Try.func4, Try.ntmps4
      go_wp2_with fail
      refine (fit_any _).mono ?_
      rintro e w1 ⟨rfl, hk1⟩
      go_wp2
      go_ret
      exact ⟨rfl, hk1⟩
  · obtain ⟨ao, cap, rfl, hm, hcap, hc⟩ := hv.form
    clear hv hc
    have hl : l.length = 0 := by omega
    rw [hl]
    go_enter Try.func4, Try.ntmps4
    go_wp2_with fail
    refine (fit_any _).mono ?_
    rintro e w1 ⟨rfl, hk1⟩
    go_wp2
    go_ret
    exact ⟨rfl, hk1⟩
end Go.Proofs.Ytgpneahbeggbeaa
