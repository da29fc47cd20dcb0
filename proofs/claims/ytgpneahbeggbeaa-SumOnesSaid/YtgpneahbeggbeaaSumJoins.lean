/- The walk of SumJoins. -/
import Derived.Test.YtgpneahbeggbeaaSumTurned
import Derived.Test.YtgpneahbeggbeaaZeros
import Derived.Laws.Cover1
namespace Go.Proofs.Ytgpneahbeggbeaa
open Go.RowKit
attribute [local irreducible] Go.wpQuiet

theorem byte_xor (a b : UInt8) : Go.bits .xor .u8 (a.toNat : Int) (b.toNat : Int) = ((a ^^^ b).toNat : Int) := by
  have ha := a.toNat_lt
  have hb := b.toNat_lt
  simp only [Go.bits, BitVec.ofInt_natCast, IntKind.wrap_u8]
  show (((BitVec.ofNat 8 a.toNat ^^^ BitVec.ofNat 8 b.toNat).toNat : Nat) : Int) % 256 = _
  rw [BitVec.toNat_xor, BitVec.toNat_ofNat, BitVec.toNat_ofNat, Nat.mod_eq_of_lt ha, Nat.mod_eq_of_lt hb, UInt8.toNat_xor]
  have := Nat.xor_lt_two_pow (n := 8) ha hb
  omega
theorem cn_xor (c d : BitVec 32) : Go.bits .xor .u32 (cn c) (cn d) = cn (c ^^^ d) := by
  have h := bv_xor c d.toNat d.isLt
  rw [BitVec.ofNat_toNat, BitVec.setWidth_eq] at h
  exact h
theorem sliced_zero (a : Option Addr) (n c : Nat) : sliced a 0 n c 1 = .slice a n c := by
  unfold sliced
  cases a <;> simp [Addr.add]
theorem SlB.first {w : World} {a : Option Addr} {m c : Nat} {l : List UInt8} (h : SlB w (.slice a m c) l) (n : Nat) (hn : n ≤ m) : SlB w (.slice a n c) (l.take n) := by
  have := h.upto n hn
  rwa [sliced_zero] at this
theorem xor_take (l k : List UInt8) (j : Nat) (h1 : j < l.length) (h2 : j < k.length) : Crc.xorL (l.take (j + 1)) (k.take (j + 1)) = Crc.xorL (l.take j) (k.take j) ++ [l[j] ^^^ k[j]] := by
  rw [take_succ_getElem l j h1, take_succ_getElem k j h2]
  unfold Crc.xorL
  rw [List.zipWith_append (by simp; omega)]
  rfl
theorem xor_set (l k : List UInt8) (n j : Nat) (hj : j < n) (h1 : j < l.length) (h2 : j < k.length) :
    (Crc.xorL (l.take j) (k.take j) ++ zB (n - j)).set j (l[j] ^^^ k[j]) = Crc.xorL (l.take (j + 1)) (k.take (j + 1)) ++ zB (n - (j + 1)) := by
  have hlen : (Crc.xorL (l.take j) (k.take j)).length = j := by simp [Crc.xorL]; omega
  rw [List.set_append_right _ _ (by omega), hlen, Nat.sub_self, xor_take l k j h1 h2, show n - j = (n - (j + 1)) + 1 by omega]
  simp [zB, List.replicate_succ]

set_option maxHeartbeats 2000000 in
theorem sumJoins_any (v u : Value) (l k : List UInt8) (w : World) (hv : SlB w v l) (hu : SlB w u k) :
    Calls Try.prog 6 #[v, u] w fun e w' => e = .returned (.bool true) ∧ Keep w w' := by
  have hv0 := hv
  have hu0 := hu
  obtain ⟨a0, c0, rfl, hm0, hcap0, -⟩ := hv.form
  obtain ⟨a1, c1, rfl, hm1, hcap1, -⟩ := hu.form
  clear hv hu
  unfold maxLen at hm0 hm1
  obtain ⟨n, hn⟩ : ∃ n, n = min (min l.length k.length) 200 := ⟨_, rfl⟩
  have hn1 : n ≤ l.length := by omega
  have hn2 : n ≤ k.length := by omega
  have hn3 : n ≤ 200 := by omega
  go_enter Try.func6, Try.ntmps6
  go_wp2_with fail
  refine (fit_any w).mono ?_
  rintro e w1 ⟨rfl, hk1⟩
  have hmin : (Builtin.min_ #[3, 3, 3] 3 #[.int .i64 (l.length : Int), .int .i64 (k.length : Int), .int .i64 200]).run Try.prog w1 = .ok (.int .i64 (n : Int)) w1 := by
    rw [run_min_int3]
    congr 2
    (repeat' split) <;> omega
  have hn4 : n ≤ c0 := by omega
  have hn5 : n ≤ c1 := by omega
  have HN := Lib.hid hn
  clear hn
  go_upto_region 4 with (fail)
  clear hmin
  refine wp_region_dag' (C := fun w' => Keep w1 w') (R := Keep) [none, none, some (tV (.slice a0 n c0)), none, none, some (tV (.slice a1 n c1)), none, none] (by kernel_rfl) (by kernel_rfl) (Keep.refl w1).drew ?_
  refine dagT_pure rfl ?_
  go_big_quiet_step (fail)
  refine dagT_on ?_
  refine dagT_pure rfl ?_
  go_big_quiet_step (fail)
  refine dagT_on ?_
  refine dagT_told (by kernel_rfl) ?_ ?_
  · intro w9 hC hF
    refine Gives.value (v := .slice a0 n c0) (w' := w9) (by go_simp; first | done | (rw [if_pos (by omega)])) ?_
    exact ⟨hC, Keep.refl _, rfl⟩
  intro v w9 hC hF hv
  clear hC hF
  simp only [Act.put, List.setIfInBounds_toArray, List.set_cons_zero, List.set_cons_succ]
  obtain rfl := hv
  refine dagT_pure rfl ?_
  go_big_quiet_step (fail)
  refine dagT_on ?_
  refine dagT_pure rfl ?_
  go_big_quiet_step (fail)
  refine dagT_on ?_
  refine dagT_told (by kernel_rfl) ?_ ?_
  · intro w9 hC hF
    refine Gives.value (v := .slice a1 n c1) (w' := w9) (by go_simp; first | done | (rw [if_pos (by omega)])) ?_
    exact ⟨hC, Keep.refl _, rfl⟩
  intro v w9 hC hF hv
  clear hC hF
  simp only [Act.put, List.setIfInBounds_toArray, List.set_cons_zero, List.set_cons_succ]
  obtain rfl := hv
  refine dagT_pure rfl ?_
  go_big_quiet_step (fail)
  refine dagT_on ?_
  refine dagT_pure rfl ?_
  go_big_quiet_step (fail)
  refine dagT_on ?_
  refine dagT_done ?_
  intro w2 hC hF
  have hk2 := hk1.trans' hC
  clear hC hF
  have hl2 := (hv0.keep hk2).first n hn1
  have hr2 := (hu0.keep hk2).first n hn2
  have hlen1 : (l.take n).length = n := by rw [List.length_take]; omega
  have hlen2 : (k.take n).length = n := by rw [List.length_take]; omega
  clear hn1 hn2 hv0 hu0 hm0 hm1 hcap0 hcap1 HN
  generalize l.take n = l at *
  generalize k.take n = k at *
  have hmk : (Instr.makeSlice 22 (.int .i64 (n : Int)) (.int .i64 (n : Int))).run Try.prog w2 = .ok (.slice (some ⟨w2.heap.size, 0, none⟩) n n) (w2.alloc (.cells ((zB n).map B).toArray 5)) := run_makeB (P := Try.prog) elemB w2 n (by omega)
  have hown := Own.made w2 5 w2.heap.size n (Nat.le_refl _) (by omega)
  have hk3 := hk2.trans' (Keep.alloc w2 (.cells ((zB n).map B).toArray 5))
  have hk23 := Keep.alloc w2 (.cells ((zB n).map B).toArray 5)
  have H1 := Lib.hid hlen1
  have H2 := Lib.hid hlen2
  clear hlen1 hlen2
  go_upto_region 6 with (fail)
  clear hmk
  generalize w2.alloc (.cells ((zB n).map B).toArray 5) = w3 at *
  obtain ⟨g, hg⟩ : ∃ g, g = w2.heap.size := ⟨_, rfl⟩
  rw [← hg] at hown ⊢
  have HG := Lib.hid hg
  clear hg
  go_wp2
  go_loopw [25] (fun i wr => ∃ j : Nat, j ≤ n ∧ i = .int .i64 j ∧ Own wr g 5 (.slice (some ⟨g, 0, none⟩) n n) ((Crc.xorL (l.take j) (k.take j) ++ zB (n - j)).map B) ∧ Below g w2 wr) (fun i _ => n - (intOf i).toNat)
  case atStart => exact ⟨0, Nat.zero_le _, rfl, by simpa [Crc.xorL] using hown, by rw [HG.out]; exact hk23⟩
  case round =>
    obtain ⟨j, hj, rfl, ho, hk⟩ := hrel
    clear hown hk23
    have hkw : Keep w2 wr := hk.mono (by rw [HG.out]; exact Nat.le_refl _)
    by_cases hjn : j < n
    · have hjl : j < l.length := by rw [H1.out]; exact hjn
      have hjk : j < k.length := by rw [H2.out]; exact hjn
      obtain ⟨ba, oa, rfl, hcA⟩ := SlB.cells (SlB.keep hkw hl2) (by omega)
      obtain ⟨bb, ob, rfl, hcB⟩ := SlB.cells (SlB.keep hkw hr2) (by omega)
      have hca := hcA j hjl
      have hcb := hcB j hjk
      clear hcA hcB
      have hset := xor_set l k n j hjn hjl hjk
      have hst := ho.stored j (.int .u8 ((l[j] ^^^ k[j]).toNat : Int))
      have hxor := byte_xor l[j] k[j]
      have hlx : (Crc.xorL (l.take j) (k.take j) ++ zB (n - j)).length = n := by simp [Crc.xorL, zB]; omega
      have hcx : ∃ y, wr.cell? ⟨g, j, none⟩ = some (.int .u8 y) := by
        have := ho.cellOf j (by rw [List.length_map, hlx]; exact hjn)
        rw [List.getElem_map] at this
        exact ⟨_, this⟩
      obtain ⟨y, hcy⟩ := hcx
      have hfr := ho.freeOf j
      rw [turned_set, hset] at hst
      have hkk : Below g w2 (wr.setCell ⟨g, j, none⟩ (.int .u8 ((l[j] ^^^ k[j]).toNat : Int))) := Keep.setCell hk (Nat.le_refl _) _
      clear hset hlx ho hk
      generalize l[j] = xa at *
      generalize k[j] = xb at *
      go_wp2
      go_region
      go_wp2
      go_roundw
      case rel => exact ⟨j + 1, by omega, by go_num, hst.keep (Keep.refl _).drew, hkk.drew⟩
      case measure => simp [intOf]; omega
    · have hjn : j = n := by omega
      subst hjn
      rw [Nat.sub_self, show zB 0 = [] from rfl, List.append_nil, ← H1.out, List.take_length, H1.out, ← H2.out, List.take_length, H2.out] at ho
      have hl3 := hl2.keep hkw
      have hr3 := hr2.keep hkw
      have ho3 := ho.slB
      have hsum := Crc.sum_xor l k (zB j) (by rw [H1.out, H2.out]) (by rw [H2.out, zB_length]) (fun x hx => List.eq_of_mem_replicate hx)
      have hkr : Keep w wr := hk2.trans' hkw
      clear hl2 hr2 hk hkw ho
      obtain ⟨s1, hs1⟩ : ∃ c, c = Crc.sum l := ⟨_, rfl⟩
      obtain ⟨s2, hs2⟩ : ∃ c, c = Crc.sum k := ⟨_, rfl⟩
      obtain ⟨s3, hs3⟩ : ∃ c, c = Crc.sum (zB j) := ⟨_, rfl⟩
      rw [← hs1, ← hs2, ← hs3] at hsum
      have x1 := cn_xor s1 s2
      have x2 := cn_xor (s1 ^^^ s2) s3
      have HS1 := Lib.hid hs1
      have HS2 := Lib.hid hs2
      have HS3 := Lib.hid hs3
      have HSUM := Lib.hid hsum
      clear hs1 hs2 hs3 hsum
      go_upto_region 11 with (fail)
      refine wp_region_dag' (C := fun w' => Keep wr w') (R := Keep) [none, some (tBB [Crc.xorL l k]), some (tV (.int .u32 (cn (s1 ^^^ s2 ^^^ s3)))), none, some (tBB [l]), some (tV (.int .u32 (cn s1))), none, some (tBB [k]), some (tV (.int .u32 (cn s2))), none, none, some (tB (zB j)), some (tBB [zB j]), some (tV (.int .u32 (cn s3))), none, none, none] (by kernel_rfl) (by kernel_rfl) (Keep.refl wr).drew ?_
      refine dagT_pure rfl ?_
      go_big_quiet_step (fail)
      refine dagT_on ?_
      refine dagT_told (by kernel_rfl) ?_ ?_
      · intro w9 hC hF
        refine Gives.value (v := .slice (some ⟨w9.heap.size, 0, none⟩) 1 1) (w' := w9.alloc (.cells #[.slice (some ⟨g, 0, none⟩) j j] 22)) (by go_simp) ?_
        exact ⟨hC.trans' (Keep.alloc _ _), Keep.alloc _ _, one_part _ (heap_new _ _ _ rfl) ((ho3.keep hC).keep (Keep.alloc _ _))⟩
      intro s1v w9 hC hF hs1v
      clear hC hF
      simp only [Act.put, List.setIfInBounds_toArray, List.set_cons_zero, List.set_cons_succ]
      obtain ⟨as1v, ns1v, cs1v, rfl⟩ : ∃ a n c, s1v = .slice a n c := by obtain ⟨_, ⟨_, _, h, _⟩, _⟩ := hs1v; exact ⟨_, _, _, h⟩
      refine dagT_told (by kernel_rfl) ?_ ?_
      · intro w9 hC hF
        refine Gives.call (by go_simp) (of_any _ [Crc.xorL l k] w9 ((hF 1 (by kernel_rfl)).1 rfl)) ?_
        rintro e w' ⟨rfl, rfl⟩
        exact ⟨_, rfl, hC, Keep.refl _, by show _ = _; rw [List.flatten_cons, List.flatten_nil, List.append_nil, HSUM.out]⟩
      intro v w9 hC hF hv
      clear hC hF
      simp only [Act.put, List.setIfInBounds_toArray, List.set_cons_zero, List.set_cons_succ]
      obtain rfl := hv
      refine dagT_pure rfl ?_
      go_big_quiet_step (fail)
      refine dagT_on ?_
      refine dagT_told (by kernel_rfl) ?_ ?_
      · intro w9 hC hF
        refine Gives.value (v := .slice (some ⟨w9.heap.size, 0, none⟩) 1 1) (w' := w9.alloc (.cells #[.slice a0 j c0] 22)) (by go_simp) ?_
        exact ⟨hC.trans' (Keep.alloc _ _), Keep.alloc _ _, one_part _ (heap_new _ _ _ rfl) ((hl3.keep hC).keep (Keep.alloc _ _))⟩
      intro s2v w9 hC hF hs2v
      clear hC hF
      simp only [Act.put, List.setIfInBounds_toArray, List.set_cons_zero, List.set_cons_succ]
      obtain ⟨as2v, ns2v, cs2v, rfl⟩ : ∃ a n c, s2v = .slice a n c := by obtain ⟨_, ⟨_, _, h, _⟩, _⟩ := hs2v; exact ⟨_, _, _, h⟩
      refine dagT_told (by kernel_rfl) ?_ ?_
      · intro w9 hC hF
        refine Gives.call (by go_simp) (of_any _ [l] w9 ((hF 4 (by kernel_rfl)).1 rfl)) ?_
        rintro e w' ⟨rfl, rfl⟩
        exact ⟨_, rfl, hC, Keep.refl _, by show _ = _; rw [List.flatten_cons, List.flatten_nil, List.append_nil, ← HS1.out]⟩
      intro v w9 hC hF hv
      clear hC hF
      simp only [Act.put, List.setIfInBounds_toArray, List.set_cons_zero, List.set_cons_succ]
      obtain rfl := hv
      refine dagT_pure rfl ?_
      go_big_quiet_step (fail)
      refine dagT_on ?_
      refine dagT_told (by kernel_rfl) ?_ ?_
      · intro w9 hC hF
        refine Gives.value (v := .slice (some ⟨w9.heap.size, 0, none⟩) 1 1) (w' := w9.alloc (.cells #[.slice a1 j c1] 22)) (by go_simp) ?_
        exact ⟨hC.trans' (Keep.alloc _ _), Keep.alloc _ _, one_part _ (heap_new _ _ _ rfl) ((hr3.keep hC).keep (Keep.alloc _ _))⟩
      intro s3v w9 hC hF hs3v
      clear hC hF
      simp only [Act.put, List.setIfInBounds_toArray, List.set_cons_zero, List.set_cons_succ]
      obtain ⟨as3v, ns3v, cs3v, rfl⟩ : ∃ a n c, s3v = .slice a n c := by obtain ⟨_, ⟨_, _, h, _⟩, _⟩ := hs3v; exact ⟨_, _, _, h⟩
      refine dagT_told (by kernel_rfl) ?_ ?_
      · intro w9 hC hF
        refine Gives.call (by go_simp) (of_any _ [k] w9 ((hF 7 (by kernel_rfl)).1 rfl)) ?_
        rintro e w' ⟨rfl, rfl⟩
        exact ⟨_, rfl, hC, Keep.refl _, by show _ = _; rw [List.flatten_cons, List.flatten_nil, List.append_nil, ← HS2.out]⟩
      intro v w9 hC hF hv
      clear hC hF
      simp only [Act.put, List.setIfInBounds_toArray, List.set_cons_zero, List.set_cons_succ]
      obtain rfl := hv
      refine dagT_pure rfl ?_
      go_big_quiet_step (fail)
      refine dagT_on ?_
      refine dagT_pure rfl ?_
      go_big_quiet_step (fail)
      refine dagT_on ?_
      refine dagT_told (by kernel_rfl) ?_ ?_
      · intro w9 hC hF
        refine Gives.makeB elemB _ _ j rfl rfl rfl (by omega) ?_
        exact ⟨hC.trans' (Keep.alloc _ _), Keep.alloc _ _, (Own.made _ _ 0 j (Nat.zero_le _) (by omega)).slB⟩
      intro z w9 hC hF hz
      clear hC hF
      simp only [Act.put, List.setIfInBounds_toArray, List.set_cons_zero, List.set_cons_succ]
      obtain ⟨az, nz, cz, rfl⟩ := SlB.shape hz
      refine dagT_told (by kernel_rfl) ?_ ?_
      · intro w9 hC hF
        refine Gives.value (v := .slice (some ⟨w9.heap.size, 0, none⟩) 1 1) (w' := w9.alloc (.cells #[.slice az nz cz] 22)) (by go_simp) ?_
        exact ⟨hC.trans' (Keep.alloc _ _), Keep.alloc _ _, one_part _ (heap_new _ _ _ rfl) ((((hF 11 (by kernel_rfl)).1 rfl)).keep (Keep.alloc _ _))⟩
      intro s4v w9 hC hF hs4v
      clear hC hF
      simp only [Act.put, List.setIfInBounds_toArray, List.set_cons_zero, List.set_cons_succ]
      obtain ⟨as4v, ns4v, cs4v, rfl⟩ : ∃ a n c, s4v = .slice a n c := by obtain ⟨_, ⟨_, _, h, _⟩, _⟩ := hs4v; exact ⟨_, _, _, h⟩
      refine dagT_told (by kernel_rfl) ?_ ?_
      · intro w9 hC hF
        refine Gives.call (by go_simp) (of_any _ [zB j] w9 ((hF 12 (by kernel_rfl)).1 rfl)) ?_
        rintro e w' ⟨rfl, rfl⟩
        exact ⟨_, rfl, hC, Keep.refl _, by show _ = _; rw [List.flatten_cons, List.flatten_nil, List.append_nil, ← HS3.out]⟩
      intro v w9 hC hF hv
      clear hC hF
      simp only [Act.put, List.setIfInBounds_toArray, List.set_cons_zero, List.set_cons_succ]
      obtain rfl := hv
      refine dagT_pure rfl ?_
      go_big_quiet_step (fail)
      refine dagT_on ?_
      refine dagT_pure rfl ?_
      go_big_quiet_step (fail)
      refine dagT_on ?_
      refine dagT_pure rfl ?_
      go_big_quiet_step (fail)
      refine dagT_on ?_
      refine dagT_done ?_
      intro w7 hC hF
      have hk7 := hkr.trans' hC
      clear hF hC
      go_wp2
      go_ret
      exact ⟨rfl, hk7⟩
end Go.Proofs.Ytgpneahbeggbeaa
