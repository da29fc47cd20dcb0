/- The walks of the port law's light and fit. -/
import Derived.Test.YtllknflphgahfaaPortDec
import Derived.Test.YtllknflphgahfaaPortEnc
import Derived.Test.YtllknflphgahfaaRis
namespace Go.Proofs.Ytllknflphgahfaa
open Go Go.RowKit
attribute [local irreducible] Go.wpQuiet

def sumW (r : Rw) : Int := wrap64 ((r.k.length : Int) + (r.v.length : Int))
set_option maxHeartbeats 2000000 in
theorem light_any (v : Value) (l : List Rw) (w : World) (hS : SlR w v l) : Calls Try.prog 12 #[v] w fun e w' => ∃ b, e = .returned (.bool b) ∧ (b = true → l.length ≤ 60 ∧ ∀ r ∈ l, sumW r ≤ 100) ∧ Keep w w' := by
  obtain ⟨qa, qc, rfl, hm, hc⟩ := hS.form
  unfold maxLen at hm
  go_enter Try.func12, Try.ntmps12
  by_cases hl : 60 < l.length
  · have t1 : decide (60 < (l.length : Int)) = true := decide_eq_true (by omega)
    clear hl hm hc
    go_wp2
    go_ret
    exact ⟨_, rfl, (fun h => by cases h), Keep.refl w⟩
  have t1 : decide (60 < (l.length : Int)) = false := decide_eq_false (by omega)
  have h60 : Hid (l.length ≤ 60) := Lib.hid (by omega)
  clear hl
  go_wp2
  go_loopw [10] (fun i wr => ∃ j : Nat, j ≤ l.length ∧ i = .int .i64 j ∧ Hid (∀ r ∈ l.take j, sumW r ≤ 100) ∧ Keep w wr) (fun i _ => l.length - (intOf i).toNat)
  case atStart => exact ⟨0, Nat.zero_le _, rfl, Lib.hid (by simp), Keep.refl w⟩
  case round =>
    obtain ⟨j, hj, rfl, hall, hk⟩ := hrel
    by_cases hjn : j < l.length
    rotate_left
    · have hjd : ¬ ((j : Int) < (l.length : Int)) := by omega
      have hal : Hid (∀ r ∈ l, sumW r ≤ 100) := Lib.hid (by have h := hall.out; rwa [List.take_of_length_le (by omega)] at h)
      clear hjn
      go_wp2
      exact bodyPost_ret (v := .bool true) (by simp [results, Try.results12, go_sem]) rfl (.inr ⟨rfl, ⟨h60.out, hal.out⟩, hk⟩)
    obtain ⟨b, off, rfl, x0, x1, x2⟩ := (hS.keep hk).elem j hjn
    have HT := Lib.hid (take_succ_getElem l j hjn)
    generalize l[j] = r at *
    have hjl : (j : Int) < (l.length : Int) := by omega
    have s1 := size_str r.k
    have s2 := size_str r.v
    clear hS
    have hk2 : Keep w (wr.alloc (.cells #[.int .i64 r.t, .string ⟨r.k.toArray⟩, .string ⟨r.v.toArray⟩] 32)) := hk.trans' (Keep.alloc _ _)
    go_upto_region 6 with (fail)
    have hA := RwAt.new wr r
    generalize wr.alloc (.cells #[.int .i64 r.t, .string ⟨r.k.toArray⟩, .string ⟨r.v.toArray⟩] 32) = w3 at *
    generalize wr.heap.size = gq at *
    clear x0 x1 x2
    obtain ⟨e0, e1, e2⟩ := hA.cells
    obtain ⟨N, hN⟩ : ∃ N, Hid (N = sumW r) := ⟨_, Lib.hid rfl⟩
    have hNN : wrap64 ((r.k.length : Int) + (r.v.length : Int)) = N := hN.out.symm
    by_cases h100 : 100 < N
    · go_wp2
      exact bodyPost_ret (v := .bool false) (by simp [results, Try.results12, go_sem]) rfl ⟨false, rfl, (fun h => by cases h), hk2⟩
    · go_wp2
      go_roundw
      case rel => exact ⟨j + 1, by omega, by go_num, Lib.hid (fun x hx => by
        rw [HT.out] at hx
        rcases List.mem_append.1 hx with h | h
        · exact hall.out x h
        · rw [List.mem_singleton.1 h, ← hN.out]; omega), hk2⟩
      case measure => simp [intOf]; omega

theorem dec_nil : portDec (portL []) = ([], 0) := by
  have h := portDec_fwd [] trivial (by decide)
  rw [h]
  rfl
theorem port_nil : (portL []).length = 10 := by rw [portL_length]; rfl

set_option maxRecDepth 100000 in
set_option maxHeartbeats 4000000 in
theorem fit_any (w : World) : Calls Try.prog 11 #[] w fun e w' => e = .returned (.bool true) ∧ Keep w w' := by
  have HD := Lib.hid dec_nil
  have HL := Lib.hid port_nil
  go_enter Try.func11, Try.ntmps11
  go_wp2_with fail
  refine (encode_any _ [] w (SlR.nil w) (fun r h => by cases h) (by decide)).mono ?_
  rintro e w1 ⟨v1, rfl, hO1, hk1⟩
  have hb1 := hO1.slB
  go_wp2_with fail
  refine (decode_any v1 (portL []) w1 hb1 (by rw [port_nil]; decide)).mono ?_
  rintro e w2 ⟨v2, rfl, hR2, hk2⟩
  rw [HD.out] at hR2 ⊢
  obtain ⟨a2, c2, rfl, -, -⟩ := hR2.form
  have hkw := hk1.trans' hk2
  clear hO1 hb1 hk1 hk2 hR2
  go_wp2_with fail
  refine (encode_any _ [] w2 (SlR.nil w2) (fun r h => by cases h) (by decide)).mono ?_
  rintro e w3 ⟨v3, rfl, hO3, hk3⟩
  obtain ⟨a3, c3, rfl, -, -, -⟩ := hO3.slB.form
  rw [HL.out]
  have hkw3 := hkw.trans' hk3
  clear hO3 hkw hk3
  go_wp2
  go_ret
  exact ⟨rfl, hkw3⟩
end Go.Proofs.Ytllknflphgahfaa
