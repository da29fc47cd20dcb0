/- The walk of PackTexts. -/
import Derived.Test.YtonodicdfhjngaaPackEnds
import Derived.SliceStrings
namespace Go.Proofs.Ytonodicdfhjngaa
open Go.RowKit
attribute [local irreducible] Go.wpQuiet

/-- texts, one behind the other -/
def pt (ls : List (List UInt8)) : List UInt8 := ls.flatMap fun s => UInt8.ofNat s.length :: s
theorem pt_cons (s : List UInt8) (ls : List (List UInt8)) : pt (s :: ls) = UInt8.ofNat s.length :: (s ++ pt ls) := by simp [pt]
theorem pt_append (a b : List (List UInt8)) : pt (a ++ b) = pt a ++ pt b := by simp [pt]
theorem pt_take (ls : List (List UInt8)) (j : Nat) (h : j < ls.length) : pt (ls.take (j + 1)) = pt (ls.take j) ++ (UInt8.ofNat ls[j].length :: ls[j]) := by
  rw [List.take_add_one, List.getElem?_eq_getElem h, pt_append]
  simp [pt]
theorem pt_drop (ls : List (List UInt8)) (j : Nat) (h : j < ls.length) : pt (ls.drop j) = UInt8.ofNat ls[j].length :: (ls[j] ++ pt (ls.drop (j + 1))) := by
  rw [List.drop_eq_getElem_cons h, pt_cons]
theorem pt_small (ls : List (List UInt8)) (h : ∀ s ∈ ls, s.length ≤ 255) : (pt ls).length ≤ 256 * ls.length := by
  induction ls with
  | nil => simp [pt]
  | cons s ls ih =>
    have h1 := h s List.mem_cons_self
    have h2 := ih fun t ht => h t (List.mem_cons_of_mem _ ht)
    rw [pt_cons]
    simp
    omega
theorem text_front (s rest : List UInt8) (h : s.length ≤ 255) : Pk.text ⟨UInt8.ofNat s.length :: (s ++ rest), false⟩ = (s, ⟨rest, false⟩) := by
  unfold Pk.text
  have h1 := Pk.numN_front [UInt8.ofNat s.length] (s ++ rest) 1 rfl (by simp) (by simp)
  simp only [List.singleton_append] at h1
  rw [h1]
  have h2 : Pk.num [UInt8.ofNat s.length] = s.length := by simp [Pk.num]; omega
  simp only [h2]
  exact Pk.take_front s rest s.length rfl
theorem text_none : Pk.text ⟨[], false⟩ = ([], ⟨[], true⟩) := by
  unfold Pk.text Pk.numN Pk.take
  simp

set_option maxHeartbeats 2000000 in
theorem packTexts_any (v : Value) (ls : List (List UInt8)) (w : World) (hv : Sl w v (ls.map strV)) (hlen : ∀ l ∈ ls, l.length ≤ 9223372036854775807) :
    Calls Try.prog 7 #[v] w fun e w' => e = .returned (.bool true) ∧ Keep w w' := by
  have hv0 := hv
  obtain ⟨a0, c0, rfl, hm, hcap, -⟩ := hv
  rw [List.length_map] at *
  unfold maxLen at hm
  by_cases hl : ls.length ≤ 30
  rotate_left
  · have b1 : decide ((30 : Int) < (ls.length : Int)) = true := decide_eq_true (by omega)
    go_enter Try.func7, Try.ntmps7
    go_wp2_with fail
    refine (fit_any w).mono ?_
    rintro e w1 ⟨rfl, hk1⟩
    go_wp2
    go_ret
    exact ⟨rfl, hk1⟩
  have b1 : decide ((30 : Int) < (ls.length : Int)) = false := decide_eq_false (by omega)
  go_enter Try.func7, Try.ntmps7
  go_wp2_with fail
  refine (fit_any w).mono ?_
  rintro e w1 ⟨rfl, hk1⟩
  go_wp2
  go_loopw [3, 4, 17] (fun b n i wr => ∃ j : Nat, j ≤ ls.length ∧ i = .int .i64 j ∧ n = .int .i64 ((pt (ls.take j)).length : Int) ∧ Own wr w1.heap.size 5 b ((pt (ls.take j)).map B) ∧ Keep w1 wr ∧ ∀ s ∈ ls.take j, s.length ≤ 255) (fun _ _ i _ => ls.length - (intOf i).toNat)
  case atStart => exact ⟨0, Nat.zero_le _, rfl, by simp [pt], by simpa [pt] using Own.nil _ _ _, Keep.refl _, by simp⟩
  case round =>
    obtain ⟨j, hj, rfl, rfl, ho, hk, hs⟩ := hrel
    by_cases hjn : j < ls.length
    · obtain ⟨_, _, e0, _, _, hc⟩ := hv0.keep (hk1.trans' hk)
      simp only [Value.slice.injEq] at e0
      obtain ⟨rfl, -, -⟩ := e0
      obtain ⟨b, off, rfl, hcell⟩ := hc j (by simpa using hjn)
      rw [List.getElem_map] at hcell
      have hle : ls[j].length ≤ 9223372036854775807 := hlen _ (List.getElem_mem _)
      have hpt := pt_take ls j hjn
      have hsm := pt_small (ls.take j) hs
      rw [List.length_take] at hsm
      have hin : ∀ t ∈ ls.take (j + 1), t ∈ ls.take j ∨ t = ls[j] := by
        intro t ht
        rw [List.take_add_one, List.getElem?_eq_getElem hjn] at ht
        rcases List.mem_append.1 ht with h | h
        · exact .inl h
        · exact .inr (by simpa using h)
      have hszt := size_str ls[j]
      clear hc
      generalize ls[j] = t at *
      have HPT := Lib.hid hpt
      have HIN := Lib.hid hin
      clear hpt hin
      obtain ⟨a1, n1, c1, rfl⟩ := ho.slB.shape
      by_cases ht : t.length ≤ 255
      · have b3 : decide ((255 : Int) < (t.length : Int)) = false := decide_eq_false (by omega)
        unfold strV at hcell
        have hT := text_any (.slice a1 n1 c1) (pt (ls.take j)) t wr ho.slB (by omega) (by omega)
        unfold strV at hT
        go_wp2_with fail
        refine hT.mono ?_
        rintro e w4 ⟨v4, rfl, ho4, hk4⟩
        rw [← HPT.out] at ho4
        have hkk := hk.trans' hk4
        have hoo := ho4.mono hk.size
        have hlen4 : (pt (ls.take (j + 1))).length = (pt (ls.take j)).length + (1 + t.length) := by rw [HPT.out]; simp; omega
        have HL4 := Lib.hid hlen4
        clear hT ho hk ho4 hk4 hlen4 hcell
        go_wp2
        go_roundw
        case rel => exact ⟨j + 1, by omega, by go_num, by rw [HL4.out]; go_num, hoo, hkk, fun s hs' => by
          rcases HIN.out s hs' with h | h
          · exact hs s h
          · rw [h]; exact ht⟩
        case measure => simp [intOf]; omega
      · have b3 : decide ((255 : Int) < (t.length : Int)) = true := decide_eq_true (by omega)
        unfold strV at hcell
        go_wp2
        go_ret
        exact ⟨rfl, hk1.trans' hk⟩
    · have hjl : j = ls.length := by omega
      subst hjl
      rw [List.take_length] at *
      have hsm := pt_small ls hs
      have hb := ho.slB
      obtain ⟨a1, c1, rfl, -⟩ := hb.form
      go_wp2_with fail
      refine (new_any _ _ wr hb).mono ?_
      rintro e w2 ⟨rfl, hr2, hk2, -⟩
      have hkw : Keep w w2 := (hk1.trans' hk).trans' hk2
      have hkr : Keep w wr := hk1.trans' hk
      obtain ⟨rb, hrb⟩ : ∃ rb, rb = wr.heap.size := ⟨_, rfl⟩
      rw [← hrb] at hr2 ⊢
      have HRB := Lib.hid hrb
      clear hb ho hk hrb
      go_wp2
      go_loopw [37] (fun i wq => ∃ j : Nat, j ≤ ls.length ∧ i = .int .i64 j ∧ Rd wq rb ⟨pt (ls.drop j), false⟩ ∧ Below rb wr wq) (fun i _ => ls.length - (intOf i).toNat)
      case atStart => exact ⟨0, Nat.zero_le _, rfl, by simpa using hr2, by rw [HRB.out]; exact hk2⟩
      case round =>
        obtain ⟨j, hj, rfl, hr, hkq⟩ := hrel
        by_cases hjn : j < ls.length
        · obtain ⟨_, _, e0, _, _, hc⟩ := hv0.keep (hkr.trans (hkq.mono (by rw [HRB.out]; exact hkr.size)))
          simp only [Value.slice.injEq] at e0
          obtain ⟨rfl, -, -⟩ := e0
          obtain ⟨b, off, rfl, hcell⟩ := hc j (by simpa using hjn)
          rw [List.getElem_map] at hcell
          have hpt := pt_drop ls j hjn
          have hle : ls[j].length ≤ 255 := hs _ (List.getElem_mem _)
          have hdl : (pt (ls.drop j)).length ≤ 256 * ls.length := by
            have := pt_small (ls.drop j) (fun t ht => hs t (List.mem_of_mem_drop ht))
            rw [List.length_drop] at this
            omega
          clear hc
          generalize ls[j] = t at *
          have hT := rtext_any rb ⟨pt (ls.drop j), false⟩ wr hr (by simp only; omega)
          rw [hpt, text_front t _ hle] at hT
          clear hpt hr hdl
          unfold strV at hcell hT
          go_wp2_with fail
          refine hT.mono ?_
          rintro e w4 ⟨rfl, hb4, hr4⟩
          clear hT
          go_wp2_with fail
          refine (bad_any rb _ w4 hr4).mono ?_
          rintro e w' ⟨rfl, rfl⟩
          have hkq4 := hkq.trans (hb4.below (Nat.le_refl _) (by have := hkq.size; have := HRB.out; omega))
          clear hkq hb4 hcell
          go_wp2
          go_roundw
          case rel => exact ⟨j + 1, by omega, by go_num, hr4, hkq4⟩
          case measure => simp [intOf]; omega
        · have hjl : j = ls.length := by omega
          subst hjl
          rw [List.drop_length] at hr
          have hp0 : pt [] = [] := rfl
          rw [hp0] at hr
          clear hp0
          go_wp2_with fail
          refine (rest_any rb _ wr hr).mono ?_
          rintro e w' ⟨rfl, rfl⟩
          have hT := rtext_any rb ⟨[], false⟩ wr hr (by simp)
          rw [text_none] at hT
          unfold strV at hT
          go_wp2_with fail
          refine hT.mono ?_
          rintro e w4 ⟨rfl, hb4, hr4⟩
          clear hT
          go_wp2_with fail
          refine (bad_any rb _ w4 hr4).mono ?_
          rintro e w' ⟨rfl, rfl⟩
          have hkq4 := hkq.trans (hb4.below (Nat.le_refl _) (by have := hkq.size; have := HRB.out; omega))
          go_wp2
          go_ret
          exact ⟨rfl, hkr.trans (hkq4.mono (by rw [HRB.out]; exact hkr.size))⟩
end Go.Proofs.Ytonodicdfhjngaa
