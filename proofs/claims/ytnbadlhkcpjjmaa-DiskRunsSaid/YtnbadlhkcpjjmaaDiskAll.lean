/- The walk of DiskAll. -/
import Derived.Test.YtnbadlhkcpjjmaaDx
namespace Go.Proofs.Ytnbadlhkcpjjmaa
open Go Go.RowKit
attribute [local irreducible] Go.wpQuiet

/-! ### A disk of one region -/
def putAll (data : List (List UInt8)) (l : List (Nat × List UInt8)) : List (List UInt8) := l.foldl (fun data x => data.set x.1 x.2) data
def valid (s : Int) (b : List UInt8) : List (Nat × List UInt8) := if 0 ≤ s ∧ s < 8 ∧ b.length ≤ 64 then [(s.toNat, pad b)] else []
def valids (l : List Cl) : List (Nat × List UInt8) := l.flatMap fun c => valid c.s c.data
theorem keep_full (l : List (Nat × List UInt8)) (data : List (List UInt8)) : keepD 18446744073709551615 0 l data = putAll data l := by
  have key : ∀ (l : List (Nat × List UInt8)) (n : Nat) (data : List (List UInt8)), (l.zipIdx n).foldl (stepD 18446744073709551615 0) data = l.foldl (fun data x => data.set x.1 x.2) data := by
    intro l
    induction l with
    | nil => intro n data; rfl
    | cons x l ih =>
      intro n data
      rw [List.zipIdx_cons, List.foldl_cons, List.foldl_cons, ih]
      congr 1
      unfold stepD
      have : Nat.testBit 18446744073709551615 (n % 64) = true := by
        have h : n % 64 < 64 := Nat.mod_lt _ (by decide)
        rw [show (18446744073709551615 : Nat) = 2 ^ 64 - 1 from rfl, Nat.testBit_two_pow_sub_one]
        exact decide_eq_true h
      simp [this]
  exact key l 0 data
theorem keep_zero (b : Nat) (l : List (Nat × List UInt8)) (data : List (List UInt8)) : keepD 0 b l data = data := by
  unfold keepD
  generalize l.zipIdx = z
  induction z with
  | nil => rfl
  | cons x z ih =>
    rw [List.foldl_cons]
    have : stepD 0 b data x = data := by unfold stepD; simp
    rw [this]
    exact ih
structure OneI (d : Dk) (ws : List (Nat × List UInt8)) (dat : List (List UInt8)) : Prop where
  s : d.size = 8
  r : d.regs = [⟨ws, false, 0⟩]
  d : d.data = dat
theorem oneI_new : OneI (newD 1 8) (valids []) (newD 1 8).data := ⟨rfl, rfl, rfl⟩
theorem OneI.write {d : Dk} {ws : List (Nat × List UInt8)} {dat : List (List UInt8)} (h : OneI d ws dat) (s : Int) (b : List UInt8) : OneI (d.wrD 0 s b) (ws ++ valid s b) dat := by
  by_cases hv : 0 ≤ s ∧ s < 8 ∧ b.length ≤ 64
  · have e : d.wrD 0 s b = d.write 0 s.toNat b := by
      have h1 : d.there 0 s = true := (d.there_iff 0 s).2 ⟨by decide, by rw [h.r]; simp, hv.1, by rw [h.s]; exact hv.2.1⟩
      have h2 : ¬ 64 < b.length := by omega
      have h3 : d.down 0 = false := by simp [Dk.down, h.r]
      have h4 : d.down (Int.toNat 0) = false := h3
      simp [Dk.wrD, h1, h2, h4]
      intro hc
      rw [h3] at hc
      cases hc
    rw [e]
    have ev : valid s b = [(s.toNat, pad b)] := if_pos hv
    rw [ev]
    exact ⟨h.s, by simp [Dk.write, Dk.setRg, h.r], h.d⟩
  · have e : d.wrD 0 s b = d := by
      unfold Dk.wrD
      rw [if_pos]
      by_cases h2 : 64 < b.length
      · exact .inr h2
      · left
        cases h1 : d.there 0 s
        · rfl
        · have := (d.there_iff 0 s).1 h1
          rw [h.s] at this
          exact absurd ⟨this.2.2.1, this.2.2.2, by omega⟩ hv
    have ev : valid s b = [] := if_neg hv
    rw [e, ev, List.append_nil]
    exact h
theorem OneI.bar {d : Dk} {ws : List (Nat × List UInt8)} {dat : List (List UInt8)} (h : OneI d ws dat) : OneI (d.barD 0) [] (putAll dat ws) := by
  have h1 : d.there 0 0 = true := (d.there_iff 0 0).2 ⟨by decide, by rw [h.r]; simp, by decide, by rw [h.s]; decide⟩
  have h3 : d.down (Int.toNat 0) = false := by simp [Dk.down, h.r]
  have e : d.barD 0 = d.keep 0 18446744073709551615 := by
    unfold Dk.barD
    rw [if_neg (by rw [h1]; decide), if_neg (by rw [h3]; decide)]
    rfl
  rw [e]
  refine ⟨h.s, by simp [Dk.keep, h.r], ?_⟩
  show keepD _ (0 * d.size) (d.regs[0]?.getD emptyRg).waits d.data = _
  rw [h.r, h.d, Nat.zero_mul]
  exact keep_full ws dat
theorem OneI.crash {d : Dk} {ws : List (Nat × List UInt8)} {dat : List (List UInt8)} (h : OneI d ws dat) (m : Nat) : OneI (d.crash m) [] (keepD m 0 ws dat) := by
  refine ⟨(crash_size d m).trans h.s, by rw [crash_regs, h.r]; rfl, ?_⟩
  unfold Dk.crash
  rw [h.r]
  show keepD m (0 * d.size) (d.regs[0]?.getD emptyRg).waits d.data = _
  rw [h.r, h.d, Nat.zero_mul]
  rfl
theorem OneI.read {d : Dk} {dat : List (List UInt8)} (h : OneI d [] dat) (s : Nat) (hs : s < 8) : d.readI 0 s = dat.getD s [] := by
  have h1 : d.there 0 s = true := (d.there_iff 0 s).2 ⟨by decide, by rw [h.r]; simp, by omega, by rw [h.s]; omega⟩
  unfold Dk.readI
  rw [if_pos h1]
  unfold Dk.read
  rw [show (d.regs[(0 : Int).toNat]?.getD emptyRg).waits = [] from by rw [h.r]; rfl, h.d]
  simp [lastW]
theorem valids_take (l : List Cl) (k : Nat) (h : k < l.length) : valids (l.take (k + 1)) = valids (l.take k) ++ valid l[k].s l[k].data := by
  rw [List.take_succ_eq_append_getElem h]
  unfold valids
  rw [List.flatMap_append]
  simp
theorem putAll_append (data : List (List UInt8)) (a b : List (Nat × List UInt8)) : putAll data (a ++ b) = putAll (putAll data a) b := by
  unfold putAll
  rw [List.foldl_append]
theorem valids_append (a b : List Cl) : valids (a ++ b) = valids a ++ valids b := by
  unfold valids
  rw [List.flatMap_append]
theorem Dx.new {W w w' : World} {X : Nat → Prop} {l : List (Nat × Dk)} {p : Nat} {d : Dk} (h : Dx W X w l) (hd : Dsk w' (fun b => w.heap.size ≤ b ∧ b < w'.heap.size) p d) (k : Keep w w') : Dx W X w' (l ++ [(p, d)]) := by
  obtain ⟨h0, hx, S, h1, h2, h3⟩ := h
  refine ⟨h0.trans' k, fun b hb => Nat.lt_of_lt_of_le (hx b hb) k.size, fun i => if i < l.length then S i else fun b => w.heap.size ≤ b ∧ b < w'.heap.size, fun i hi => ?_, fun i b hi hb => ?_, fun i j b hi hj hij hb => ?_⟩
  · by_cases hl : i < l.length
    · simp only [hl, if_true]
      rw [List.getElem_append_left hl]
      exact (h1 i hl).keep k
    · simp only [hl, if_false]
      have he : i = l.length := by simp at hi; omega
      subst he
      rw [List.getElem_append_right (Nat.le_refl _)]
      simpa using hd
  · by_cases hl : i < l.length
    · simp only [hl, if_true] at hb
      exact h2 i b hl hb
    · simp only [hl, if_false] at hb
      exact ⟨Nat.le_trans h0.size hb.1, fun hh => by have := hx b hh; omega⟩
  · simp only [List.length_append, List.length_singleton] at hi hj
    by_cases hl : i < l.length
    · simp only [hl, if_true] at hb
      by_cases hm : j < l.length
      · simp only [hm, if_true]
        exact h3 i j b hl hm hij hb
      · simp only [hm, if_false]
        intro hh
        have := (h1 i hl).low b hb
        omega
    · simp only [hl, if_false] at hb
      have hm : j < l.length := by omega
      simp only [hm, if_true]
      intro hh
      have := (h1 j hm).low b hh
      omega
theorem new_dx {W w : World} {X : Nat → Prop} {l : List (Nat × Dk)} (h : Dx W X w l) (n s : Nat) (hn1 : 1 ≤ n) (hn2 : n ≤ 64) (hs1 : 1 ≤ s) (hs2 : s ≤ 65536) : Calls Try.prog 12 #[.int .i64 n, .int .i64 s] w fun e w' => ∃ p, e = .returned (.pointer (some ⟨p, 0, none⟩)) ∧ Dx W X w' (l ++ [(p, newD n s)]) ∧ Keep w w' := by
  refine (new_any n s w hn1 hn2 hs1 hs2).mono ?_
  rintro e w' ⟨p, rfl, hd, hk⟩
  exact ⟨p, rfl, h.new hd hk, hk⟩
/-- two rows of calls, one behind the other -/
theorem both_cl {w : World} {cs ds : List (List Value)} {a b : List Cl} (h1 : cs.length = a.length) (h2 : ds.length = b.length) (p1 : ∀ i (h : i < cs.length) (h' : i < a.length), ∃ dv, cs[i] = a[i].cells dv ∧ SlB w dv a[i].data) (p2 : ∀ i (h : i < ds.length) (h' : i < b.length), ∃ dv, ds[i] = b[i].cells dv ∧ SlB w dv b[i].data) :
    (cs ++ ds).length = (a ++ b).length ∧ ∀ i (h : i < (cs ++ ds).length) (h' : i < (a ++ b).length), ∃ dv, (cs ++ ds)[i] = (a ++ b)[i].cells dv ∧ SlB w dv (a ++ b)[i].data := by
  refine ⟨by simp [h1, h2], fun i h h' => ?_⟩
  by_cases hi : i < cs.length
  · rw [List.getElem_append_left hi, List.getElem_append_left (by omega)]
    exact p1 i hi (by omega)
  · rw [List.getElem_append_right (by omega), List.getElem_append_right (by omega)]
    simp only [List.length_append] at h h'
    have := p2 (i - cs.length) (by omega) (by omega)
    simp only [h1] at this ⊢
    exact this
theorem cl_len {c : Cl} {dv : Value} : (c.cells dv).length = 5 := rfl
theorem cl_one {c : Cl} {a : Option Addr} {n k : Nat} : ∀ v ∈ c.cells (.slice a n k), v.oneCell' = true := by
  intro v hv
  simp only [Cl.cells, List.mem_cons, List.not_mem_nil, or_false] at hv
  rcases hv with rfl | rfl | rfl | rfl | rfl <;> rfl
theorem elemCl : ElemK Try.prog 35 37 (.agg #[.int .i64 0, .int .i64 0, .int .i64 0, .slice none 0 0, .int .u64 0]) 5 56 := ElemK.of Try.underlying35 (by kernel_rfl) (by simp [Value.cells]) (by decide)
set_option maxRecDepth 100000 in
set_option maxHeartbeats 16000000 in
theorem diskAll_any (v u : Value) (a b : List Cl) (w : World) (hA : SlCl w v a) (hB : SlCl w u b) : Calls Try.prog 5 #[v, u] w fun e w' => e = .returned (.bool true) ∧ Keep w w' := by
  obtain ⟨va, vc, rfl, hmx, -⟩ := hA.form
  obtain ⟨ua, uc, rfl, hux, -⟩ := hB.form
  unfold maxLen at hmx hux
  go_enter Try.func5, Try.ntmps5
  go_wp2_with fail
  refine (fit_any _).mono ?_
  rintro e w1 ⟨rfl, k1⟩
  by_cases hl : 60 < a.length
  · have tl : (60 : Int) < (a.length : Int) := by omega
    go_wp2
    go_ret
    exact ⟨rfl, k1⟩
  have tl : ¬ ((60 : Int) < (a.length : Int)) := by omega
  by_cases hl2 : 60 < b.length
  · have tl2 : (60 : Int) < (b.length : Int) := by omega
    go_wp2
    go_ret
    exact ⟨rfl, k1⟩
  have tl2 : ¬ ((60 : Int) < (b.length : Int)) := by omega
  go_wp2_with fail
  refine (new_ds (Ds.nil (Keep.refl w1)) 1 8 (by decide) (by decide) (by decide) (by decide)).mono ?_
  rintro e w2 ⟨p, rfl, h2, k2⟩
  have h2 : Ds w1 w2 [(p, newD 1 8)] := h2
  go_wp2_with fail
  refine (new_ds h2 1 8 (by decide) (by decide) (by decide) (by decide)).mono ?_
  rintro e w3 ⟨q, rfl, h3, k3⟩
  have h3 : Ds w1 w3 [(p, newD 1 8), (q, newD 1 8)] := h3
  go_wp2_with fail
  refine (new_ds h3 1 8 (by decide) (by decide) (by decide) (by decide)).mono ?_
  rintro e w4 ⟨r, rfl, h4, k4⟩
  have h4 : Ds w1 w4 [(p, newD 1 8), (q, newD 1 8), (r, newD 1 8)] := h4
  have s4 := newD_small 1 8
  have i4 := oneI_new
  obtain ⟨Z, hZ⟩ : ∃ Z, (newD 1 8).data = Z := ⟨_, rfl⟩
  rw [hZ] at i4
  have HZ := Lib.hid hZ
  clear hZ
  have hva : valids [] = valids (a.take 0) := rfl
  rw [hva] at i4
  clear hva
  obtain ⟨d4, hd4⟩ : ∃ d4, d4 = newD 1 8 := ⟨_, rfl⟩
  rw [← hd4] at h4 s4 i4
  clear h2 h3 k2 k3 k4 hd4
  go_wp2_with fail
  go_loopw [39] (fun i wr => ∃ (j : Nat) (d : Dk), j ≤ a.length ∧ i = .int .i64 j ∧ OneI d (valids (a.take j)) Z ∧ d.Small j ∧ Dx w1 (fun _ => False) wr [(p, d), (q, d), (r, d)]) (fun i _ => a.length - (intOf i).toNat)
  case atStart => exact ⟨0, d4, Nat.zero_le _, rfl, i4, s4, h4.dx⟩
  case round =>
    obtain ⟨j, d, hj, rfl, hI, hS, hd⟩ := hrel
    clear s4 i4 h4
    by_cases hjn : j < a.length
    rotate_left
    · have hjd : ¬ ((j : Int) < (a.length : Int)) := by omega
      have hee : a.take j = a := List.take_of_length_le (by omega)
      rw [hee] at hI
      have hS := hS.mono (show j ≤ 60 by omega)
      clear hjn hee
      go_wp2_with fail
      refine (barrier_dx hd 0 (by simp) p _ rfl 0).mono ?_
      rintro ee w5 ⟨rfl, h5, -⟩
      have h5 : Dx w1 (fun _ => False) w5 [(p, d.barD 0), (q, d), (r, d)] := h5
      go_wp2_with fail
      refine (barrier_dx h5 1 (by simp) q _ rfl 0).mono ?_
      rintro ee w6 ⟨rfl, h6, -⟩
      have h6 : Dx w1 (fun _ => False) w6 [(p, d.barD 0), (q, d.barD 0), (r, d)] := h6
      go_wp2_with fail
      refine (barrier_dx h6 2 (by simp) r _ rfl 0).mono ?_
      rintro ee w7 ⟨rfl, h7, -⟩
      have h7 : Dx w1 (fun _ => False) w7 [(p, d.barD 0), (q, d.barD 0), (r, d.barD 0)] := h7
      have iD := hI.bar
      have sD := hS.barD 0
      generalize d.barE 0 = E0 at *
      generalize d.barD 0 = D at *
      clear hd h5 h6 hI hS
      obtain ⟨Y, hY⟩ : ∃ Y, Hid (putAll Z (valids a) = Y) := ⟨_, Lib.hid rfl⟩
      rw [hY.out] at iD
      go_wp2_with fail
      go_loopw [70] (fun i wr => ∃ (j : Nat) (d : Dk), j ≤ b.length ∧ i = .int .i64 j ∧ OneI d (valids (b.take j)) Y ∧ d.Small (60 + j) ∧ Dx w1 (fun _ => False) wr [(p, d), (q, d), (r, D)]) (fun i _ => b.length - (intOf i).toNat)
      case atStart => exact ⟨0, D, Nat.zero_le _, rfl, iD, sD, h7⟩
      case round =>
        obtain ⟨j, d, hj, rfl, hI, hS, hd⟩ := hrel
        clear h7
        by_cases hjn : j < b.length
        rotate_left
        · have hjd : ¬ ((j : Int) < (b.length : Int)) := by omega
          have hee : b.take j = b := List.take_of_length_le (by omega)
          rw [hee] at hI
          clear hjn hee hS
          go_wp2_with fail
          refine (new_dx hd 1 8 (by decide) (by decide) (by decide) (by decide)).mono ?_
          rintro ee w8 ⟨t, rfl, h8, k8⟩
          have h8 : Dx w1 (fun _ => False) w8 [(p, d), (q, d), (r, D), (t, newD 1 8)] := h8
          have s8 := newD_small 1 8
          have i8 : OneI (newD 1 8) (valids ((a ++ b).take 0)) Z := ⟨rfl, rfl, HZ.out⟩
          generalize newD 1 8 = d8 at *
          clear hd k8
          have hA8 := hA.keep (k1.trans' h8.k)
          have hB8 := hB.keep (k1.trans' h8.k)
          obtain ⟨ca, sa, la, pa⟩ := hA
          obtain ⟨cb, sb, lb, pb⟩ := hB
          have fa : ∀ y ∈ ca, y.length = 5 := fun y hy => by
            obtain ⟨i, hi, rfl⟩ := List.mem_iff_getElem.1 hy
            obtain ⟨dv, e, _⟩ := pa i hi (by omega)
            rw [e]; rfl
          have fb : ∀ y ∈ cb, y.length = 5 := fun y hy => by
            obtain ⟨i, hi, rfl⟩ := List.mem_iff_getElem.1 hy
            obtain ⟨dv, e, _⟩ := pb i hi (by omega)
            rw [e]; rfl
          have ga : ∀ y ∈ ca, ∀ c ∈ y, c.oneCell' = true := fun y hy c hc => by
            obtain ⟨i, hi, rfl⟩ := List.mem_iff_getElem.1 hy
            obtain ⟨dv, e, hs⟩ := pa i hi (by omega)
            obtain ⟨x1, x2, rfl, -, -, -⟩ := hs.form
            rw [e] at hc
            exact cl_one c hc
          have gb : ∀ y ∈ cb, ∀ c ∈ y, c.oneCell' = true := fun y hy c hc => by
            obtain ⟨i, hi, rfl⟩ := List.mem_iff_getElem.1 hy
            obtain ⟨dv, e, hs⟩ := pb i hi (by omega)
            obtain ⟨x1, x2, rfl, -, -, -⟩ := hs.form
            rw [e] at hc
            exact cl_one c hc
          have sa8 := sa.keep (k1.trans' h8.k)
          have sb8 := sb.keep (k1.trans' h8.k)
          obtain ⟨css, L, hcss, hL, lab, pab⟩ : ∃ (css : List (List Value)) (L : List Cl), ca ++ cb = css ∧ a ++ b = L ∧ css.length = L.length ∧ (∀ i (h : i < css.length) (h' : i < L.length), ∃ dv, css[i] = L[i].cells dv ∧ SlB w dv L[i].data) := ⟨_, _, rfl, rfl, both_cl la lb pa pb⟩
          rw [hL] at i8
          have hL120 : L.length ≤ 120 := by rw [← hL, List.length_append]; omega
          have HL := Lib.hid hL
          have HC := Lib.hid hcss
          clear hL hcss
          clear hA8 hB8 pa pb
          go_upto_region 23 with (fail)
          refine wp_region_seq ?_
          refine seqW_pure rfl ?_
          go_big_quiet_step (fail)
          refine seqW_on ?_
          refine seqW_gives (by kernel_rfl) ?_
          refine Gives.appendK elemCl _ _ rfl rfl rfl (OwnK.nil w8 w8.heap.size _ 5) sa8 fa ga (by unfold maxLen; simp only [List.length_nil]; omega) (by simp only [List.length_nil]; omega) (Nat.le_refl _) fun v9 w9 hO9 hg9 => ?_
          have k9 : Keep w8 w9 := ⟨hg9.os, hg9.tape, hg9.output, hg9.size, fun bb hbb => hg9.block bb hbb (fun e => by cases e)⟩
          have sb9 := sb8.keep k9
          have hd9 := h8.keep k9
          simp only [Act.put, List.setIfInBounds_toArray, List.set_cons_zero, List.set_cons_succ]
          refine seqW_pure rfl ?_
          go_big_quiet_step (fail)
          refine seqW_on ?_
          refine seqW_gives (by kernel_rfl) ?_
          refine Gives.appendK elemCl _ _ rfl rfl rfl hO9 sb9 fb gb (by unfold maxLen; simp only [List.nil_append]; omega) (by simp only [List.nil_append]; omega) k9.size fun vE wE hOE hgE => ?_
          rw [List.nil_append] at hOE
          have kE : Keep w8 wE := k9.trans ⟨hgE.os, hgE.tape, hgE.output, hgE.size, fun bb hbb => hgE.block bb (Nat.lt_of_lt_of_le hbb k9.size) (fun e => by have := (hO9.lt bb e.symm).1; omega)⟩
          rw [HC.out] at hOE
          obtain ⟨ea, ec, hvE, -, -⟩ := (hOE.slc (by decide)).form
          rw [lab] at hvE
          subst hvE
          have hdE := h8.more kE (fun bb => (Value.slice ea L.length ec).ownBlock = some bb) (fun bb hb => .inr (hOE.lt bb hb))
          clear hd9 sb9 k9 hO9 hgE kE sa8 sb8 sa sb fa fb ga gb la lb h8
          simp only [Act.put, List.setIfInBounds_toArray, List.set_cons_zero, List.set_cons_succ]
          refine seqW_pure rfl ?_
          go_big_quiet_step (fail)
          refine seqW_on ?_
          refine seqW_pure rfl ?_
          go_big_quiet_step (fail)
          refine seqW_on ?_
          refine seqW_done ?_
          go_wp2_with fail
          go_loopw [93] (fun i wr => ∃ (j : Nat) (g : Dk), j ≤ L.length ∧ i = .int .i64 j ∧ OneI g (valids (L.take j)) Z ∧ g.Small j ∧ Hid (∀ bb, (Value.slice ea L.length ec).ownBlock = some bb → wr.heap[bb]? = wE.heap[bb]?) ∧ Dx w1 (fun bb => (Value.slice ea L.length ec).ownBlock = some bb) wr [(p, d), (q, d), (r, D), (t, g)]) (fun i _ => L.length - (intOf i).toNat)
          case atStart => exact ⟨0, d8, Nat.zero_le _, rfl, i8, s8, Lib.hid (fun _ _ => rfl), hdE⟩
          case round =>
            obtain ⟨j, g, hj, rfl, hJ, hS, hblk, hd⟩ := hrel
            clear i8 s8 hdE
            by_cases hjn : j < L.length
            rotate_left
            · have hjd : ¬ ((j : Int) < (L.length : Int)) := by omega
              have hee : L.take j = L := List.take_of_length_le (by omega)
              rw [hee] at hJ
              clear hjn hee hS hblk hOE pab
              go_wp2_with fail
              refine (barrier_dx hd 3 (by simp) t _ rfl 0).mono ?_
              rintro ee w5 ⟨rfl, h5, -⟩
              have h5 : Dx w1 (fun bb => (Value.slice ea L.length ec).ownBlock = some bb) w5 [(p, d), (q, d), (r, D), (t, g.barD 0)] := h5
              have iG := hJ.bar
              generalize g.barD 0 = G at *
              generalize g.barE 0 = EG at *
              go_wp2_with fail
              refine (crash_dx h5 0 (by simp) p _ rfl 18446744073709551615 (by decide)).mono ?_
              rintro ee w6 ⟨rfl, h6, -⟩
              have h6 : Dx w1 (fun bb => (Value.slice ea L.length ec).ownBlock = some bb) w6 [(p, d.crash 18446744073709551615), (q, d), (r, D), (t, G)] := h6
              have iP := hI.crash 18446744073709551615
              rw [keep_full] at iP
              generalize d.crash 18446744073709551615 = P at *
              go_wp2_with fail
              refine (crash_dx h6 1 (by simp) q _ rfl 0 (by decide)).mono ?_
              rintro ee w7 ⟨rfl, h7, -⟩
              have h7 : Dx w1 (fun bb => (Value.slice ea L.length ec).ownBlock = some bb) w7 [(p, P), (q, d.crash 0), (r, D), (t, G)] := h7
              have iQ := hI.crash 0
              rw [keep_zero] at iQ
              generalize d.crash 0 = Q at *
              have h7 := h7.base
              have hPG : putAll Z (valids L) = putAll Y (valids b) := by rw [← HL.out, valids_append, putAll_append, hY.out]
              rw [hPG] at iG
              generalize putAll Y (valids b) = T1 at *
              have HP := Lib.hid iP
              have HQ := Lib.hid iQ
              have HD := Lib.hid iD
              have HG := Lib.hid iG
              clear hd h5 h6 hI hJ iP iQ iD iG hPG
              go_wp2_with fail
              go_loopw [110] (fun i wr => ∃ (j : Nat), j ≤ 8 ∧ i = .int .i64 j ∧ Dx w1 (fun _ => False) wr [(p, P), (q, Q), (r, D), (t, G)]) (fun i _ => 8 - (intOf i).toNat)
              case atStart => exact ⟨0, Nat.zero_le _, rfl, h7⟩
              case round =>
                obtain ⟨k, hk, rfl, hd⟩ := hrel
                clear h7
                by_cases hkn : k < 8
                rotate_left
                · have hkd : ¬ ((k : Int) < 8) := by omega
                  have kz := k1.trans' hd.k
                  go_wp2
                  go_ret
                  exact ⟨rfl, kz⟩
                have hkd : (k : Int) < 8 := by omega
                have qP := Lib.hid (HP.out.read k hkn)
                have qG := Lib.hid (HG.out.read k hkn)
                have qQ := Lib.hid (HQ.out.read k hkn)
                have qD := Lib.hid (HD.out.read k hkn)
                generalize T1.getD k [] = R1 at *
                generalize Y.getD k [] = R2 at *
                go_wp2_with fail
                refine (read_dx hd 0 (by simp) p _ rfl 0 k).mono ?_
                rintro ee v0 ⟨u0, rfl, hO0, kk0⟩
                generalize (if P.there 0 k = true then (0 : Int) else 1) = F0
                have hr0 := hd.keep kk0
                have hb0 := hO0.slB
                rw [qP.out] at hb0
                obtain ⟨a0, c0, rfl, -, -, -⟩ := hb0.form
                clear hO0
                clear kk0 hd
                go_wp2_with fail
                refine (read_dx hr0 3 (by simp) t _ rfl 0 k).mono ?_
                rintro ee v1 ⟨u1, rfl, hO1, kk1⟩
                generalize (if G.there 0 k = true then (0 : Int) else 1) = F1
                have hr1 := hr0.keep kk1
                have hb1 := hO1.slB
                rw [qG.out] at hb1
                obtain ⟨a1, c1, rfl, -, -, -⟩ := hb1.form
                clear hO1
                have hb0 := hb0.keep kk1
                clear kk1 hr0
                go_wp2_with fail
                refine (read_dx hr1 1 (by simp) q _ rfl 0 k).mono ?_
                rintro ee v2 ⟨u2, rfl, hO2, kk2⟩
                generalize (if Q.there 0 k = true then (0 : Int) else 1) = F2
                have hr2 := hr1.keep kk2
                have hb2 := hO2.slB
                rw [qQ.out] at hb2
                obtain ⟨a2, c2, rfl, -, -, -⟩ := hb2.form
                clear hO2
                have hb0 := hb0.keep kk2
                have hb1 := hb1.keep kk2
                clear kk2 hr1
                go_wp2_with fail
                refine (read_dx hr2 2 (by simp) r _ rfl 0 k).mono ?_
                rintro ee v3 ⟨u3, rfl, hO3, kk3⟩
                generalize (if D.there 0 k = true then (0 : Int) else 1) = F3
                have hr3 := hr2.keep kk3
                have hb3 := hO3.slB
                rw [qD.out] at hb3
                obtain ⟨a3, c3, rfl, -, -, -⟩ := hb3.form
                clear hO3
                have hb0 := hb0.keep kk3
                have hb1 := hb1.keep kk3
                have hb2 := hb2.keep kk3
                clear kk3 hr2
                go_upto_region 38 with (fail)
                refine wp_region_seq ?_
                refine seqW_pure rfl ?_
                go_big_quiet_step (fail)
                refine seqW_on ?_
                refine seqW_gives (by kernel_rfl) ?_
                refine Gives.toStr Try.underlying27 Try.underlying5 Try.underlying9 _ rfl rfl hb0 ?_
                simp only [Act.put, List.setIfInBounds_toArray, List.set_cons_zero, List.set_cons_succ]
                try simp only [strV]
                refine seqW_pure rfl ?_
                go_big_quiet_step (fail)
                refine seqW_on ?_
                refine seqW_gives (by kernel_rfl) ?_
                refine Gives.toStr Try.underlying27 Try.underlying5 Try.underlying9 _ rfl rfl hb1 ?_
                simp only [Act.put, List.setIfInBounds_toArray, List.set_cons_zero, List.set_cons_succ]
                try simp only [strV]
                refine seqW_gives (by kernel_rfl) ?_
                refine Gives.value (v := .bool false) (w' := v3) (by go_simp) ?_
                simp only [Act.put, List.setIfInBounds_toArray, List.set_cons_zero, List.set_cons_succ]
                refine seqW_pure rfl ?_
                go_big_quiet_step (fail)
                refine seqW_on ?_
                refine seqW_pure rfl ?_
                go_big_quiet_step (fail)
                refine seqW_on ?_
                refine seqW_gives (by kernel_rfl) ?_
                refine Gives.toStr Try.underlying27 Try.underlying5 Try.underlying9 _ rfl rfl hb2 ?_
                simp only [Act.put, List.setIfInBounds_toArray, List.set_cons_zero, List.set_cons_succ]
                try simp only [strV]
                refine seqW_pure rfl ?_
                go_big_quiet_step (fail)
                refine seqW_on ?_
                refine seqW_gives (by kernel_rfl) ?_
                refine Gives.toStr Try.underlying27 Try.underlying5 Try.underlying9 _ rfl rfl hb3 ?_
                simp only [Act.put, List.setIfInBounds_toArray, List.set_cons_zero, List.set_cons_succ]
                try simp only [strV]
                refine seqW_gives (by kernel_rfl) ?_
                refine Gives.value (v := .bool false) (w' := v3) (by go_simp) ?_
                simp only [Act.put, List.setIfInBounds_toArray, List.set_cons_zero, List.set_cons_succ]
                refine seqW_pure rfl ?_
                go_big_quiet_step (fail)
                refine seqW_on ?_
                refine seqW_done ?_
                clear hb0 hb1 hb2 hb3
                go_wp2
                go_roundw
                case rel => exact ⟨k + 1, by omega, by go_num, hr3⟩
                case measure => simp [intOf]; omega
            have hjd : (j : Int) < (L.length : Int) := by omega
            have hvt := valids_take L j hjn
            have hOj := hOE.at (w' := wr) (fun g e _ => hblk.out g e)
            obtain ⟨b0, off, hea, hcell⟩ := (hOj.slc (by decide)).cells (by omega)
            subst hea
            obtain ⟨dv, ee, hdv⟩ := pab j (by omega) hjn
            obtain ⟨da, dc, rfl, -, -, -⟩ := hdv.form
            have hall : ∀ m c, (L[j].cells (.slice da L[j].data.length dc))[m]? = some c → wr.cell? ⟨b0, off + j * 5 + m, none⟩ = some c := fun m c hm => hcell j (by omega) m c (by rw [ee]; exact hm)
            have x0 : wr.cell? ⟨b0, off + j * 5, none⟩ = _ := hall 0 _ rfl
            have x1 : wr.cell? ⟨b0, off + j * 5 + 1, none⟩ = _ := hall 1 _ rfl
            have x2 : wr.cell? ⟨b0, off + j * 5 + 2, none⟩ = _ := hall 2 _ rfl
            have x3 : wr.cell? ⟨b0, off + j * 5 + 3, none⟩ = _ := hall 3 _ rfl
            have x4 : wr.cell? ⟨b0, off + j * 5 + 4, none⟩ = _ := hall 4 _ rfl
            clear hall ee hcell hOj
            generalize L[j] = c at *
            go_upto_region 26 with (fail)
            have kA := Keep.alloc wr (.cells #[.int .i64 c.kind, .int .i64 c.r, .int .i64 c.s, .slice da c.data.length dc, .int .u64 c.mask] 37)
            have hE := heap_alloc_new wr (.cells #[.int .i64 c.kind, .int .i64 c.r, .int .i64 c.s, .slice da c.data.length dc, .int .u64 c.mask] 37)
            have hgx : wr.heap.size < (wr.alloc (.cells #[.int .i64 c.kind, .int .i64 c.r, .int .i64 c.s, .slice da c.data.length dc, .int .u64 c.mask] 37)).heap.size := by simp
            generalize wr.alloc (.cells #[.int .i64 c.kind, .int .i64 c.r, .int .i64 c.s, .slice da c.data.length dc, .int .u64 c.mask] 37) = wA at *
            obtain ⟨gx, hgxe⟩ : ∃ gx, gx = wr.heap.size := ⟨_, rfl⟩
            rw [← hgxe] at hE hgx ⊢
            have hgx := And.intro (Nat.le_of_eq hgxe.symm) hgx
            clear hgxe
            have y0 : wA.cell? ⟨gx, 0, none⟩ = _ := cell_of hE 0 _ rfl
            have y1 : wA.cell? ⟨gx, 1, none⟩ = _ := cell_of hE 1 _ rfl
            have y2 : wA.cell? ⟨gx, 2, none⟩ = _ := cell_of hE 2 _ rfl
            have y3 : wA.cell? ⟨gx, 3, none⟩ = _ := cell_of hE 3 _ rfl
            clear x0 x1 x2 x3 x4
            have hdA := hd.more kA (fun bb => (Value.slice (some ⟨b0, off, none⟩) L.length ec).ownBlock = some bb ∨ bb = gx) (fun b hb => hb.elim .inl (fun hb => .inr (by rw [hb]; exact ⟨hgx.1, hgx.2⟩)))
            have hblk2 : Hid (∀ bb, (Value.slice (some ⟨b0, off, none⟩) L.length ec).ownBlock = some bb → wA.heap[bb]? = wE.heap[bb]?) := Lib.hid fun bb e => (kA.block bb (hd.x bb e)).trans (hblk.out bb e)
            clear kA hd hblk
            go_wp2_with fail
            refine (write_dx hdA 3 (by simp) t _ rfl 0 c.s _ c.data (hdv.keep (k1.trans' hdA.k)) (hS.room (by omega))).mono ?_
            rintro ee wB ⟨rfl, hdB, hX⟩
            have hdB : Dx w1 (fun bb => (Value.slice (some ⟨b0, off, none⟩) L.length ec).ownBlock = some bb ∨ bb = gx) wB [(p, d), (q, d), (r, D), (t, g.wrD 0 c.s c.data)] := hdB
            have hblk3 : Hid (∀ bb, (Value.slice (some ⟨b0, off, none⟩) L.length ec).ownBlock = some bb → wB.heap[bb]? = wE.heap[bb]?) := Lib.hid fun bb e => (hX bb (.inl e)).trans (hblk2.out bb e)
            have hdC := hdB.less (fun bb => (Value.slice (some ⟨b0, off, none⟩) L.length ec).ownBlock = some bb) (fun _ h => .inl h)
            have hJ5 := hJ.write c.s c.data
            rw [← hvt] at hJ5
            have hS5 := hS.wrD 0 c.s c.data
            clear y0 y1 y2 y3 hvt hX hdA hblk2 hJ hS hdB hE
            generalize g.wrD 0 c.s c.data = g5 at *
            go_wp2
            go_roundw
            case rel => exact ⟨j + 1, g5, by omega, by go_num, hJ5, hS5, hblk3, hdC⟩
            case measure => simp [intOf]; omega
        have hjd : (j : Int) < (b.length : Int) := by omega
        have hvt := valids_take b j hjn
        obtain ⟨b0, off, rfl, dv, hdv, x0, x1, x2, x3, x4⟩ := hB.elem j hjn
        obtain ⟨da, dc, rfl, -, -, -⟩ := hdv.form
        have kw := k1.trans' hd.k
        have x0 := kw.cellk x0
        have x1 := kw.cellk x1
        have x2 := kw.cellk x2
        have x3 := kw.cellk x3
        have x4 := kw.cellk x4
        generalize b[j] = c at *
        go_upto_region 19 with (fail)
        have kA := Keep.alloc wr (.cells #[.int .i64 c.kind, .int .i64 c.r, .int .i64 c.s, .slice da c.data.length dc, .int .u64 c.mask] 37)
        have hE := heap_alloc_new wr (.cells #[.int .i64 c.kind, .int .i64 c.r, .int .i64 c.s, .slice da c.data.length dc, .int .u64 c.mask] 37)
        have hgx : wr.heap.size < (wr.alloc (.cells #[.int .i64 c.kind, .int .i64 c.r, .int .i64 c.s, .slice da c.data.length dc, .int .u64 c.mask] 37)).heap.size := by simp
        generalize wr.alloc (.cells #[.int .i64 c.kind, .int .i64 c.r, .int .i64 c.s, .slice da c.data.length dc, .int .u64 c.mask] 37) = wA at *
        obtain ⟨gx, hgxe⟩ : ∃ gx, gx = wr.heap.size := ⟨_, rfl⟩
        rw [← hgxe] at hE hgx ⊢
        have hgx := And.intro (Nat.le_of_eq hgxe.symm) hgx
        clear hgxe
        have y0 : wA.cell? ⟨gx, 0, none⟩ = _ := cell_of hE 0 _ rfl
        have y1 : wA.cell? ⟨gx, 1, none⟩ = _ := cell_of hE 1 _ rfl
        have y2 : wA.cell? ⟨gx, 2, none⟩ = _ := cell_of hE 2 _ rfl
        have y3 : wA.cell? ⟨gx, 3, none⟩ = _ := cell_of hE 3 _ rfl
        clear x0 x1 x2 x3 x4
        have hdA := hd.more kA (fun b => b = gx) (fun b hb => .inr (by rw [hb]; exact ⟨hgx.1, hgx.2⟩))
        clear kA hd kw
        go_wp2_with fail
        refine (write_dx hdA 0 (by simp) p _ rfl 0 c.s _ c.data (hdv.keep (k1.trans' hdA.k)) (hS.room (by omega))).mono ?_
        rintro ee wB0 ⟨rfl, hdB0, hX0⟩
        have hdB0 : Dx w1 (fun b => b = gx) wB0 [(p, d.wrD 0 c.s c.data), (q, d), (r, D)] := hdB0
        have hE := (hX0 gx rfl).trans hE
        clear y0 y1 y2 y3 hX0 hdA
        have y0 : wB0.cell? ⟨gx, 0, none⟩ = _ := cell_of hE 0 _ rfl
        have y1 : wB0.cell? ⟨gx, 1, none⟩ = _ := cell_of hE 1 _ rfl
        have y2 : wB0.cell? ⟨gx, 2, none⟩ = _ := cell_of hE 2 _ rfl
        have y3 : wB0.cell? ⟨gx, 3, none⟩ = _ := cell_of hE 3 _ rfl
        go_wp2_with fail
        refine (write_dx hdB0 1 (by simp) q _ rfl 0 c.s _ c.data (hdv.keep (k1.trans' hdB0.k)) (hS.room (by omega))).mono ?_
        rintro ee wB1 ⟨rfl, hdB1, hX1⟩
        have hdB1 : Dx w1 (fun b => b = gx) wB1 [(p, d.wrD 0 c.s c.data), (q, d.wrD 0 c.s c.data), (r, D)] := hdB1
        have hE := (hX1 gx rfl).trans hE
        clear y0 y1 y2 y3 hX1 hdB0
        have y0 : wB1.cell? ⟨gx, 0, none⟩ = _ := cell_of hE 0 _ rfl
        have y1 : wB1.cell? ⟨gx, 1, none⟩ = _ := cell_of hE 1 _ rfl
        have y2 : wB1.cell? ⟨gx, 2, none⟩ = _ := cell_of hE 2 _ rfl
        have y3 : wB1.cell? ⟨gx, 3, none⟩ = _ := cell_of hE 3 _ rfl
        have hI5 := hI.write c.s c.data
        have hS5 := hS.wrD 0 c.s c.data
        rw [← hvt] at hI5
        have hdB1 := hdB1.base
        clear y0 y1 y2 y3 hvt hI hS
        generalize d.wrD 0 c.s c.data = d5 at *
        clear hE
        go_wp2
        go_roundw
        case rel => exact ⟨j + 1, d5, by omega, by go_num, hI5, hS5, hdB1⟩
        case measure => simp [intOf]; omega
    have hjd : (j : Int) < (a.length : Int) := by omega
    have hvt := valids_take a j hjn
    obtain ⟨b0, off, rfl, dv, hdv, x0, x1, x2, x3, x4⟩ := hA.elem j hjn
    obtain ⟨da, dc, rfl, -, -, -⟩ := hdv.form
    have kw := k1.trans' hd.k
    have x0 := kw.cellk x0
    have x1 := kw.cellk x1
    have x2 := kw.cellk x2
    have x3 := kw.cellk x3
    have x4 := kw.cellk x4
    generalize a[j] = c at *
    go_upto_region 9 with (fail)
    have kA := Keep.alloc wr (.cells #[.int .i64 c.kind, .int .i64 c.r, .int .i64 c.s, .slice da c.data.length dc, .int .u64 c.mask] 37)
    have hE := heap_alloc_new wr (.cells #[.int .i64 c.kind, .int .i64 c.r, .int .i64 c.s, .slice da c.data.length dc, .int .u64 c.mask] 37)
    have hgx : wr.heap.size < (wr.alloc (.cells #[.int .i64 c.kind, .int .i64 c.r, .int .i64 c.s, .slice da c.data.length dc, .int .u64 c.mask] 37)).heap.size := by simp
    generalize wr.alloc (.cells #[.int .i64 c.kind, .int .i64 c.r, .int .i64 c.s, .slice da c.data.length dc, .int .u64 c.mask] 37) = wA at *
    obtain ⟨gx, hgxe⟩ : ∃ gx, gx = wr.heap.size := ⟨_, rfl⟩
    rw [← hgxe] at hE hgx ⊢
    have hgx := And.intro (Nat.le_of_eq hgxe.symm) hgx
    clear hgxe
    have y0 : wA.cell? ⟨gx, 0, none⟩ = _ := cell_of hE 0 _ rfl
    have y1 : wA.cell? ⟨gx, 1, none⟩ = _ := cell_of hE 1 _ rfl
    have y2 : wA.cell? ⟨gx, 2, none⟩ = _ := cell_of hE 2 _ rfl
    have y3 : wA.cell? ⟨gx, 3, none⟩ = _ := cell_of hE 3 _ rfl
    clear x0 x1 x2 x3 x4
    have hdA := hd.more kA (fun b => b = gx) (fun b hb => .inr (by rw [hb]; exact ⟨hgx.1, hgx.2⟩))
    clear kA hd kw
    go_wp2_with fail
    refine (write_dx hdA 0 (by simp) p _ rfl 0 c.s _ c.data (hdv.keep (k1.trans' hdA.k)) (hS.room (by omega))).mono ?_
    rintro ee wB0 ⟨rfl, hdB0, hX0⟩
    have hdB0 : Dx w1 (fun b => b = gx) wB0 [(p, d.wrD 0 c.s c.data), (q, d), (r, d)] := hdB0
    have hE := (hX0 gx rfl).trans hE
    clear y0 y1 y2 y3 hX0 hdA
    have y0 : wB0.cell? ⟨gx, 0, none⟩ = _ := cell_of hE 0 _ rfl
    have y1 : wB0.cell? ⟨gx, 1, none⟩ = _ := cell_of hE 1 _ rfl
    have y2 : wB0.cell? ⟨gx, 2, none⟩ = _ := cell_of hE 2 _ rfl
    have y3 : wB0.cell? ⟨gx, 3, none⟩ = _ := cell_of hE 3 _ rfl
    go_wp2_with fail
    refine (write_dx hdB0 1 (by simp) q _ rfl 0 c.s _ c.data (hdv.keep (k1.trans' hdB0.k)) (hS.room (by omega))).mono ?_
    rintro ee wB1 ⟨rfl, hdB1, hX1⟩
    have hdB1 : Dx w1 (fun b => b = gx) wB1 [(p, d.wrD 0 c.s c.data), (q, d.wrD 0 c.s c.data), (r, d)] := hdB1
    have hE := (hX1 gx rfl).trans hE
    clear y0 y1 y2 y3 hX1 hdB0
    have y0 : wB1.cell? ⟨gx, 0, none⟩ = _ := cell_of hE 0 _ rfl
    have y1 : wB1.cell? ⟨gx, 1, none⟩ = _ := cell_of hE 1 _ rfl
    have y2 : wB1.cell? ⟨gx, 2, none⟩ = _ := cell_of hE 2 _ rfl
    have y3 : wB1.cell? ⟨gx, 3, none⟩ = _ := cell_of hE 3 _ rfl
    go_wp2_with fail
    refine (write_dx hdB1 2 (by simp) r _ rfl 0 c.s _ c.data (hdv.keep (k1.trans' hdB1.k)) (hS.room (by omega))).mono ?_
    rintro ee wB2 ⟨rfl, hdB2, hX2⟩
    have hdB2 : Dx w1 (fun b => b = gx) wB2 [(p, d.wrD 0 c.s c.data), (q, d.wrD 0 c.s c.data), (r, d.wrD 0 c.s c.data)] := hdB2
    have hE := (hX2 gx rfl).trans hE
    clear y0 y1 y2 y3 hX2 hdB1
    have y0 : wB2.cell? ⟨gx, 0, none⟩ = _ := cell_of hE 0 _ rfl
    have y1 : wB2.cell? ⟨gx, 1, none⟩ = _ := cell_of hE 1 _ rfl
    have y2 : wB2.cell? ⟨gx, 2, none⟩ = _ := cell_of hE 2 _ rfl
    have y3 : wB2.cell? ⟨gx, 3, none⟩ = _ := cell_of hE 3 _ rfl
    have hI5 := hI.write c.s c.data
    have hS5 := hS.wrD 0 c.s c.data
    rw [← hvt] at hI5
    have hdB2 := hdB2.base
    clear y0 y1 y2 y3 hvt hI hS
    generalize d.wrD 0 c.s c.data = d5 at *
    clear hE
    go_wp2
    go_roundw
    case rel => exact ⟨j + 1, d5, by omega, by go_num, hI5, hS5, hdB2⟩
    case measure => simp [intOf]; omega
end Go.Proofs.Ytnbadlhkcpjjmaa
