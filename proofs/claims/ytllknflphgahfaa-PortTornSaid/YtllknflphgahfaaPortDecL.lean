/- What bytes tell, as rows: no Go, no memory. -/
import Derived.Test.YtllknflphgahfaaRwL
namespace Go.Proofs.Ytllknflphgahfaa
open Go

/-- what a reader gives next -/
def readR (s : Pk.RS) : Rw × Pk.RS :=
  let a := Pk.numN s 1
  let k := Pk.text a.2
  let v := Pk.text k.2
  (⟨(a.1 : Int), k.1, v.1⟩, v.2)
/-- does it come behind what was read? -/
def follows (out : List Rw) (r : Rw) : Bool := match out.getLast? with
  | none => true
  | some x => x.less r
def stepOk (out : List Rw) (q : Rw × Pk.RS) : Bool := !q.2.bad && q.1.right && follows out q.1
def decR : Nat → List Rw → Pk.RS → Option (List Rw × Pk.RS)
  | 0, out, s => some (out, s)
  | n + 1, out, s => if stepOk out (readR s) = true then decR n (out ++ [(readR s).1]) (readR s).2 else none
def endR (x : Option (List Rw × Pk.RS)) : List Rw × Int := match x with
  | none => ([], 9)
  | some (out, s) => if s.bad = true ∨ 0 < s.l.length then ([], 9) else if 30 < out.length then ([], 7) else (out, 0)
def headOk (b : List UInt8) : Prop := 10 ≤ b.length ∧ b.take 4 = magicL ∧ Pk.num (b.drop (b.length - 4)) = (Crc.sum (b.take (b.length - 4))).toNat
instance (b : List UInt8) : Decidable (headOk b) := by unfold headOk; infer_instance
def midR (b : List UInt8) : Pk.RS := ⟨(b.take (b.length - 4)).drop 4, false⟩
def portDec (b : List UInt8) : List Rw × Int :=
  if headOk b then endR (decR (Pk.numN (midR b) 2).1 [] (Pk.numN (midR b) 2).2) else ([], 9)

theorem rs_eta {s : Pk.RS} (h : s.bad = false) : s = ⟨s.l, false⟩ := by cases s; simp_all
theorem ofNat_mod (x : Nat) : UInt8.ofNat x = UInt8.ofNat (x % 256) := UInt8.toNat_inj.1 (by simp)

theorem readR_fwd (r : Rw) (h : r.right = true) (l : List UInt8) : readR ⟨r.enc ++ l, false⟩ = (r, ⟨l, false⟩) := by
  obtain ⟨h1, h2, h3, h4⟩ := (Rw.right_iff r).1 h
  have e : r.enc ++ l = Pk.be r.t.toNat 1 ++ (Pk.be r.k.length 1 ++ (r.k ++ (Pk.be r.v.length 1 ++ (r.v ++ l)))) := by
    have e1 : (r.t % 256).toNat = r.t.toNat := by omega
    have b1 : ∀ (x : Nat) (k : List UInt8), Pk.be x 1 ++ k = UInt8.ofNat x :: k := fun x k => by
      have : UInt8.ofNat (x % 256) = UInt8.ofNat x := (ofNat_mod x).symm
      simp [Pk.be, this]
    unfold Rw.enc
    rw [b1, b1, b1, e1]
    simp
  unfold readR
  have f1 := fun l => Pk.numN_fwd r.t.toNat 1 (by omega) (by omega) l
  have f2 := fun l => Pk.text_fwd r.k l (by omega)
  have f3 := fun l => Pk.text_fwd r.v l (by omega)
  simp only [Int.natCast_one] at f1
  rw [e]
  simp only [f1, f2, f3]
  rw [Int.toNat_of_nonneg h1]
theorem readR_back (s : Pk.RS) (h : (readR s).2.bad = false) (hr : (readR s).1.right = true) : s.bad = false ∧ s.l = (readR s).1.enc ++ (readR s).2.l := by
  unfold readR at h hr ⊢
  simp only at h hr ⊢
  generalize ha : Pk.numN s 1 = a at *
  generalize hk : Pk.text a.2 = k at *
  generalize hv : Pk.text k.2 = v at *
  obtain ⟨a, sa⟩ := a
  obtain ⟨k, sk⟩ := k
  obtain ⟨v, sv⟩ := v
  simp only at *
  rw [rs_eta h] at hv
  obtain ⟨b2, l2, x2⟩ := Pk.text_back hv
  rw [rs_eta b2] at hk
  obtain ⟨b1, l1, x1⟩ := Pk.text_back hk
  rw [rs_eta b1] at ha
  obtain ⟨b0, l0, x0⟩ := Pk.numN_back (n := 1) (by omega) ha
  refine ⟨b0, ?_⟩
  rw [l0, l1, l2]
  have b1' : ∀ (x : Nat) (k : List UInt8), Pk.be x 1 ++ k = UInt8.ofNat x :: k := fun x k => by
    have : UInt8.ofNat (x % 256) = UInt8.ofNat x := (ofNat_mod x).symm
    simp [Pk.be, this]
  have e1 : ((a : Int) % 256).toNat = a := by omega
  unfold Rw.enc
  rw [b1', b1', b1']
  simp [e1]
theorem readR_len (s : Pk.RS) : (readR s).2.l.length ≤ s.l.length := by
  have tl : ∀ s : Pk.RS, (Pk.text s).2.l.length ≤ s.l.length := fun s => Nat.le_trans (Pk.take_len _ _).2 (Pk.take_len _ _).2
  exact Nat.le_trans (tl _) (Nat.le_trans (tl _) (Pk.take_len _ _).2)

theorem follows_of {out : List Rw} {r : Rw} (h : out ≠ [] → (out.getLast?).all (fun x => x.less r) = true) : follows out r = true := by
  unfold follows
  cases hl : out.getLast? with
  | none => rfl
  | some x =>
    have := h (by intro e; rw [e] at hl; simp at hl)
    rw [hl] at this
    simpa using this
/-- all rows of a list that rises, forth -/
theorem decR_fwd : ∀ (l out : List Rw) (rest : List UInt8), Rise (out ++ l) → decR l.length out ⟨rowsL l ++ rest, false⟩ = some (out ++ l, ⟨rest, false⟩)
  | [], out, rest, _ => by simp [decR, rowsL]
  | r :: l, out, rest, h => by
    have hr : r.right = true := h.right r (by simp)
    have e : rowsL (r :: l) ++ rest = r.enc ++ (rowsL l ++ rest) := by rw [rowsL_cons, List.append_assoc]
    have hf := readR_fwd r hr (rowsL l ++ rest)
    simp only [List.length_cons, decR]
    rw [e, hf]
    have hfo : follows out r = true := by
      unfold follows
      cases hl : out.getLast? with
      | none => rfl
      | some x =>
        have hne : out ≠ [] := by intro e; rw [e] at hl; simp at hl
        have hpos := List.length_pos_iff.2 hne
        have hs := h.step (out.length - 1) (by simp; omega)
        have e1 : (out ++ r :: l)[out.length - 1]'(by simp; omega) = x := by
          rw [List.getElem_append_left (by omega)]
          rw [List.getLast?_eq_getElem?, List.getElem?_eq_getElem (by omega)] at hl
          exact Option.some.inj hl
        have e2 : (out ++ r :: l)[out.length - 1 + 1]'(by simp; omega) = r := by
          rw [List.getElem_append_right (by omega)]
          have : out.length - 1 + 1 - out.length = 0 := by omega
          simp only [this, List.getElem_cons_zero]
        rw [e1, e2] at hs
        exact hs
    rw [if_pos (by simp [stepOk, hr, hfo])]
    have := decR_fwd l (out ++ [r]) rest (by simpa using h)
    simpa using this
/-- and back -/
theorem decR_back : ∀ (n : Nat) (out : List Rw) (s : Pk.RS) (l : List Rw) (t : Pk.RS), decR n out s = some (l, t) → t.bad = false → Rise out → s.bad = false ∧ Rise l ∧ l.length = out.length + n ∧ ∃ k, l = out ++ k ∧ s.l = rowsL k ++ t.l
  | 0, out, s, l, t, h, ht, ho => by
    simp only [decR, Option.some.injEq, Prod.mk.injEq] at h
    obtain ⟨rfl, rfl⟩ := h
    exact ⟨ht, ho, rfl, [], by simp, by simp [rowsL]⟩
  | n + 1, out, s, l, t, h, ht, ho => by
    simp only [decR] at h
    split at h
    · rename_i hok
      simp only [stepOk, Bool.and_eq_true, Bool.not_eq_true'] at hok
      obtain ⟨⟨hb, hr⟩, hfo⟩ := hok
      obtain ⟨hsb, hsl⟩ := readR_back s hb hr
      have ho' : Rise (out ++ [(readR s).1]) := ho.snoc _ hr (fun hpos => by
        unfold follows at hfo
        rw [List.getLast?_eq_getElem?, List.getElem?_eq_getElem (by omega)] at hfo
        exact hfo)
      obtain ⟨_, h2, h3, k, h4, h5⟩ := decR_back n _ _ l t h ht ho'
      refine ⟨hsb, h2, by rw [h3]; simp; omega, (readR s).1 :: k, by rw [h4]; simp, ?_⟩
      rw [hsl, h5, rowsL_cons, List.append_assoc]
    · cases h

theorem num_crcL (l : List UInt8) : Pk.num (crcL l) = (Crc.sum l).toNat := by
  unfold crcL
  rw [Pk.num_be _ _ (by omega)]
  have := (Crc.sum l).isLt
  exact Nat.mod_eq_of_lt (by omega)
theorem portL_take (l : List Rw) : (portL l).take ((portL l).length - 4) = bodyL l := by
  have h : (portL l).length - 4 = (bodyL l).length := by unfold portL; rw [List.length_append, crcL_length]; omega
  rw [h]
  unfold portL
  exact List.take_left' rfl
theorem portL_drop (l : List Rw) : (portL l).drop ((portL l).length - 4) = crcL (bodyL l) := by
  have h : (portL l).length - 4 = (bodyL l).length := by unfold portL; rw [List.length_append, crcL_length]; omega
  rw [h]
  unfold portL
  exact List.drop_left' rfl
theorem bodyL_drop (l : List Rw) : (bodyL l).drop 4 = Pk.be l.length 2 ++ rowsL l := by
  unfold bodyL
  exact List.drop_left' rfl
theorem portDec_fwd (l : List Rw) (h : Rise l) (hl : l.length < 65536) : portDec (portL l) = if 30 < l.length then ([], 7) else (l, 0) := by
  have hh : headOk (portL l) := by
    refine ⟨by rw [portL_length]; omega, ?_, ?_⟩
    · unfold portL bodyL
      rw [List.append_assoc]
      exact List.take_left' rfl
    · rw [portL_take, portL_drop, num_crcL]
  unfold portDec
  rw [if_pos hh]
  have hm : midR (portL l) = ⟨Pk.be l.length 2 ++ rowsL l, false⟩ := by
    unfold midR
    rw [portL_take, bodyL_drop]
  have h2 := Pk.numN_fwd l.length 2 (by omega) (by omega) (rowsL l)
  rw [hm, show ((2 : Nat) : Int) = 2 from rfl] at *
  rw [h2]
  have h3 := decR_fwd l [] [] (by simpa using h)
  rw [List.append_nil] at h3
  rw [h3]
  unfold endR
  simp
theorem portDec_back (b : List UInt8) : portDec b = ([], 9) ∨ ∃ l, Rise l ∧ l.length < 65536 ∧ b = portL l := by
  by_cases hh : headOk b
  · have hd : portDec b = endR (decR (Pk.numN (midR b) 2).1 [] (Pk.numN (midR b) 2).2) := by unfold portDec; rw [if_pos hh]
    obtain ⟨h10, hmag, hsum⟩ := hh
    cases hdec : decR (Pk.numN (midR b) 2).1 [] (Pk.numN (midR b) 2).2 with
    | none => rw [hd, hdec]; exact .inl rfl
    | some x =>
      obtain ⟨l, t⟩ := x
      rw [hd, hdec]
      by_cases hc : t.bad = true ∨ 0 < t.l.length
      · exact .inl (by unfold endR; simp only; rw [if_pos hc])
      · right
        have hb : t.bad = false := by
          cases h : t.bad with
          | true => exact absurd (.inl h) hc
          | false => rfl
        have hz : t.l = [] := List.eq_nil_of_length_eq_zero (by
          rcases Nat.eq_zero_or_pos t.l.length with h | h
          · exact h
          · exact absurd (.inr h) hc)
        obtain ⟨h1, h2, h3, k, h4, h5⟩ := decR_back _ _ _ _ _ hdec hb trivial
        simp only [List.nil_append] at h4
        subst h4
        rw [hz, List.append_nil] at h5
        have hx : Pk.numN (midR b) 2 = ((Pk.numN (midR b) 2).1, ⟨(Pk.numN (midR b) 2).2.l, false⟩) := by rw [← rs_eta h1]
        obtain ⟨_, h6, h7⟩ := Pk.numN_back (n := 2) (by omega) hx
        rw [h5] at h6
        simp only [List.length_nil, Nat.zero_add] at h3
        rw [← h3] at h6 h7
        refine ⟨l, h2, by omega, ?_⟩
        have hbody : b.take (b.length - 4) = bodyL l := by
          have e1 : b.take (b.length - 4) = (b.take (b.length - 4)).take 4 ++ (b.take (b.length - 4)).drop 4 := (List.take_append_drop _ _).symm
          have e2 : (b.take (b.length - 4)).take 4 = magicL := by rw [List.take_take, Nat.min_eq_left (by omega)]; exact hmag
          have e3 : (b.take (b.length - 4)).drop 4 = Pk.be l.length 2 ++ rowsL l := h6
          rw [e1, e2, e3]
          rfl
        have htail : b.drop (b.length - 4) = crcL (bodyL l) := by
          have e1 : (b.drop (b.length - 4)).length = 4 := by rw [List.length_drop]; omega
          have e2 := Pk.be_num (b.drop (b.length - 4)) (by omega)
          rw [e1, hsum, hbody] at e2
          exact e2.symm
        rw [← List.take_append_drop (b.length - 4) b, hbody, htail]
        rfl
  · exact .inl (by unfold portDec; rw [if_neg hh])
theorem portDec_none (b : List UInt8) (h : (portDec b).2 ≠ 0) : (portDec b).1 = [] := by
  rcases portDec_back b with e | ⟨l, h1, h2, rfl⟩
  · rw [e]
  · rw [portDec_fwd l h1 h2] at h ⊢
    split
    · rfl
    · rename_i hc
      rw [if_neg hc] at h
      exact absurd rfl h
theorem portDec_rise (b : List UInt8) : Rise (portDec b).1 := by
  rcases portDec_back b with e | ⟨l, h1, h2, rfl⟩
  · rw [e]; trivial
  · rw [portDec_fwd l h1 h2]
    split
    · trivial
    · exact h1
end Go.Proofs.Ytllknflphgahfaa
