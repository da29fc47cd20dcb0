/- What RollSettles asks of disks and of its map, plainly. -/
import Derived.Test.YthknhonpcmneaaaRollL
import Derived.Test.YthknhonpcmneaaaAndLow
import Derived.Maps.Own
import Derived.Maps.Views
namespace Go.Proofs.Ythknhonpcmneaaa
open Go Go.RowKit Go.Maps

def sev : List UInt8 := pad [7]
theorem sev_length : sev.length = 64 := by decide
/-- the sector of a number -/
def secI (x : Int) : Int := 1 + Go.bits .and .i64 x 511
theorem secI_nat (x : Int) : ∃ c : Nat, c ≤ 511 ∧ Go.bits .and .i64 x 511 = (c : Int) ∧ secI x = ((1 + c : Nat) : Int) := by
  obtain ⟨c, h1, h2⟩ := and_low x 511 9 rfl (by decide)
  have h2' : Go.bits .and .i64 x 511 = (c : Int) := h2
  refine ⟨c, h1, h2', ?_⟩
  unfold secI
  rw [h2']
  omega
/-- is a sector among these -/
def jb (l : List Int) (t : Nat) : Bool := l.any fun x => secI x == (t : Int)
theorem jb_snoc (l : List Int) (x : Int) (t : Nat) : jb (l ++ [x]) t = (jb l t || secI x == (t : Int)) := by simp [jb]
theorem jb_take (l : List Int) (i t : Nat) (h : i < l.length) : jb (l.take (i + 1)) t = (jb (l.take i) t || secI l[i] == (t : Int)) := by
  rw [List.take_succ_eq_append_getElem h, jb_snoc]
/-- two regions, region 1 as these writes leave it -/
structure Jnk (l : List Int) (d : Dk) (K : Nat) : Prop where
  size : d.size = 538
  regs : d.regs.length = 2
  armed : (d.rg 1).armed = false
  zero : (d.rg 0).waits = []
  small : d.Small K
  read : ∀ t, t < 538 → d.read 1 t = if jb l t = true then sev else z64
theorem newD_jnk : Jnk [] (newD 2 538) 0 := ⟨rfl, rfl, by rw [newD_rg]; rfl, by rw [newD_rg]; rfl, newD_small 2 538, fun t ht => (newD_read 2 538 1 t (by decide) ht).trans (by rw [if_neg (by simp [jb])])⟩
theorem Jnk.write {l : List Int} {d : Dk} {K c : Nat} (h : Jnk l d K) (ok : d.Ok) (x : Int) (hc : c ≤ 511) (hx : secI x = ((1 + c : Nat) : Int)) : Jnk (l ++ [x]) (d.wrD 1 ((1 + c : Nat) : Int) [7]) (K + 1) := by
  have hr : 1 < d.regs.length := by rw [h.regs]; decide
  have hs : 1 + c < d.size := by rw [h.size]; omega
  have e : d.wrD 1 ((1 + c : Nat) : Int) [7] = d.write 1 (1 + c) [7] := (Dk.wrD_at (r := 1) (s := 1 + c) ok hr hs (by decide)).trans (by rw [if_neg (by rw [Dk.down_eq, h.armed]; simp)])
  rw [e]
  refine ⟨h.size, (Dk.write_regs _ _ _ _).trans h.regs, ?_, ?_, h.small.write 1 (1 + c) [7], fun t ht => ?_⟩
  · rw [Dk.write_rg d 1 _ 1 _ hr, if_pos rfl]; exact h.armed
  · rw [Dk.write_rg d 1 _ 0 _ hr, if_neg (by decide)]; exact h.zero
  · rw [Dk.read_write d 1 (1 + c) 1 t [7] hr, jb_snoc, hx]
    by_cases et : t = 1 + c
    · subst et
      rw [if_pos ⟨rfl, rfl⟩, if_pos (by simp)]
      rfl
    · rw [if_neg (fun h => et h.2), h.read t ht]
      have : (((1 + c : Nat) : Int) == (t : Int)) = false := by rw [beq_eq_false_iff_ne]; omega
      rw [this, Bool.or_false]
/-- .. behind a barrier -/
theorem Jnk.bar {l : List Int} {d : Dk} {K : Nat} (h : Jnk l d K) (ok : d.Ok) : Jnk l (d.barD 1) K := by
  have hr : 1 < d.regs.length := by rw [h.regs]; decide
  have hF : Did d (d.barD 1) 1 (fun _ => none) 0 (d.barE 1) := (Mid.start d 1).bar ok hr (Nat.le_refl 0)
  obtain ⟨e0, ha⟩ := hF.up h.armed
  obtain ⟨hw, hrd⟩ := hF.done e0
  refine ⟨hF.size.trans h.size, hF.regs.trans h.regs, ha, by rw [(hF.other 0 (by decide)).1]; exact h.zero, hF.small K h.small, fun t ht => ?_⟩
  exact (hrd t (by rw [h.size]; exact ht)).trans (h.read t ht)
/-- .. with a line -/
structure Jln (l : List Int) (st ct : Nat) (d : Dk) (K : Nat) : Prop where
  size : d.size = 538
  regs : d.regs.length = 2
  armed : (d.rg 1).armed = false
  calm : ∀ i, (d.rg i).waits = []
  small : d.Small K
  line : lineOf (d.read 1 0) = (st, ct)
  read : ∀ t, 1 ≤ t → t < 538 → d.read 1 t = if jb l t = true then sev else z64
theorem calm_two {d : Dk} (hr : d.regs.length = 2) (h0 : (d.rg 0).waits = []) (h1 : (d.rg 1).waits = []) : ∀ i, (d.rg i).waits = []
  | 0 => h0
  | 1 => h1
  | i + 2 => by unfold Dk.rg; rw [List.getElem?_eq_none (by omega)]; rfl
theorem Jnk.line {l : List Int} {d d' : Dk} {K st ct : Nat} {e : Int} (h : Jnk l d K) (hs : st ≤ 2) (hc : ct < 4294967296) (hF : Did d d' 1 (lineN st ct) 1 e) : e = 0 ∧ Jln l st ct d' (K + 1) := by
  obtain ⟨rfl, ha⟩ := hF.up h.armed
  obtain ⟨hw, hr⟩ := hF.done rfl
  have hrg := hF.regs.trans h.regs
  refine ⟨rfl, hF.size.trans h.size, hrg, ha, calm_two hrg (by rw [(hF.other 0 (by decide)).1]; exact h.zero) hw, hF.small K h.small, ?_, fun t h1 h2 => ?_⟩
  · rw [hr 0 (by rw [h.size]; decide)]
    exact lineOf_pad st ct hs hc
  · rw [hr t (by rw [h.size]; exact h2)]
    have : lineN st ct t = none := by unfold lineN; rw [if_neg (by omega)]
    rw [this]
    exact h.read t h2
def wantS (st : Nat) : Nat := if st = 2 then 0 else st
/-- .. settled -/
structure Jfin (l : List Int) (st ct : Nat) (d : Dk) : Prop where
  size : d.size = 538
  regs : d.regs.length = 2
  calm : ∀ i, (d.rg i).waits = []
  line : lineOf (d.read 1 0) = (wantS st, ct)
  read : ∀ t, 1 ≤ t → t < 538 → d.read 1 t = if jb l t = true ∧ st = 1 then sev else z64
theorem Jln.settled {l : List Int} {d d' : Dk} {K st ct st' : Nat} {e : Int} (h : Jln l st ct d K) (hst : st ≤ 2) (hc : ct < 4294967296) (hS : Settled d d' 1 st' e) : e = 0 ∧ st' = wantS st ∧ (lineOf (d.read 1 0)).2 = ct ∧ Jfin l st ct d' := by
  have hct : (lineOf (d.read 1 0)).2 = ct := by rw [h.line]
  rcases hS with ⟨h1, rfl, rfl, rfl⟩ | ⟨h1, d1, e1, hF, hS⟩
  · rw [h.line] at h1
    have h1' : st = 1 := h1
    subst h1'
    refine ⟨rfl, rfl, hct, h.size, h.regs, h.calm, h.line, fun t ha hb => ?_⟩
    rw [h.read t ha hb]
    simp
  rw [h.line] at h1
  have h1' : st ≠ 1 := h1
  obtain ⟨rfl, ha⟩ := hF.up h.armed
  obtain ⟨hw, hr⟩ := hF.done rfl
  have hrg := hF.regs.trans h.regs
  have hsz := hF.size.trans h.size
  have hcalm : ∀ i, (d1.rg i).waits = [] := calm_two hrg (by rw [(hF.other 0 (by decide)).1]; exact h.calm 0) hw
  have hz : ∀ t, 1 ≤ t → t < 538 → d1.read 1 t = z64 := fun t h1 h2 => by
    rw [hr t (by rw [h.size]; exact h2)]
    unfold wipeN
    rw [if_pos ⟨h1, h2⟩]
    rfl
  rcases hS with ⟨hx, -⟩ | ⟨-, h2, rfl, rfl, h3⟩ | ⟨-, h2, rfl, hF2⟩
  · exact absurd rfl hx
  · rw [h.line] at h2 h3
    have h2' : st ≠ 2 := h2
    have h3' : st' = st := h3
    have hwn : wantS st = st := by unfold wantS; rw [if_neg h2']
    refine ⟨rfl, by rw [hwn, h3'], hct, hsz, hrg, hcalm, ?_, fun t ha hb => ?_⟩
    · rw [hr 0 (by rw [h.size]; decide)]
      have : wipeN 1 538 0 = none := by decide
      rw [this, hwn]
      exact h.line
    · rw [hz t ha hb, if_neg (fun h => h1' h.2)]
  · rw [h.line] at h2
    have h2' : st = 2 := h2
    subst h2'
    rw [hct] at hF2
    obtain ⟨rfl, -⟩ := hF2.up ha
    obtain ⟨hw2, hr2⟩ := hF2.done rfl
    have hrg2 := hF2.regs.trans hrg
    refine ⟨rfl, rfl, hct, hF2.size.trans hsz, hrg2, calm_two hrg2 (by rw [(hF2.other 0 (by decide)).1]; exact hcalm 0) hw2, ?_, fun t ha hb => ?_⟩
    · rw [hr2 0 (by rw [hsz]; decide)]
      exact lineOf_pad 0 ct (by decide) hc
    · rw [hr2 t (by rw [hsz]; exact hb)]
      have : lineN 0 ct t = none := by unfold lineN; rw [if_neg (by omega)]
      rw [this, if_neg (fun h => h1' h.2)]
      exact hz t ha hb
theorem Jfin.crash {l : List Int} {st ct : Nat} {d : Dk} (h : Jfin l st ct d) (m : Nat) : Jfin l st ct (d.crash m) :=
  ⟨(crash_size d m).trans h.size, by rw [crash_regs, List.length_map, h.regs], fun i => by rw [crash_rg]; rfl, by rw [crash_calm d m h.calm]; exact h.line, fun t h1 h2 => by rw [crash_calm d m h.calm]; exact h.read t h1 h2⟩

/-! ### The map -/
def jD (l : List Int) : DataW Unit := l.foldl (fun D x => D.put (.int .i64 (secI x)) (.lit (.bool true))) (.map [])
theorem jD_take (l : List Int) (i : Nat) (h : i < l.length) : jD (l.take (i + 1)) = (jD (l.take i)).put (.int .i64 (secI l[i])) (.lit (.bool true)) := by
  rw [List.take_succ_eq_append_getElem h]
  unfold jD
  rw [List.foldl_append]
  rfl
theorem jD_isMap (l : List Int) : ∀ D : DataW Unit, IsMap D → IsMap (l.foldl (fun D x => D.put (.int .i64 (secI x)) (.lit (.bool true))) D) := by
  induction l with
  | nil => intro D h; exact h
  | cons x l ih => intro D h; exact ih _ (h.put _ _)
theorem isKey_int (a : Int) : WideAt.IsKeyLit (.int .i64 a) := by simp [WideAt.IsKeyLit]
theorem jD_at (l : List Int) (t : Nat) : ∀ (D : DataW Unit) (b : Bool), IsMap D → D.atKey (.int .i64 t) (.lit (.bool false)) = .lit (.bool b) →
    (l.foldl (fun D x => D.put (.int .i64 (secI x)) (.lit (.bool true))) D).atKey (.int .i64 t) (.lit (.bool false)) = .lit (.bool (b || jb l t)) := by
  induction l with
  | nil => intro D b _ h; rw [show (b || jb [] t) = b by simp [jb]]; exact h
  | cons x l ih =>
    intro D b hD h
    have e : (b || jb (x :: l) t) = ((b || secI x == (t : Int)) || jb l t) := by simp [jb, Bool.or_assoc]
    rw [e]
    refine ih _ _ (hD.put _ _) ?_
    show (D.put (.int .i64 (secI x)) (.lit (.bool true))).atKey (.int .i64 t) (.lit (.bool false)) = _
    by_cases hx : secI x = (t : Int)
    · rw [hx, atKey_put_same hD (isKey_int _)]
      simp
    · have hb : (secI x == (t : Int)) = false := by rw [beq_eq_false_iff_ne]; exact hx
      rw [hb, Bool.or_false, atKey_put_other (fun e => hx (by injection e with _ e; exact e.symm))]
      exact h
theorem jD_look (l : List Int) (t : Nat) : (jD l).atKey (.int .i64 t) (.lit (.bool false)) = .lit (.bool (jb l t)) := by
  have := jD_at l t (.map []) false isMap_empty rfl
  rw [Bool.false_or] at this
  exact this
theorem plainElem_bool_inv {P : Program} {e : TypeId} (he : P.underlying e = some .bool) {v : Value} {z : DataW Unit × List MemPlace} {b : Bool} (h : plainElem P e v = some z) (hz : z.1 = .lit (.bool b)) : v = .bool b := by
  unfold plainElem at h
  split at h
  · cases h; injection hz with hz; injection hz with hz; rw [hz]
  · split at h
    · cases h; injection hz with hz; cases hz
    · cases h
  · split at h
    · cases h; injection hz with hz; cases hz
    · cases h
  · cases h
end Go.Proofs.Ythknhonpcmneaaa
