/- page.Rows as an iterator. -/
import Derived.Test.YtdnmddfnlkaahaaRangeB
namespace Go.Proofs.Ytdnmddfnlkaahaa
open Go Go.RowKit
attribute [local go_sem] Oper.semAt_some
attribute [local irreducible] Go.wpQuiet

/-- the rows of the first slots -/
def Pg.rowsTo (p : Pg) (k : Nat) : List (Nat × Rw) := (List.range k).filterMap fun i => if (Rw.dec (p.raw i)).2 = 0 then some (i, (Rw.dec (p.raw i)).1) else none
theorem Pg.rowsTo_succ (p : Pg) (k : Nat) : p.rowsTo (k + 1) = p.rowsTo k ++ (if (Rw.dec (p.raw k)).2 = 0 then [(k, (Rw.dec (p.raw k)).1)] else []) := by
  unfold Pg.rowsTo
  rw [List.range_succ, List.filterMap_append]
  congr 1
  simp only [List.filterMap_cons, List.filterMap_nil]
  split <;> simp_all
theorem Pg.rowsTo_pre (p : Pg) (k m : Nat) : p.rowsTo k <+: p.rowsTo (k + m) := by
  induction m with
  | zero => exact List.prefix_rfl
  | succ m ih => exact ih.trans ⟨_, (Pg.rowsTo_succ p (k + m)).symm⟩
def encR1 (x : Nat × Rw) : Value := .int .i64 x.1
def encR2 (x : Nat × Rw) : Value := .agg #[.int .i64 x.2.t, .string ⟨x.2.k.toArray⟩, .string ⟨x.2.v.toArray⟩]

set_option maxHeartbeats 4000000 in
theorem rows_seq (n : Nat) (n₀ g : Nat) (p : Pg) (w : World) (h : PgAt w g p) (hg : g < n₀) : SeqF Fence.wide n Try.prog 18 (fun y => #[.pointer (some ⟨g, 0, none⟩)] ++ #[y]) (fun x => #[encR1 x, encR2 x]) n₀ (p.rowsTo 5) w := by
  intro l J Jx W hbW hsz hJ hJx hJs hY h0
  have hP : PgAt W g p := h.at (hbW.block g hg)
  refine callsIn_of_wp Try.func18 rfl trivial ?_ rfl
  simp only [Try.ntmps18, List.size_toArray, List.length_cons, List.length_nil, Nat.reduceAdd, Nat.reduceSub, Array.replicate_succ, Array.replicate_zero, List.push_toArray, List.append_toArray, List.nil_append, List.cons_append]
  clear h hbW
  gi_wp2
  gi_loopw [9] (fun z wr => ∃ i : Nat, i ≤ 5 ∧ z = .int .i64 i ∧ J (p.rowsTo i) wr ∧ PgAt wr g p) (fun z _ => 5 - (intOf z).toNat)
  case atStart => exact ⟨0, by decide, rfl, h0, hP⟩
  case round =>
    obtain ⟨i, hi, rfl, hj, hPr⟩ := hrel
    by_cases hi5 : i < 5
    rotate_left
    · have hid : ¬ ((i : Int) < 5) := by omega
      have e5 : i = 5 := by omega
      subst e5
      clear hPr
      gi_wp2
      go_end0
      exact ⟨⟨_, rfl⟩, .inl hj⟩
    have hid : (i : Int) < 5 := by omega
    have hid2 : ¬ (5 : Int) ≤ (i : Int) := by omega
    have hsl := hPr.slice i hi5
    have hdec := decode_any _ _ wr hsl
    obtain ⟨r, d, hrd⟩ : ∃ (r : Rw) (d : Int), Rw.dec (p.raw i) = (r, d) := ⟨_, _, rfl⟩
    rw [hrd] at hdec
    unfold Rw.val strV at hdec
    have HD := Lib.hid hrd
    clear hrd
    gi_wp2
    refine ⟨trivial, fun h => (by cases h), (callsIn_wide.2 hdec).mono ?_⟩
    rintro e w2 ⟨rfl, k2⟩
    have hP2 := hPr.keep k2
    have hj2 := hJ _ _ _ hj (k2.mono (hJs _ _ hj))
    clear hsl hdec hPr
    simp only
    have hz2 := hJs _ _ hj2
    by_cases hd : d = 0
    rotate_left
    · clear hY
      have e : p.rowsTo (i + 1) = p.rowsTo i := by
        rw [Pg.rowsTo_succ, HD.out, if_neg hd, List.append_nil]
      rw [← e] at hj2
      have hj3 := hJ _ _ _ hj2 ((Below.refl _ w2).alloc hz2 (.cells #[.int .i64 r.t, .string ⟨r.k.toArray⟩, .string ⟨r.v.toArray⟩] 24))
      have hP3 := hP2.keep (Keep.alloc w2 (.cells #[.int .i64 r.t, .string ⟨r.k.toArray⟩, .string ⟨r.v.toArray⟩] 24))
      clear hj2 hP2 HD
      gi_wp2
      refine ⟨fun _ h => (by cases h), ?_⟩
      gi_wp2
      go_roundw
      case rel => exact ⟨i + 1, by omega, by go_num, hj3, hP3⟩
      case measure => simp [intOf]; omega
    subst hd
    have e : p.rowsTo (i + 1) = p.rowsTo i ++ [(i, r)] := by
      rw [Pg.rowsTo_succ, HD.out, if_pos rfl]
    obtain ⟨post, hpost⟩ : p.rowsTo (i + 1) <+: p.rowsTo 5 := by
      have := Pg.rowsTo_pre p (i + 1) (5 - (i + 1))
      rwa [show i + 1 + (5 - (i + 1)) = 5 by omega] at this
    have hx : p.rowsTo 5 = p.rowsTo i ++ (i, r) :: post := by
      rw [← hpost, e, List.append_assoc]
      rfl
    have hj3 := hJ _ _ _ hj2 ((Below.refl _ w2).alloc hz2 (.cells #[.int .i64 r.t, .string ⟨r.k.toArray⟩, .string ⟨r.v.toArray⟩] 24))
    have hP3 := hP2.keep (Keep.alloc w2 (.cells #[.int .i64 r.t, .string ⟨r.k.toArray⟩, .string ⟨r.v.toArray⟩] 24))
    obtain ⟨fn, tmps, assign, body, hy, hR⟩ := hY (p.rowsTo i) (i, r) post _ hx hj3
    rw [← e] at hR
    have hpre : p.rowsTo (i + 1) <+: p.rowsTo 5 := ⟨post, hpost⟩
    dsimp only [encR1, encR2] at hy
    clear hY hj2 hP2 HD hx hpost e hj3
    gi_wp2
    refine ⟨fun h => (by cases h), hR.mono ?_⟩
    clear hR hy
    rintro e W3 (⟨rfl, hj4, hk4⟩ | ⟨rfl, hjx⟩)
    · have hP4 := hP3.at (hk4.block g hg)
      clear hP3
      gi_wp2
      go_roundw
      case rel => exact ⟨i + 1, by omega, by go_num, hj4, hP4⟩
      case measure => simp [intOf]; omega
    · clear hP3
      gi_wp2
      refine bodyPost_ret (results_none rfl _ _ _) rfl ?_
      exact ⟨⟨_, rfl⟩, .inr ⟨_, hpre, hjx⟩⟩
end Go.Proofs.Ytdnmddfnlkaahaa
