/- The low bits of a number; slices of ints. -/
import Derived.Test.YthknhonpcmneaaaMem
namespace Go.Proofs.Ythknhonpcmneaaa
open Go Go.RowKit

theorem and_low (x : Int) (m : Nat) (k : Nat) (hm : m = 2 ^ k - 1) (hk : k ≤ 20) : ∃ c : Nat, c ≤ m ∧ Go.bits .and .i64 x (m : Int) = (c : Int) := by
  have hm2 : m < 1048576 := by
    have : 2 ^ k ≤ 2 ^ 20 := Nat.pow_le_pow_right (by omega) hk
    omega
  have e : Go.bits .and .i64 x (m : Int) = IntKind.i64.wrap ((((BitVec.ofInt 64 x) &&& (BitVec.ofInt 64 (m : Int))).toNat : Nat) : Int) := rfl
  have h1 : ((BitVec.ofInt 64 x) &&& (BitVec.ofInt 64 (m : Int))).toNat ≤ m := by
    rw [BitVec.toNat_and, BitVec.ofInt_natCast, BitVec.toNat_ofNat, Nat.mod_eq_of_lt (by omega)]
    exact Nat.and_le_right
  refine ⟨_, h1, ?_⟩
  rw [e, IntKind.wrap_i64]
  generalize ((BitVec.ofInt 64 x) &&& (BitVec.ofInt 64 (m : Int))).toNat = z at *
  omega
def SlN (w : World) (v : Value) (l : List Int) : Prop := Sl w v (l.map fun n => .int .i64 n)
theorem SlN.form {w : World} {v : Value} {l : List Int} (h : SlN w v l) : ∃ ao cap, v = .slice ao l.length cap ∧ l.length ≤ maxLen := by
  obtain ⟨ao, cap, hv, hm, hcap, hc⟩ := h
  rw [List.length_map] at hv hm
  exact ⟨ao, cap, hv, hm⟩
theorem SlN.elem {w : World} {ao : Option Addr} {n cap : Nat} {l : List Int} (h : SlN w (.slice ao n cap) l) (i : Nat) (hi : i < l.length) : ∃ b off, ao = some ⟨b, off, none⟩ ∧ w.cell? ⟨b, off + i, none⟩ = some (.int .i64 l[i]) := by
  obtain ⟨ao', cap', hv, hm, hcap, hc⟩ := h
  simp only [Value.slice.injEq] at hv
  obtain ⟨rfl, _, _⟩ := hv
  obtain ⟨b, off, ha, hx⟩ := hc i (by rw [List.length_map]; exact hi)
  exact ⟨b, off, ha, by rw [hx, List.getElem_map]⟩
theorem SlN.nil (w : World) : SlN w (.slice none 0 0) [] := ⟨none, 0, rfl, Nat.zero_le _, ⟨Nat.le_refl _, fun _ => rfl⟩, fun i h => absurd h (by simp)⟩
theorem SlN.keep {w w' : World} {v : Value} {l : List Int} (h : SlN w v l) (k : Keep w w') : SlN w' v l := Sl.keep k h
end Go.Proofs.Ythknhonpcmneaaa
