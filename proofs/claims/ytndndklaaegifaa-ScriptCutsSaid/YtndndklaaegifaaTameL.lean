/- Requests made tame: plain. -/
import Derived.Test.YtndndklaaegifaaReqL
import Derived.Test.YtndndklaaegifaaPack
namespace Go.Proofs.Ytndndklaaegifaa
open Go

theorem and_le (x : Int) (m : Nat) (hm : m < 9223372036854775808) : 0 ≤ Go.bits .and .i64 x (m : Int) ∧ Go.bits .and .i64 x (m : Int) ≤ (m : Int) := by
  have h0 : (BitVec.ofInt 64 (m : Int)).toNat = m := by
    rw [BitVec.toNat_ofInt]
    omega
  have h : (BitVec.ofInt 64 x &&& BitVec.ofInt 64 (m : Int)).toNat ≤ m := by
    rw [BitVec.toNat_and, h0]
    exact Nat.and_le_right
  have e : Go.bits .and .i64 x (m : Int) = ((BitVec.ofInt 64 x &&& BitVec.ofInt 64 (m : Int)).toNat : Int) := by
    show IntKind.i64.wrap (((BitVec.ofInt 64 x &&& BitVec.ofInt 64 (m : Int)).toNat : Nat) : Int) = _
    rw [IntKind.wrap_i64]
    omega
  omega
def tame1 (q : Rq) : Rq := ⟨Go.bits .and .i64 q.kind 255, Go.bits .and .i64 q.tenant 255, Go.bits .and .i64 q.handle 4611686018427387903, Go.bits .and .i64 q.table 255, q.key.take 255, q.value.take 255, q.to_.take 255, Go.bits .and .i64 q.n 65535, q.mask, q.data.take 255⟩
theorem tame1_fits (q : Rq) (hm : q.mask < 256 ^ 8) : (tame1 q).Fits := by
  have h1 : 0 ≤ Go.bits .and .i64 q.kind 255 ∧ Go.bits .and .i64 q.kind 255 ≤ 255 := and_le q.kind 255 (by decide)
  have h2 : 0 ≤ Go.bits .and .i64 q.tenant 255 ∧ Go.bits .and .i64 q.tenant 255 ≤ 255 := and_le q.tenant 255 (by decide)
  have h3 : 0 ≤ Go.bits .and .i64 q.handle 4611686018427387903 ∧ Go.bits .and .i64 q.handle 4611686018427387903 ≤ 4611686018427387903 := and_le q.handle 4611686018427387903 (by decide)
  have h4 : 0 ≤ Go.bits .and .i64 q.table 255 ∧ Go.bits .and .i64 q.table 255 ≤ 255 := and_le q.table 255 (by decide)
  have h5 : 0 ≤ Go.bits .and .i64 q.n 65535 ∧ Go.bits .and .i64 q.n 65535 ≤ 65535 := and_le q.n 65535 (by decide)
  unfold tame1
  exact ⟨by simp only; omega, by simp only; omega, by simp only; omega, by simp only; omega, by simp only [List.length_take]; omega, by simp only [List.length_take]; omega, by simp only [List.length_take]; omega, by simp only; omega, hm, by simp only [List.length_take]; omega⟩
theorem tame1_len (q : Rq) : (tame1 q).enc.length ≤ 1045 := by
  rw [Rq.enc_length]
  unfold tame1
  simp only [List.length_take]
  omega
theorem tame_fits {qs : List Rq} (hm : ∀ q ∈ qs, q.mask < 256 ^ 8) : ∀ q ∈ qs.map tame1, q.Fits := by
  intro q hq
  obtain ⟨p, hp, rfl⟩ := List.mem_map.1 hq
  exact tame1_fits p (hm p hp)
theorem tame_len : ∀ (qs : List Rq), (encL (qs.map tame1)).length ≤ 1045 * qs.length
  | [] => by simp [encL]
  | q :: qs => by
    have h1 := tame_len qs
    have h2 := tame1_len q
    unfold encL at *
    rw [List.map_cons, List.flatMap_cons, List.length_append, List.length_cons]
    omega
end Go.Proofs.Ytndndklaaegifaa
