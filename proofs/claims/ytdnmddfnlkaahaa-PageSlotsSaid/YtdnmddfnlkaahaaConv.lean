/- []byte(s): a new block. -/
import Derived.Test.YtdnmddfnlkaahaaMem
import Derived.Lib.ConvBytes
namespace Go.Proofs.Ytdnmddfnlkaahaa
open Go Go.RowKit

theorem run_bytes {P : Program} {src dst e : TypeId} {u : TypeDesc} (hs : P.underlying src = some u) (hd : P.underlying dst = some (.slice e)) (he : P.underlying e = some (.int .u8)) (l : List UInt8) (w : World) (hl : l.length ≤ maxLen) :
    ∃ cap w', (convert src dst (.string ⟨l.toArray⟩)).run P w = .ok (.slice (some ⟨w.heap.size, 0, none⟩) l.length cap) w' ∧ SlB w' (.slice (some ⟨w.heap.size, 0, none⟩) l.length cap) l ∧ Keep w w' ∧ w'.heap.size = w.heap.size + 1 := by
  have hr := Lib.run_convert_string_bytes (P := P) w src dst e ⟨l.toArray⟩ hs hd he
  rw [size_str] at hr
  refine ⟨_, _, hr, ⟨_, _, by rw [List.length_map], by rw [List.length_map]; exact hl, ⟨by rw [List.length_map]; exact grownCap_ge _ _ _ _, fun h => by cases h⟩, fun i hi => ⟨w.heap.size, 0, rfl, ?_⟩⟩, ⟨rfl, rfl, rfl, by rw [Lib.bytesWorld_size]; omega, fun b hb => Lib.bytesWorld_at_old _ _ _ b hb⟩, Lib.bytesWorld_size _ _ _⟩
  rw [List.length_map] at hi
  rw [Nat.zero_add, Lib.bytesWorld_cell _ _ _ i (by rw [size_str]; exact hi), List.getElem_map]
  simp [B, List.getD_eq_getElem?_getD, List.getElem?_eq_getElem hi]
theorem Gives.bytes {P : Program} {src dst e : TypeId} {u : TypeDesc} (hs : P.underlying src = some u) (hd : P.underlying dst = some (.slice e)) (he : P.underlying e = some (.int .u8)) {o : Oper} {a : Act} {w : World} {S : Value → World → Prop} (x : Operand)
    (ho : o.op = .convert src dst x) {l : List UInt8} (hx : a.eval x = .string ⟨l.toArray⟩) (hl : l.length ≤ maxLen)
    (h : ∀ cap w', SlB w' (.slice (some ⟨w.heap.size, 0, none⟩) l.length cap) l → Keep w w' → w'.heap.size = w.heap.size + 1 → S (.slice (some ⟨w.heap.size, 0, none⟩) l.length cap) w') : Gives P o a w S := by
  obtain ⟨cap, w', hr, h1, h2, h3⟩ := run_bytes hs hd he l w hl
  refine Gives.value (v := _) (w' := w') ?_ (h cap w' h1 h2 h3)
  unfold execOp
  simp only [ho, Sem.run_bind, hx, hr, Result.andThen_ok]
  rfl
end Go.Proofs.Ytdnmddfnlkaahaa
