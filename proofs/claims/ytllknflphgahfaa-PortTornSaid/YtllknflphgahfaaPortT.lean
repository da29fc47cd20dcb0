/- Bytes that are cut: no walk. -/
import Derived.Test.YtllknflphgahfaaPortW
namespace Go.Proofs.Ytllknflphgahfaa
open Go Go.RowKit

theorem portL_prefix (k l : List Rw) (Y : List UInt8) (hk : ∀ r ∈ k, r.fits) (hl : ∀ r ∈ l, r.fits) (lk : k.length < 65536) (ll : l.length < 65536) (h : portL k ++ Y = portL l) : k = l := by
  have e1 : portL k ++ Y = magicL ++ (Pk.be k.length 2 ++ (rowsL k ++ (crcL (bodyL k) ++ Y))) := by
    unfold portL bodyL
    simp only [List.append_assoc]
  have e2 : portL l = magicL ++ (Pk.be l.length 2 ++ (rowsL l ++ crcL (bodyL l))) := by
    unfold portL bodyL
    simp only [List.append_assoc]
  rw [e1, e2] at h
  have h1 := List.append_cancel_left h
  have h2 := List.append_inj h1 (by rw [Pk.be_length, Pk.be_length])
  have h3 := congrArg Pk.num h2.1
  rw [Pk.num_be _ _ (by omega), Pk.num_be _ _ (by omega)] at h3
  have h4 : k.length = l.length := by omega
  have h5 := parse_fwd l (crcL (bodyL l)) hl
  rw [← h2.2, ← h4, parse_fwd k _ hk] at h5
  exact h5
/-- one byte less is told -/
theorem dec_short (l : List Rw) (h : Rise l) (hl : l.length < 65536) (m : Nat) (hm : m < (portL l).length) : portDec ((portL l).take m) = ([], 9) := by
  rcases portDec_back ((portL l).take m) with e | ⟨k, h1, h2, h3⟩
  · exact e
  · exfalso
    have h4 := portL_prefix k l ((portL l).drop m) (fun r hr => Rw.fits_of (h1.right r hr)) (fun r hr => Rw.fits_of (h.right r hr)) h2 hl (by rw [← h3, List.take_append_drop])
    rw [h4] at h3
    have h5 := congrArg List.length h3
    rw [List.length_take] at h5
    omega
end Go.Proofs.Ytllknflphgahfaa
