/- The equations of 'quo'. -/
import Derived.Test.YtpgaimpppehpcafDoorDeskSpec
namespace Go.Proofs.YtpgaimpppehpcafDoor

theorem quo_end {c : UInt8} {r : List UInt8} (h : c.toNat = 34) (hr : r = [] ∨ (r.headD 0).toNat = 32) : Dw.quo (c :: r) = some ([], r) := by
  rw [Dw.quo, if_pos h, if_pos hr]
theorem quo_endbad {c : UInt8} {r : List UInt8} (h : c.toNat = 34) (hr : ¬ (r = [] ∨ (r.headD 0).toNat = 32)) : Dw.quo (c :: r) = none := by
  rw [Dw.quo, if_pos h, if_neg hr]
theorem quo_esc {c : UInt8} {r : List UInt8} (h : c.toNat = 92) {b : UInt8} {n : Nat} (he : Dw.esc (c :: r) = some (b, n)) : Dw.quo (c :: r) = (Dw.quo (r.drop (n - 1))).map fun x => (b :: x.1, x.2) := by
  rw [Dw.quo, if_neg (by omega), if_pos h, he]
theorem quo_escbad {c : UInt8} {r : List UInt8} (h : c.toNat = 92) (he : Dw.esc (c :: r) = none) : Dw.quo (c :: r) = none := by
  rw [Dw.quo, if_neg (by omega), if_pos h, he]
theorem quo_bad {c : UInt8} {r : List UInt8} (h : c.toNat < 32 ∨ 126 < c.toNat) : Dw.quo (c :: r) = none := by
  rw [Dw.quo, if_neg (by omega), if_neg (by omega), if_pos h]
theorem quo_good {c : UInt8} {r : List UInt8} (h : 32 ≤ c.toNat ∧ c.toNat ≤ 126 ∧ c.toNat ≠ 34 ∧ c.toNat ≠ 92) : Dw.quo (c :: r) = (Dw.quo r).map fun x => (c :: x.1, x.2) := by
  rw [Dw.quo, if_neg (by omega), if_neg (by omega), if_neg (by omega)]
theorem map_acc {o : Option (List UInt8 × List UInt8)} (acc : List UInt8) (b : UInt8) : (o.map fun x => (b :: x.1, x.2)).map (fun x => (acc ++ x.1, x.2)) = o.map fun x => ((acc ++ [b]) ++ x.1, x.2) := by
  cases o <;> simp

end Go.Proofs.YtpgaimpppehpcafDoor
