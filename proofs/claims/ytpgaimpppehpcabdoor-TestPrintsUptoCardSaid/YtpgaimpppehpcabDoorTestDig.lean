/- testfile.digits: as Hex. -/
import Derived.Test.YtpgaimpppehpcabDoorTestHex
import Derived.Laws.Bits64b
namespace Go.Proofs.YtpgaimpppehpcabDoor
open Go.RowKit

theorem and15I (m : Nat) (h : m ≤ 1114111) : bits BinOp.and IntKind.i64 (m : Int) 15 = ((m % 16 : Nat) : Int) := by
  have h1 : (BitVec.ofInt 64 (m : Int)).toNat = m := by
    rw [BitVec.ofInt_natCast, BitVec.toNat_ofNat]; exact Nat.mod_eq_of_lt (by omega)
  have h2 : (BitVec.ofInt 64 ((15 : Nat) : Int)).toNat = 15 := by
    rw [BitVec.ofInt_natCast, BitVec.toNat_ofNat]
  show IntKind.i64.wrap ((BitVec.ofInt 64 (m : Int) &&& BitVec.ofInt 64 ((15 : Nat) : Int)).toNat : Int) = _
  rw [BitVec.toNat_and, h1, h2, show (15 : Nat) = 2 ^ 4 - 1 from rfl, Nat.and_two_pow_sub_one_eq_mod]
  unfold IntKind.wrap; simp [IntKind.bits, IntKind.signed]; omega

set_option maxHeartbeats 2000000 in
theorem digits_any (n : Nat) (hn : n ≤ 1114111) (w : World) : Calls Tryd.prog 25 #[.int .i64 (n : Int)] w fun e w' => (∃ x : ByteArray, e = .returned (.string x) ∧ x.data.toList = hexL 8 n []) ∧ w = w' := by
  go_enter Tryd.func25, Tryd.ntmps25
  go_wp2_with fail
  go_loop [0, 3] (fun a s => ∃ (f m : Nat) (x : ByteArray), a = .int .i64 m ∧ s = .string x ∧ m ≤ n ∧ Hid (HexR n f m x)) (fun _ s => match s with | .string x => 8 - x.size | _ => 0)
  case atStart => exact ⟨8, n, _, rfl, rfl, Nat.le_refl _, Lib.hid ⟨rfl, rfl, by omega⟩⟩
  case round =>
    obtain ⟨f, m, x, rfl, rfl, hm, hR⟩ := hrel
    have hx8 : x.size ≤ 8 := by have := hR.out.2.1; omega
    by_cases hc : m = 0 ∧ 4 ≤ x.size
    · have hD := Lib.hid (hR.out.done hc)
      obtain ⟨rfl, h4⟩ := hc
      have d2 : decide ((x.size : Int) < 4) = false := decide_eq_false (by omega)
      go_wp2_with fail
      go_ret
      exact ⟨⟨x, rfl, hD.out⟩, rfl⟩
    · obtain ⟨f', rfl, hN⟩ := hR.out.next hc
      have HN := Lib.hid hN
      have hx7 : x.size < 8 := by have := hR.out.2.1; omega
      have hand := and15I m (by omega)
      have hcut := cutU (m % 16) (Nat.mod_lt _ (by decide))
      have hsz : ((⟨#[48, 49, 50, 51, 52, 53, 54, 55, 56, 57, 65, 66, 67, 68, 69, 70]⟩ : ByteArray).extract (m % 16) (m % 16 + 1)).size = 1 := by rw [hcut]; rfl
      have HC := Lib.hid hcut
      have hle : m / 16 ≤ n := by omega
      clear hcut
      by_cases h0 : 0 < m
      · have d1 : decide (0 < m) = true := decide_eq_true h0
        clear hc hN
        go_wp2_with fail
        go_round
        case rel => exact ⟨f', m / 16, _, by go_num, rfl, hle, Lib.hid (by rw [HC.out]; exact HN.out)⟩
        case measure => simp only [app_size, hsz]; omega
      · have d1 : decide (0 < m) = false := decide_eq_false h0
        have d2 : decide ((x.size : Int) < 4) = true := decide_eq_true (by omega)
        clear hc hN
        go_wp2_with fail
        go_round
        case rel => exact ⟨f', m / 16, _, by go_num, rfl, hle, Lib.hid (by rw [HC.out]; exact HN.out)⟩
        case measure => simp only [app_size, hsz]; omega
end Go.Proofs.YtpgaimpppehpcabDoor
