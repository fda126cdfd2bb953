/- digits, Hex: a number in capital digits, four at least. -/
import Derived.Test.YtpgaimpppehpcabDoorTestW
namespace Go.Proofs.YtpgaimpppehpcabDoor
open Go.RowKit

def hexU (n : Nat) : UInt8 := if n < 10 then UInt8.ofNat (48 + n) else UInt8.ofNat (55 + n)
def hexL : Nat → Nat → List UInt8 → List UInt8
  | 0, _, s => s
  | f + 1, m, s => if m = 0 ∧ 4 ≤ s.length then s else hexL f (m / 16) (hexU (m % 16) :: s)
theorem cutU (n : Nat) (h : n < 16) : (⟨#[48, 49, 50, 51, 52, 53, 54, 55, 56, 57, 65, 66, 67, 68, 69, 70]⟩ : ByteArray).extract n (n + 1) = ⟨#[hexU n]⟩ := by
  obtain rfl | rfl | rfl | rfl | rfl | rfl | rfl | rfl | rfl | rfl | rfl | rfl | rfl | rfl | rfl | rfl : n = 0 ∨ n = 1 ∨ n = 2 ∨ n = 3 ∨ n = 4 ∨ n = 5 ∨ n = 6 ∨ n = 7 ∨ n = 8 ∨ n = 9 ∨ n = 10 ∨ n = 11 ∨ n = 12 ∨ n = 13 ∨ n = 14 ∨ n = 15 := by omega
  all_goals rfl

def HexR (n f m : Nat) (x : ByteArray) : Prop := hexL f m x.data.toList = hexL 8 n [] ∧ f + x.size = 8 ∧ m < 16 ^ f
theorem HexR.next {n f m : Nat} {x : ByteArray} (h : HexR n f m x) (hc : ¬ (m = 0 ∧ 4 ≤ x.size)) : ∃ f', f = f' + 1 ∧ HexR n f' (m / 16) ((⟨#[hexU (m % 16)]⟩ : ByteArray) ++ x) := by
  obtain ⟨h1, h2, h3⟩ := h
  cases f with
  | zero => exact absurd ⟨by simpa using h3, by omega⟩ hc
  | succ f =>
    refine ⟨f, rfl, ?_, by rw [app_size]; show f + (1 + x.size) = 8; omega, by rw [Nat.pow_succ] at h3; omega⟩
    rw [hexL, if_neg (by rw [len_str]; exact hc)] at h1
    rw [app_data]; exact h1
theorem HexR.done {n f m : Nat} {x : ByteArray} (h : HexR n f m x) (hc : m = 0 ∧ 4 ≤ x.size) : x.data.toList = hexL 8 n [] := by
  obtain ⟨h1, _, _⟩ := h
  cases f with
  | zero => exact h1
  | succ f => rw [hexL, if_pos (by rw [len_str]; exact hc)] at h1; exact h1

set_option maxHeartbeats 2000000 in
theorem Hex_any (n : Nat) (hn : n ≤ 1114111) (w : World) : Calls Tryd.prog 31 #[.int .i64 (n : Int)] w fun e w' => (∃ x : ByteArray, e = .returned (.string x) ∧ x.data.toList = hexL 8 n []) ∧ w = w' := by
  go_enter Tryd.func31, Tryd.ntmps31
  go_wp2_with fail
  go_loop [0, 3] (fun a s => ∃ (f m : Nat) (x : ByteArray), a = .int .i64 m ∧ s = .string x ∧ m ≤ n ∧ Hid (HexR n f m x)) (fun _ s => match s with | .string x => 8 - x.size | _ => 0)
  case atStart => exact ⟨8, n, _, rfl, rfl, Nat.le_refl _, Lib.hid ⟨rfl, rfl, by omega⟩⟩
  case round =>
    obtain ⟨f, m, x, rfl, rfl, hm, hR⟩ := hrel
    have hx8 : x.size ≤ 8 := by have := hR.out.2.1; omega
    by_cases hc : m = 0 ∧ 4 ≤ x.size
    · have hD := Lib.hid (hR.out.done hc)
      obtain ⟨rfl, h4⟩ := hc
      have d2 : decide ((x.size : Int) < 4) = false := decide_eq_false (by omega)
      go_wp2_with fail
      go_ret
      exact ⟨⟨x, rfl, hD.out⟩, rfl⟩
    · obtain ⟨f', rfl, hN⟩ := hR.out.next hc
      have HN := Lib.hid hN
      have hx7 : x.size < 8 := by have := hR.out.2.1; omega
      have hr : (m : Int).tmod 16 = ((m % 16 : Nat) : Int) := (Int.ofNat_tmod m 16).symm
      have hq : (m : Int).tdiv 16 = ((m / 16 : Nat) : Int) := (Int.ofNat_tdiv m 16).symm
      have hcut := cutU (m % 16) (Nat.mod_lt _ (by decide))
      have hsz : ((⟨#[48, 49, 50, 51, 52, 53, 54, 55, 56, 57, 65, 66, 67, 68, 69, 70]⟩ : ByteArray).extract (m % 16) (m % 16 + 1)).size = 1 := by rw [hcut]; rfl
      have HC := Lib.hid hcut
      have hle : m / 16 ≤ n := by omega
      clear hcut
      by_cases h0 : 0 < m
      · have d1 : decide (0 < m) = true := decide_eq_true h0
        clear hc hN
        go_wp2_with fail
        go_round
        case rel => exact ⟨f', m / 16, _, by go_num, rfl, hle, Lib.hid (by rw [HC.out]; exact HN.out)⟩
        case measure => simp only [app_size, hsz]; omega
      · have d1 : decide (0 < m) = false := decide_eq_false h0
        have d2 : decide ((x.size : Int) < 4) = true := decide_eq_true (by omega)
        clear hc hN
        go_wp2_with fail
        go_round
        case rel => exact ⟨f', m / 16, _, by go_num, rfl, hle, Lib.hid (by rw [HC.out]; exact HN.out)⟩
        case measure => simp only [app_size, hsz]; omega
end Go.Proofs.YtpgaimpppehpcabDoor
