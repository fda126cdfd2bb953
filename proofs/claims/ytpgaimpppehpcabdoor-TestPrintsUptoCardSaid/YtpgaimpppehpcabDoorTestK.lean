/- slices.Index, slices.Contains over ints. -/
import Derived.Test.YtpgaimpppehpcabDoorTestSpec
import Derived.Deep.QuietTactic
namespace Go.Proofs.YtpgaimpppehpcabDoor
open Go.RowKit

set_option maxHeartbeats 1000000 in
theorem indexInt_any (A : Option Addr) (c : Nat) (ll : List Int) (z : Int) (w : World) (hl : ll.length ≤ 1099511627776) (h : IntsAt w A ll) :
    Calls Tryd.prog 33 #[.slice A ll.length c, .int .i64 z] w fun e w' => (∃ q : Int, e = .returned (.int .i64 q) ∧ (decide (0 ≤ q) = hasI ll z)) ∧ w = w' := by
  have HI := Lib.hid h
  clear h
  go_enter Tryd.func33, Tryd.ntmps33
  go_wp2_with fail
  go_loop [8] (fun i => ∃ k : Nat, i = .int .i64 k ∧ k ≤ ll.length ∧ Hid (hasI (ll.take k) z = false)) (fun i => ll.length - (intOf i).toNat)
  case atStart => exact ⟨0, rfl, Nat.zero_le _, Lib.hid rfl⟩
  case round =>
    obtain ⟨k, rfl, hk, ht⟩ := hrel
    by_cases hlt : k < ll.length
    · have d1 : decide (k < ll.length) = true := decide_eq_true hlt
      obtain ⟨ad, rfl, hc⟩ := HI.out k hlt
      by_cases he : z = ll[k]
      · have b1 : (z == ll[k]) = true := beqI_true he
        have hF : Hid (hasI ll z = true) := Lib.hid (by rw [hasI, List.contains_iff_mem, he]; exact List.getElem_mem hlt)
        clear he
        go_wp2_with fail
        go_ret
        exact ⟨⟨(k : Int), rfl, by rw [hF.out]; simp⟩, rfl⟩
      · have b1 : (z == ll[k]) = false := beqI_false he
        have hs2 : Hid (hasI (ll.take (k + 1)) z = false) := Lib.hid (by rw [hasI_take hlt, ht.out, b1]; rfl)
        clear he
        go_wp2_with fail
        go_round
        case rel => exact ⟨k + 1, by go_num, hlt, hs2⟩
        case measure => simp [intOf]; omega
    · have d1 : decide (k < ll.length) = false := decide_eq_false hlt
      have hT : Hid (hasI ll z = false) := Lib.hid (by have := ht.out; rwa [List.take_of_length_le (by omega)] at this)
      go_wp2_with fail
      go_ret
      exact ⟨⟨-1, rfl, by rw [hT.out]; rfl⟩, rfl⟩

theorem containsInt_any (A : Option Addr) (c : Nat) (ll : List Int) (z : Int) (w : World) (hl : ll.length ≤ 1099511627776) (h : IntsAt w A ll) :
    Calls Tryd.prog 24 #[.slice A ll.length c, .int .i64 z] w fun e w' => e = .returned (.bool (hasI ll z)) ∧ w = w' := by
  have HI := Lib.hid h
  clear h
  go_enter Tryd.func24, Tryd.ntmps24
  go_wp2_with (go_at_call 33; with_reducible refine (indexInt_any A c ll z _ hl HI.out).mono ?_; rintro e w1 ⟨⟨q, rfl, hz⟩, rfl⟩; have HZ := Lib.hid hz; clear hz)
  go_ret
  exact ⟨ret_bool HZ.out, rfl⟩
end Go.Proofs.YtpgaimpppehpcabDoor
