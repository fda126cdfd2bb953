/- caesurakit.TameCases: it answers. -/
import Derived.Test.YtpgaimpppehpcabDoorTestC
namespace Go.Proofs.YtpgaimpppehpcabDoor
open Go.RowKit

set_option maxHeartbeats 2000000 in
theorem tame_any (A : Option Addr) (c : Nat) (cs : List Case) (w : World) (hl : cs.length ≤ 1099511627776) (h : CasesAt w A cs) :
    Calls Tryd.prog 4 #[.slice A cs.length c] w fun e w' => (∃ b : Bool, e = .returned (.bool b)) ∧ Below w.heap.size w w' := by
  have HI := Lib.hid h
  clear h
  go_enter Tryd.func4, Tryd.ntmps4
  go_wp2_with fail
  go_loopw [3, 4] (fun m i wr => ∃ k n : Nat, m = .int .i64 n ∧ i = .int .i64 k ∧ k ≤ cs.length ∧ n ≤ 9999999999999 ∧ ∃ q, wr = w.drewN q) (fun _ i _ => cs.length - (intOf i).toNat)
  case atStart => exact ⟨0, 0, rfl, rfl, Nat.zero_le _, Nat.zero_le _, 0, rfl⟩
  case round =>
    obtain ⟨k, n, rfl, rfl, hk, hn, q, rfl⟩ := hrel
    by_cases hlt : k < cs.length
    · have d1 : decide (k < cs.length) = true := decide_eq_true hlt
      by_cases hm : n ≤ 16777216
      · have d2 : decide ((n : Int) ≤ 16777216) = true := decide_eq_true (by omega)
        obtain ⟨ad, v0, v1, rfl, hc0, hc1, PA, pc, BA, bc, rfl, rfl, _, _, h1, h2⟩ := HI.out k hlt
        rw [Go.Proofs.YtpgaimpppehpcabDoorW.PrintWords.add_field ad (k * 2) 1 (by decide)] at hc1
        go_wp2_with fail
        go_quiet (fail)
        go_wp2_with fail
        go_roundw
        case rel => exact ⟨k + 1, n + cs[k].1.length + cs[k].2.length, by go_num, by go_num, hlt, by omega, ⟨_, rfl⟩⟩
        case measure => simp [intOf]; omega
      · have d2 : decide ((n : Int) ≤ 16777216) = false := decide_eq_false (by omega)
        go_wp2_with fail
        go_ret
        exact ⟨⟨_, rfl⟩, below_of_drewN _ _ _⟩
    · have d1 : decide (k < cs.length) = false := decide_eq_false hlt
      go_wp2_with fail
      go_ret
      exact ⟨⟨_, rfl⟩, below_of_drewN _ _ _⟩
end Go.Proofs.YtpgaimpppehpcabDoor
