/- caesuraref0.SameInts: the walk. -/
import Derived.Test.YtpgaimpppehpcabDoorTestC
namespace Go.Proofs.YtpgaimpppehpcabDoor
open Go.RowKit

theorem take_int {x : List Int} {k : Nat} (h : k < x.length) : x.take (k + 1) = x.take k ++ [x[k]] := List.take_succ_eq_append_getElem h

set_option maxHeartbeats 2000000 in
theorem sameInts_any (A B : Option Addr) (c d : Nat) (x y : List Int) (w : World) (hx : IntsAt w A x) (hy : IntsAt w B y) (hlx : x.length ≤ 1099511627776) (hly : y.length ≤ 1099511627776) :
    Calls Tryd.prog 29 #[.slice A x.length c, .slice B y.length d] w fun e w' => e = .returned (.bool (decide (x = y))) ∧ ∃ n, w' = w.drewN n := by
  have HX := Lib.hid hx
  have HY := Lib.hid hy
  clear hx hy
  by_cases hl : x.length = y.length
  · have b0 : ((x.length : Int) != (y.length : Int)) = false := bneI_false (by omega)
    have hle : x.length ≤ y.length := by omega
    have HL := Lib.hid hl
    clear hl
    go_enter Tryd.func29, Tryd.ntmps29
    go_wp2_with fail
    go_loopw [5] (fun i wr => ∃ k : Nat, i = .int .i64 k ∧ k ≤ x.length ∧ Hid (x.take k = y.take k) ∧ ∃ n, wr = w.drewN n) (fun i _ => x.length - (intOf i).toNat)
    case atStart => exact ⟨0, rfl, by omega, Lib.hid rfl, 0, rfl⟩
    case round =>
      obtain ⟨k, rfl, hk, ht, n, rfl⟩ := hrel
      by_cases hlt : k < x.length
      · have hlt2 : k < y.length := by omega
        obtain ⟨ad, rfl, hc⟩ := HX.out k hlt
        obtain ⟨bd, rfl, hd⟩ := HY.out k hlt2
        have c0 : decide (k < x.length) = true := decide_eq_true hlt
        by_cases he : x[k] = y[k]
        · have hbe : (x[k] != y[k]) = false := bneI_false he
          have HE := Lib.hid he
          clear he
          go_wp2_with fail
          go_quiet (fail)
          go_wp2_with fail
          go_roundw
          case rel => exact ⟨k + 1, by go_num, hlt, Lib.hid (by rw [take_int hlt, take_int hlt2, ht.out, HE.out]), ⟨_, rfl⟩⟩
          case measure => simp [intOf]; omega
        · have hbe : (x[k] != y[k]) = true := bneI_true he
          have HF : Hid (x ≠ y) := Lib.hid (fun e => he (by subst e; rfl))
          clear he
          go_wp2_with fail
          go_quiet (fail)
          go_wp2_with fail
          go_ret
          exact ⟨ret_bool (by simp [HF.out]), ⟨_, World.drewN_drewN ..⟩⟩
      · have c0 : decide (k < x.length) = false := decide_eq_false hlt
        have HT : Hid (x = y) := Lib.hid (by have := ht.out; rwa [List.take_of_length_le (by omega), List.take_of_length_le (by have := HL.out; omega)] at this)
        go_wp2_with fail
        go_ret
        exact ⟨ret_bool (by simp [HT.out]), ⟨_, rfl⟩⟩
  · have b0 : ((x.length : Int) != (y.length : Int)) = true := bneI_true (by omega)
    have HF : Hid (x ≠ y) := Lib.hid (fun e => hl (by rw [e]))
    clear hl
    go_enter Tryd.func29, Tryd.ntmps29
    go_wp2_with fail
    go_ret
    exact ⟨ret_bool (by simp [HF.out]), 0, rfl⟩
end Go.Proofs.YtpgaimpppehpcabDoor
