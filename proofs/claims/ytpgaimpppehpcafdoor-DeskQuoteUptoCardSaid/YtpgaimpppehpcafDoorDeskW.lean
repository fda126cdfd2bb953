/- desk's words: the walks. -/
import Derived.Test.YtpgaimpppehpcafDoorBuf
import Derived.Test.YtpgaimpppehpcafDoorSent
import Derived.Test.YtpgaimpppehpcafDoorDeskSpec
import Derived.Test.YtpgaimpppehpcafDoorStr
import Derived.Outline
import Derived.BigQuiet
namespace Go.Proofs.YtpgaimpppehpcafDoor
open Go.RowKit

set_option maxHeartbeats 400000 in
theorem hexa_any (u : UInt8) (w : World) :
    Calls Tryd.prog 26 #[.int .u8 (u.toNat : Int)] w fun e w' => e = .returned (.int .i64 (Dw.hexa u.toNat)) ∧ w' = w := by
  have h0 : (0 : Int) ≤ u.toNat := by omega
  have h1 : (u.toNat : Int) < 256 := by have := u.toNat_lt; omega
  generalize (u.toNat : Int) = c at *
  go_enter Tryd.func26, Tryd.ntmps26
  go_wp2
  all_goals
    go_ret
    refine ⟨ret_int ?_, rfl⟩
    unfold Dw.hexa
    repeat' split
    all_goals omega

set_option maxHeartbeats 1000000 in
theorem escape_any (s : ByteArray) (w : World) :
    Calls Tryd.prog 20 #[.string s] w fun e w' => e = .returned (.tuple #[.int .u8 (Dw.escR s.data.toList).1, .int .i64 (Dw.escR s.data.toList).2]) ∧ ∃ n, w' = w.drewN n := by
  by_cases h2 : 2 ≤ s.size
  · obtain ⟨x, r, hl⟩ := list2 s h2
    have hl2 := Lib.hid hl
    rw [hl]
    clear hl
    by_cases h34 : s[1].toNat = 34 ∨ s[1].toNat = 92
    · rw [Dw.escR_self _ _ _ h34]
      go_enter Tryd.func20, Tryd.ntmps20
      rcases h34 with h | h
      all_goals
        have H := Lib.hid h
        clear h
      · have b1 : ((s[1].toNat : Int) == 34) = true := by rw [H.out]; rfl
        go_wp2
        go_ret2
        exact ⟨rfl, 0, rfl⟩
      · have b1 : ((s[1].toNat : Int) == 34) = false := by rw [H.out]; rfl
        have b2 : ((s[1].toNat : Int) == 92) = true := by rw [H.out]; rfl
        go_wp2
        go_ret2
        exact ⟨rfl, 0, rfl⟩
    · have b1 : ((s[1].toNat : Int) == 34) = false := by rw [beq_eq_false_iff_ne]; omega
      have b2 : ((s[1].toNat : Int) == 92) = false := by rw [beq_eq_false_iff_ne]; omega
      by_cases h110 : s[1].toNat = 110
      · rw [Dw.escR_n _ _ _ h110]
        have b3 : ((s[1].toNat : Int) == 110) = true := by rw [h110]; rfl
        clear h110 h34
        go_enter Tryd.func20, Tryd.ntmps20
        go_wp2
        go_ret2
        exact ⟨rfl, 0, rfl⟩
      · have b3 : ((s[1].toNat : Int) == 110) = false := by rw [beq_eq_false_iff_ne]; omega
        by_cases h4 : 4 ≤ s.size
        · by_cases h120 : s[1].toNat = 120
          · obtain ⟨x, r, hl⟩ := list4 s h4
            rw [← hl2.out, hl]
            have b4 : ((s[1].toNat : Int) == 120) = true := by rw [h120]; rfl
            have H := Lib.hid h120
            clear hl h120 h34 h110
            have hr2 := Dw.hexa_range s[2].toNat
            have hr3 := Dw.hexa_range s[3].toNat
            go_enter Tryd.func20, Tryd.ntmps20
            go_wp2_with (go_at_call 26; refine (hexa_any _ _).mono ?_; rintro e w' ⟨rfl, rfl⟩)
            · have hc : IntKind.u8.wrap (16 * Dw.hexa s[2].toNat + Dw.hexa s[3].toNat) = 16 * Dw.hexa s[2].toNat + Dw.hexa s[3].toNat := by
                unfold IntKind.wrap; simp [IntKind.bits, IntKind.signed]; omega
              go_quiet ((go_at_call 26; exact Calls.quiet_of_same (hexa_any _ _)))
              go_wp2
              go_ret2
              exact ⟨by rw [Dw.escR_x _ _ _ _ _ H.out (by omega) (by omega)]; rfl, _, rfl⟩
            all_goals
              go_ret2
              exact ⟨by rw [Dw.escR_bad _ _ _ _ _ H.out (by omega)]; rfl, 0, rfl⟩
          · rw [Dw.escR_other _ _ _ ⟨by omega, by omega, by omega, h120⟩]
            have b4 : ((s[1].toNat : Int) == 120) = false := by rw [beq_eq_false_iff_ne]; omega
            clear h120 h34 h110
            go_enter Tryd.func20, Tryd.ntmps20
            go_wp2
            go_ret2
            exact ⟨rfl, 0, rfl⟩
        · have hr : r.length < 2 := by
            have := congrArg List.length hl2.out
            simp at this; omega
          rw [Dw.escR_short4 _ _ _ ⟨by omega, by omega, h110⟩ hr]
          clear h34 h110 hr
          go_enter Tryd.func20, Tryd.ntmps20
          go_wp2
          go_ret2
          exact ⟨rfl, 0, rfl⟩
  · rw [Dw.escR_short _ (by simp; omega)]
    go_enter Tryd.func20, Tryd.ntmps20
    go_wp2
    go_ret2
    exact ⟨rfl, 0, rfl⟩
end Go.Proofs.YtpgaimpppehpcafDoor
