/- caesuralaw24.StandardTexts: the walk. -/
import Derived.Test.YtpgaimpppehpcacDoorStdP
namespace Go.Proofs.YtpgaimpppehpcacDoor
open Go.RowKit

theorem sen_both : ∃ s : ByteArray, (∀ w : World, Calls Tryd.prog 4 #[] w fun e w' => e = .returned (.string s) ∧ w = w') ∧
    ∀ w : World, Calls Tryd.prog 5 #[] w fun e w' => e = .returned (.string s) ∧ w = w' := by
  apply Exists.intro
  refine ⟨fun w => ?_, fun w => ?_⟩
  · go_enter Tryd.func4, Tryd.ntmps4
    go_wp2
    go_ret
    exact ⟨rfl, rfl⟩
  · go_enter Tryd.func5, Tryd.ntmps5
    go_wp2
    go_ret
    exact ⟨rfl, rfl⟩
theorem wor_both : ∃ s : ByteArray, (∀ w : World, Calls Tryd.prog 6 #[] w fun e w' => e = .returned (.string s) ∧ w = w') ∧
    ∀ w : World, Calls Tryd.prog 7 #[] w fun e w' => e = .returned (.string s) ∧ w = w' := by
  apply Exists.intro
  refine ⟨fun w => ?_, fun w => ?_⟩
  · go_enter Tryd.func6, Tryd.ntmps6
    go_wp2
    go_ret
    exact ⟨rfl, rfl⟩
  · go_enter Tryd.func7, Tryd.ntmps7
    go_wp2
    go_ret
    exact ⟨rfl, rfl⟩
theorem clu_both : ∃ s : ByteArray, (∀ w : World, Calls Tryd.prog 8 #[] w fun e w' => e = .returned (.string s) ∧ w = w') ∧
    ∀ w : World, Calls Tryd.prog 9 #[] w fun e w' => e = .returned (.string s) ∧ w = w' := by
  apply Exists.intro
  refine ⟨fun w => ?_, fun w => ?_⟩
  · go_enter Tryd.func8, Tryd.ntmps8
    go_wp2
    go_ret
    exact ⟨rfl, rfl⟩
  · go_enter Tryd.func9, Tryd.ntmps9
    go_wp2
    go_ret
    exact ⟨rfl, rfl⟩
theorem bun_both : ∃ s : ByteArray, (∀ w : World, Calls Tryd.prog 12 #[] w fun e w' => e = .returned (.string s) ∧ w = w') ∧
    ∀ w : World, Calls Tryd.prog 13 #[] w fun e w' => e = .returned (.string s) ∧ w = w' := by
  apply Exists.intro
  refine ⟨fun w => ?_, fun w => ?_⟩
  · go_enter Tryd.func12, Tryd.ntmps12
    go_wp2
    go_ret
    exact ⟨rfl, rfl⟩
  · go_enter Tryd.func13, Tryd.ntmps13
    go_wp2
    go_ret
    exact ⟨rfl, rfl⟩

theorem Property_any (s : ByteArray) (h : ∀ w : World, Lib.TabIs Tryd.prog w "strings.asciiSpace" .u8 Lib.asciiSpaceTab → Calls Tryd.prog 14 #[] w fun e w' => e = .returned (.string s) ∧ Below w.heap.size w w') (w : World) (ht : Lib.TabIs Tryd.prog w "strings.asciiSpace" .u8 Lib.asciiSpaceTab) :
    Calls Tryd.prog 10 #[] w fun e w' => e = .returned (.string s) ∧ Below w.heap.size w w' := by
  have H := Lib.hid h
  have HT := Lib.hid ht
  clear h ht
  go_enter Tryd.func10, Tryd.ntmps10
  go_wp2_with (go_at_call 14; with_reducible refine (H.out _ HT.out).mono ?_; rintro e w1 ⟨rfl, hb⟩)
  go_ret
  exact ⟨rfl, hb⟩

set_option maxHeartbeats 4000000 in
theorem standardTexts_walk (w : World) (ht : Lib.TabIs Tryd.prog w "strings.asciiSpace" .u8 Lib.asciiSpaceTab) :
    Calls Tryd.prog 3 #[] w fun e w' => e = .returned (.bool true) ∧ Below w.heap.size w w' := by
  obtain ⟨sp, hp1, hp2⟩ := property_both
  obtain ⟨ssen, hsen1, hsen2⟩ := sen_both
  obtain ⟨swor, hwor1, hwor2⟩ := wor_both
  obtain ⟨sclu, hclu1, hclu2⟩ := clu_both
  obtain ⟨sbun, hbun1, hbun2⟩ := bun_both
  have HPr := Lib.hid (Property_any sp hp2)
  have HPr1 := Lib.hid hp1
  have Hsen1 := Lib.hid hsen1
  have Hsen2 := Lib.hid hsen2
  have Hwor1 := Lib.hid hwor1
  have Hwor2 := Lib.hid hwor2
  have Hclu1 := Lib.hid hclu1
  have Hclu2 := Lib.hid hclu2
  have Hbun1 := Lib.hid hbun1
  have Hbun2 := Lib.hid hbun2
  have HT := Lib.hid ht
  clear ht hp1 hp2 hsen1 hsen2 hwor1 hwor2 hclu1 hclu2 hbun1 hbun2
  go_enter Tryd.func3, Tryd.ntmps3
  go_wp2_with fail
  go_loopw [1] (fun i wr => ∃ k : Nat, i = .int .i64 k ∧ k ≤ 2 ∧ Hid (Below w.heap.size w wr)) (fun i _ => 2 - (intOf i).toNat)
  case atStart => exact ⟨0, rfl, Nat.zero_le _, Lib.hid (Below.refl _ _)⟩
  case round =>
    obtain ⟨k, rfl, hk, hB⟩ := hrel
    by_cases hlt : k < 2
    · have d1 : decide ((k : Int) < 2) = true := decide_eq_true (by omega)
      go_wp2_with (first
        | (go_at_call 4; with_reducible refine (Hsen1.out _).mono ?_; rintro e wa ⟨rfl, rfl⟩)
        | (go_at_call 5; with_reducible refine (Hsen2.out _).mono ?_; rintro e wa ⟨rfl, rfl⟩)
        | (go_at_call 6; with_reducible refine (Hwor1.out _).mono ?_; rintro e wa ⟨rfl, rfl⟩)
        | (go_at_call 7; with_reducible refine (Hwor2.out _).mono ?_; rintro e wa ⟨rfl, rfl⟩)
        | (go_at_call 8; with_reducible refine (Hclu1.out _).mono ?_; rintro e wa ⟨rfl, rfl⟩)
        | (go_at_call 9; with_reducible refine (Hclu2.out _).mono ?_; rintro e wa ⟨rfl, rfl⟩)
        | (go_at_call 12; with_reducible refine (Hbun1.out _).mono ?_; rintro e wa ⟨rfl, rfl⟩)
        | (go_at_call 13; with_reducible refine (Hbun2.out _).mono ?_; rintro e wa ⟨rfl, rfl⟩)
        | (go_at_call 10; with_reducible refine (HPr.out _ (tab_below HT.out hB.out)).mono ?_; rintro e w1 ⟨rfl, hb⟩; have HB1 := Lib.hid (below_step hB.out hb); clear hb)
        | (go_at_call 11; with_reducible refine (HPr1.out _).mono ?_; rintro e wa ⟨rfl, rfl⟩))
      go_roundw
      case rel => exact ⟨k + 1, by go_num, hlt, HB1⟩
      case measure => simp [intOf]; omega
    · have d1 : decide ((k : Int) < 2) = false := decide_eq_false (by omega)
      go_wp2_with fail
      go_ret
      exact ⟨rfl, hB.out⟩
end Go.Proofs.YtpgaimpppehpcacDoor
