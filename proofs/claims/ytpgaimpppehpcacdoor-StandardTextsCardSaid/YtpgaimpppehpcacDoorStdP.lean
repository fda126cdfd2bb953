/- standard.property and caesuraref24.Property: one text. -/
import Derived.Test.YtpgaimpppehpcacDoorStdW
namespace Go.Proofs.YtpgaimpppehpcacDoor
open Go.RowKit

set_option maxHeartbeats 8000000 in
set_option maxRecDepth 100000 in
theorem property_both : ∃ s : ByteArray, (∀ w : World, Calls Tryd.prog 11 #[] w fun e w' => e = .returned (.string s) ∧ w = w') ∧
    ∀ w : World, Lib.TabIs Tryd.prog w "strings.asciiSpace" .u8 Lib.asciiSpaceTab → Calls Tryd.prog 14 #[] w fun e w' => e = .returned (.string s) ∧ Below w.heap.size w w' := by
  apply Exists.intro
  refine ⟨fun w => ?_, fun w htab => ?_⟩
  · go_enter Tryd.func11, Tryd.ntmps11
    go_wp2
    go_ret
    exact ⟨rfl, rfl⟩
  have HT := Lib.hid htab
  clear htab
  go_enter Tryd.func14, Tryd.ntmps14
  go_wp2_with (first
    | (go_at_call 15; ((with_reducible refine (writeString_any w.heap.size w.heap.size [] _ _ (Lib.IsBuilderF.of (Lib.fresh_isBuilder 27 5 w)) ?hl ?hw).mono ?_); (case hl => decide +kernel); (case hw => simp)); rintro e w0 ⟨rfl, hi, hb, _⟩; obtain ⟨acc0, ha, hl0, hp⟩ := pst0 hi hb (by decide +kernel); have HA0 := Lib.hid ha; have HP0 := Lib.hid hp; clear ha hp hi hb)
    | (go_at_call 16; with_reducible refine (add_any w.heap.size _ _ acc0 w _ HP0.out ?ho (by omega) (tab_below HT.out HP0.out.below)).mono ?_; (case ho => exact ⟨by decide +kernel, by decide +kernel, by decide +kernel, by decide +kernel, by decide +kernel⟩); rintro e w1 ⟨rfl, acc1, ha, hl1, hp⟩; have HA1 := Lib.hid ha; have HP1 := Lib.hid hp; clear ha hp)
    | (go_at_call 16; with_reducible refine (add_any w.heap.size _ _ acc1 w _ HP1.out ?ho (by omega) (tab_below HT.out HP1.out.below)).mono ?_; (case ho => exact ⟨by decide +kernel, by decide +kernel, by decide +kernel, by decide +kernel, by decide +kernel⟩); rintro e w2 ⟨rfl, acc2, ha, hl2, hp⟩; have HA2 := Lib.hid ha; have HP2 := Lib.hid hp; clear ha hp)
    | (go_at_call 16; with_reducible refine (add_any w.heap.size _ _ acc2 w _ HP2.out ?ho (by omega) (tab_below HT.out HP2.out.below)).mono ?_; (case ho => exact ⟨by decide +kernel, by decide +kernel, by decide +kernel, by decide +kernel, by decide +kernel⟩); rintro e w3 ⟨rfl, acc3, ha, hl3, hp⟩; have HA3 := Lib.hid ha; have HP3 := Lib.hid hp; clear ha hp)
    | (go_at_call 16; with_reducible refine (add_any w.heap.size _ _ acc3 w _ HP3.out ?ho (by omega) (tab_below HT.out HP3.out.below)).mono ?_; (case ho => exact ⟨by decide +kernel, by decide +kernel, by decide +kernel, by decide +kernel, by decide +kernel⟩); rintro e w4 ⟨rfl, acc4, ha, hl4, hp⟩; have HA4 := Lib.hid ha; have HP4 := Lib.hid hp; clear ha hp)
    | (go_at_call 16; with_reducible refine (add_any w.heap.size _ _ acc4 w _ HP4.out ?ho (by omega) (tab_below HT.out HP4.out.below)).mono ?_; (case ho => exact ⟨by decide +kernel, by decide +kernel, by decide +kernel, by decide +kernel, by decide +kernel⟩); rintro e w5 ⟨rfl, acc5, ha, hl5, hp⟩; have HA5 := Lib.hid ha; have HP5 := Lib.hid hp; clear ha hp)
    | (go_at_call 16; with_reducible refine (add_any w.heap.size _ _ acc5 w _ HP5.out ?ho (by omega) (tab_below HT.out HP5.out.below)).mono ?_; (case ho => exact ⟨by decide +kernel, by decide +kernel, by decide +kernel, by decide +kernel, by decide +kernel⟩); rintro e w6 ⟨rfl, acc6, ha, hl6, hp⟩; have HA6 := Lib.hid ha; have HP6 := Lib.hid hp; clear ha hp)
    | (go_at_call 16; with_reducible refine (add_any w.heap.size _ _ acc6 w _ HP6.out ?ho (by omega) (tab_below HT.out HP6.out.below)).mono ?_; (case ho => exact ⟨by decide +kernel, by decide +kernel, by decide +kernel, by decide +kernel, by decide +kernel⟩); rintro e w7 ⟨rfl, acc7, ha, hl7, hp⟩; have HA7 := Lib.hid ha; have HP7 := Lib.hid hp; clear ha hp)
    | (go_at_call 16; with_reducible refine (add_any w.heap.size _ _ acc7 w _ HP7.out ?ho (by omega) (tab_below HT.out HP7.out.below)).mono ?_; (case ho => exact ⟨by decide +kernel, by decide +kernel, by decide +kernel, by decide +kernel, by decide +kernel⟩); rintro e w8 ⟨rfl, acc8, ha, hl8, hp⟩; have HA8 := Lib.hid ha; have HP8 := Lib.hid hp; clear ha hp)
    | (go_at_call 16; with_reducible refine (add_any w.heap.size _ _ acc8 w _ HP8.out ?ho (by omega) (tab_below HT.out HP8.out.below)).mono ?_; (case ho => exact ⟨by decide +kernel, by decide +kernel, by decide +kernel, by decide +kernel, by decide +kernel⟩); rintro e w9 ⟨rfl, acc9, ha, hl9, hp⟩; have HA9 := Lib.hid ha; have HP9 := Lib.hid hp; clear ha hp)
    | (go_at_call 16; with_reducible refine (add_any w.heap.size _ _ acc9 w _ HP9.out ?ho (by omega) (tab_below HT.out HP9.out.below)).mono ?_; (case ho => exact ⟨by decide +kernel, by decide +kernel, by decide +kernel, by decide +kernel, by decide +kernel⟩); rintro e w10 ⟨rfl, acc10, ha, hl10, hp⟩; have HA10 := Lib.hid ha; have HP10 := Lib.hid hp; clear ha hp)
    | (go_at_call 16; with_reducible refine (add_any w.heap.size _ _ acc10 w _ HP10.out ?ho (by omega) (tab_below HT.out HP10.out.below)).mono ?_; (case ho => exact ⟨by decide +kernel, by decide +kernel, by decide +kernel, by decide +kernel, by decide +kernel⟩); rintro e w11 ⟨rfl, acc11, ha, hl11, hp⟩; have HA11 := Lib.hid ha; have HP11 := Lib.hid hp; clear ha hp)
    | (go_at_call 16; with_reducible refine (add_any w.heap.size _ _ acc11 w _ HP11.out ?ho (by omega) (tab_below HT.out HP11.out.below)).mono ?_; (case ho => exact ⟨by decide +kernel, by decide +kernel, by decide +kernel, by decide +kernel, by decide +kernel⟩); rintro e w12 ⟨rfl, acc12, ha, hl12, hp⟩; have HA12 := Lib.hid ha; have HP12 := Lib.hid hp; clear ha hp)
    | (go_at_call 16; with_reducible refine (add_any w.heap.size _ _ acc12 w _ HP12.out ?ho (by omega) (tab_below HT.out HP12.out.below)).mono ?_; (case ho => exact ⟨by decide +kernel, by decide +kernel, by decide +kernel, by decide +kernel, by decide +kernel⟩); rintro e w13 ⟨rfl, acc13, ha, hl13, hp⟩; have HA13 := Lib.hid ha; have HP13 := Lib.hid hp; clear ha hp)
    | (go_at_call 16; with_reducible refine (add_any w.heap.size _ _ acc13 w _ HP13.out ?ho (by omega) (tab_below HT.out HP13.out.below)).mono ?_; (case ho => exact ⟨by decide +kernel, by decide +kernel, by decide +kernel, by decide +kernel, by decide +kernel⟩); rintro e w14 ⟨rfl, acc14, ha, hl14, hp⟩; have HA14 := Lib.hid ha; have HP14 := Lib.hid hp; clear ha hp)
    | (go_at_call 18; with_reducible refine (Tryd.Builder_String_any_k w.heap.size w.heap.size acc14 _ HP14.out.buf (by have := HP14.out.lt; omega)).mono ?_; rintro e w15 ⟨rfl, _, hb, _⟩; have HB := Lib.hid (HP14.out.below.trans hb); clear hb))
  go_ret
  have e : acc14 = _ := HA14.out
  rw [HA13.out, HA12.out, HA11.out, HA10.out, HA9.out, HA8.out, HA7.out, HA6.out, HA5.out, HA4.out, HA3.out, HA2.out, HA1.out, HA0.out] at e
  refine ⟨congrArg (fun x => Ending.returned (Value.string x)) (str_ext ?_), HB.out⟩
  rw [List.toList_toArray, e]
  kernel_rfl
end Go.Proofs.YtpgaimpppehpcacDoor
