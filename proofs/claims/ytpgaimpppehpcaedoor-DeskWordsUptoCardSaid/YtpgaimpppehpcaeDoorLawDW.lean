/- The law DeskWords: the walk. -/
import Derived.Test.YtpgaimpppehpcaeDoorDeskW4
import Derived.Test.YtpgaimpppehpcaeDoorRefW3
import Derived.Test.YtpgaimpppehpcaeDoorSameS
namespace Go.Proofs.YtpgaimpppehpcaeDoor
open Go.RowKit Go.Proofs.YtpgaimpppehpcaeDoorW.PrintWords

set_option maxHeartbeats 4000000 in
theorem deskWords_walk (a : Nat → Addr) (s : ByteArray) (w : World) (hs : s.size ≤ 1099511627776) (hsent : Sent a w) :
    Calls Tryd.prog 3 #[.string s] w fun e w' => e = .returned (.bool true) ∧ Below w.heap.size w w' := by
  have HS := Lib.hid hsent
  clear hsent
  cases hq : Dw.words s.data.toList with
  | none =>
    have HQ := Lib.hid hq
    clear hq
    go_enter Tryd.func3, Tryd.ntmps3
    go_wp2_with (first
      | (go_at_call 4; refine (Words_any a s _ hs HS.out).mono ?_; rintro e w1 ⟨hb, hp⟩; rw [HQ.out] at hp; subst hp; have HB1 := Lib.hid hb; clear hb)
      | (go_at_call 5; refine (rWords_any s _ hs).mono ?_; rintro e w2 ⟨hb, hp⟩; rw [HQ.out] at hp; subst hp; have HB2 := Lib.hid hb; clear hb)
      | (go_at_call 6; refine (sameStrings_any none none 0 0 [] [] _ (Kd.C_nil _ _) (Kd.C_nil _ _) (by simp) (by simp)).mono ?_; rintro e w3 ⟨rfl, n, rfl⟩)
      | (go_at_call 7; refine (num_any a 2 (by omega) _ (((HS.out.below HB1.out).below HB2.out).drewN _)).mono ?_; rintro e w4 ⟨rfl, rfl⟩))
    go_ret
    exact ⟨rfl, below_drewN (below_step HB1.out HB2.out) _⟩
  | some ws =>
    have HQ := Lib.hid hq
    clear hq
    go_enter Tryd.func3, Tryd.ntmps3
    go_wp2_with (first
      | (go_at_call 4; refine (Words_any a s _ hs HS.out).mono ?_; rintro e w1 ⟨hb, hp⟩; rw [HQ.out] at hp; obtain ⟨v1, x1, rfl, ho, hx, hl1⟩ := hp; have HB1 := Lib.hid hb; have HO1 := Lib.hid ho; have HX1 := Lib.hid hx; clear hb ho hx)
      | (go_at_call 5; refine (rWords_any s _ hs).mono ?_; rintro e w2 ⟨hb, hp⟩; rw [HQ.out] at hp; obtain ⟨v2, x2, rfl, ho, hx, hl2⟩ := hp; obtain ⟨A1, c1, rfl, _, hr1⟩ := Kd.R_reads HO1.out; obtain ⟨A2, c2, rfl, _, hr2⟩ := Kd.R_reads ho; have HR1 := Lib.hid (Kd.C_below hr1 hb); have HR2 := Lib.hid hr2; have HB2 := Lib.hid hb; have HX2 := Lib.hid hx; clear hb ho hx hr1 hr2 HO1)
      | (go_at_call 6; refine (sameStrings_any A1 A2 c1 c2 x1 x2 _ HR1.out HR2.out (by omega) (by omega)).mono ?_; rintro e w3 ⟨rfl, n, rfl⟩; rw [HX1.out, HX2.out, decide_eq_true rfl])
      | (go_at_call 7; refine (num_any a 0 (by omega) _ (((HS.out.below HB1.out).below HB2.out).drewN _)).mono ?_; rintro e w4 ⟨rfl, rfl⟩))
    go_ret
    exact ⟨rfl, below_drewN (below_step HB1.out HB2.out) _⟩
end Go.Proofs.YtpgaimpppehpcaeDoor
