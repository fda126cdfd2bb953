/- caesuralaw30.first: the text that is known. -/
import Derived.Test.YtpgaimpppehpcaaDoorMaskN2
namespace Go.Proofs.YtpgaimpppehpcaaDoor
open Go.RowKit

def s0 : ByteArray := ⟨#[97, 60, 98, 62, 99]⟩
def x0 : ByteArray := ⟨#[97, 99]⟩
def ps0 : List Mk.Piece := [⟨1, 4, 1⟩]
theorem good0 : Mk.Good s0.data.toList x0.data.toList ps0 := by
  have h := ((Mk.Good.nil.plain [97] (by intro c hc; obtain rfl := List.mem_singleton.1 hc; rfl)).mark [98] (by intro c hc; obtain rfl := List.mem_singleton.1 hc; rfl)).plain [99] (by intro c hc; obtain rfl := List.mem_singleton.1 hc; rfl)
  exact h
theorem scan0 : Mk.scan s0.data.toList 0 none [] [] = some (x0.data.toList, ps0) := good0.scan_all
theorem text0 {w : World} {Tb : Nat} (h : IsText w Tb s0 x0 ps0) : TextOk w Tb s0 x0 ps0 := ⟨h, good0.facts, by decide, by decide⟩

theorem outF {k : Nat} (h : Mk.OutIdx ps0 1 false k) : 1 + Mk.A ps0 k = 1 := by
  have h' : Mk.OutIdx ps0 1 false 0 := ⟨Nat.zero_le _, fun q _ hq => by omega, fun q hq _ => by
    have : q = 0 := by simp [ps0] at hq; omega
    subst this; right; exact ⟨rfl, rfl⟩⟩
  rw [h.uniq h']; rfl
theorem outT {k : Nat} (h : Mk.OutIdx ps0 1 true k) : 1 + Mk.A ps0 k = 4 := by
  have h' : Mk.OutIdx ps0 1 true 1 := ⟨by decide, fun q hq _ => by
    have : q = 0 := by simp [ps0] at hq; omega
    subst this; right; exact ⟨rfl, rfl⟩, fun q hq hle => by simp [ps0] at hq; omega⟩
  rw [h.uniq h']; rfl
theorem in3 {k : Nat} (h : Mk.InIdx ps0 3 k) : Mk.inAt ps0 3 k = 1 := by
  have hk : k = 0 := by
    rcases Nat.eq_zero_or_pos k with h0 | h0
    · exact h0
    · have := h.below 0 (by decide) h0; simp [ps0] at this
  subst hk; rfl

structure T0 (w : World) (Tb : Nat) : Prop where
  is : IsText w Tb s0 x0 ps0
theorem T0.below {w w' : World} {Tb : Nat} (h : T0 w Tb) (hb : Below w.heap.size w w') : T0 w' Tb := ⟨h.is.below hb⟩
theorem first_new (w : World) : Calls Tryd.prog 5 #[.string ⟨#[97, 60, 98, 62, 99]⟩, .int .u8 60, .int .u8 62] w fun e w' => (∃ Tb, e = .returned (.tuple #[.pointer (some ⟨Tb, 0, none⟩), .nilIface]) ∧ T0 w' Tb) ∧ Below w.heap.size w w' :=
  (New_any s0 x0 ps0 w (by decide) (by decide) scan0).mono fun e w' ⟨⟨Tb, he, ht⟩, hb⟩ => ⟨⟨Tb, he, ⟨ht⟩⟩, hb⟩
theorem first_out0 (Tb : Nat) (w : World) (h : T0 w Tb) : Calls Tryd.prog 8 #[.pointer (some ⟨Tb, 0, none⟩), .int .i64 1, .bool false] w fun e w' => e = .returned (.tuple #[.int .i64 1, .nilIface]) ∧ Below w.heap.size w w' :=
  (Out_any Tb s0 x0 ps0 1 false (by decide) w (text0 h.is)).mono fun e w' ⟨⟨k, he, hk⟩, hb⟩ => ⟨by rw [he, outF hk]; rfl, hb⟩
theorem first_out1 (Tb : Nat) (w : World) (h : T0 w Tb) : Calls Tryd.prog 8 #[.pointer (some ⟨Tb, 0, none⟩), .int .i64 1, .bool true] w fun e w' => e = .returned (.tuple #[.int .i64 4, .nilIface]) ∧ Below w.heap.size w w' :=
  (Out_any Tb s0 x0 ps0 1 true (by decide) w (text0 h.is)).mono fun e w' ⟨⟨k, he, hk⟩, hb⟩ => ⟨by rw [he, outT hk]; rfl, hb⟩
theorem first_in (Tb : Nat) (w : World) (h : T0 w Tb) : Calls Tryd.prog 9 #[.pointer (some ⟨Tb, 0, none⟩), .int .i64 3] w fun e w' => e = .returned (.tuple #[.int .i64 1, .nilIface]) ∧ Below w.heap.size w w' :=
  (In_any Tb s0 x0 ps0 3 (by decide) w (text0 h.is)).mono fun e w' ⟨⟨k, he, hk⟩, hb⟩ => ⟨by rw [he, in3 hk]; rfl, hb⟩

theorem first_bare (Tb : Nat) (w : World) (h : T0 w Tb) : Calls Tryd.prog 7 #[.pointer (some ⟨Tb, 0, none⟩)] w fun e w' => (∃ xv : ByteArray, e = .returned (.string xv) ∧ (xv.toList == [97, 99]) = true) ∧ w = w' :=
  (Bare_any Tb s0 x0 ps0 w h.is).mono fun e w' ⟨he, hw⟩ => ⟨⟨x0, he, by rw [toL]; rfl⟩, hw⟩

set_option maxHeartbeats 1000000 in
theorem first30_any (w : World) : Calls Tryd.prog 6 #[] w fun e w' => e = .returned (.bool true) ∧ Below w.heap.size w w' := by
  go_enter Tryd.func6, Tryd.ntmps6
  go_wp2_with (go_at_call 5; refine (first_new _).mono ?_; rintro e w1 ⟨⟨Tb, rfl, ht⟩, hb⟩; have HT := Lib.hid ht; have HB := Lib.hid hb; clear ht hb)
  go_wp2_with (first
    | (go_at_call 8; with_reducible refine (first_out0 Tb _ HT.out).mono ?_; rintro e w2 ⟨rfl, hb⟩; have HB2 := Lib.hid hb; have HT2 := Lib.hid (HT.out.below hb); clear hb)
    | (go_at_call 8; with_reducible refine (first_out1 Tb _ HT2.out).mono ?_; rintro e w3 ⟨rfl, hb⟩; have HB3 := Lib.hid hb; have HT3 := Lib.hid (HT2.out.below hb); clear hb)
    | (go_at_call 9; with_reducible refine (first_in Tb _ HT3.out).mono ?_; rintro e w4 ⟨rfl, hb⟩; have HB4 := Lib.hid hb; have HT4 := Lib.hid (HT3.out.below hb); clear hb)
    | (go_at_call 7; with_reducible refine (first_bare Tb _ HT4.out).mono ?_; rintro e w5 ⟨⟨xv, rfl, hxv⟩, rfl⟩))
  go_ret
  exact ⟨ret_bool (by decide), below_step (below_step (below_step HB.out HB2.out) HB3.out) HB4.out⟩
end Go.Proofs.YtpgaimpppehpcaaDoor
