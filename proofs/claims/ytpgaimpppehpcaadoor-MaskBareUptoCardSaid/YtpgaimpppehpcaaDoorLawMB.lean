/- caesuralaw30.MaskBare: the walk. -/
import Derived.Test.YtpgaimpppehpcaaDoorMaskF
import Derived.Test.YtpgaimpppehpcaaDoorMaskV
import Derived.Test.YtpgaimpppehpcaaDoorNum
import Derived.Deep.DeepCutAuto
namespace Go.Proofs.YtpgaimpppehpcaaDoor
open Go.RowKit

theorem out_int (Tb : Nat) (s x : ByteArray) (ps : List Mk.Piece) (z : Int) (i : Nat) (hz : z = (i : Int)) (bh : Bool) (hi : i ≤ x.size) (w : World) (ht : TextOk w Tb s x ps) :
    Calls Tryd.prog 8 #[.pointer (some ⟨Tb, 0, none⟩), .int .i64 z, .bool bh] w fun e w' => (∃ k : Nat, e = .returned (.tuple #[.int .i64 ((i + Mk.A ps k : Nat) : Int), .nilIface]) ∧ Mk.OutIdx ps i bh k) ∧ Below w.heap.size w w' := by
  subst hz; exact Out_any Tb s x ps i bh hi w ht
theorem out_badI (a : Nat → Addr) (Tb : Nat) (s x : ByteArray) (ps : List Mk.Piece) (z : Int) (hz : z = ((x.size + 1 : Nat) : Int)) (bh : Bool) (w : World) (ht : TextOk w Tb s x ps) (hsent : Sent a w) :
    Calls Tryd.prog 8 #[.pointer (some ⟨Tb, 0, none⟩), .int .i64 z, .bool bh] w fun e w' => e = .returned (.tuple #[.int .i64 0, errV a 1]) ∧ Below w.heap.size w w' := by
  subst hz; exact Out_bad a Tb s x ps (x.size + 1) bh (by omega) w ht hsent
theorem in_badI (a : Nat → Addr) (Tb : Nat) (s x : ByteArray) (ps : List Mk.Piece) (z : Int) (hz : z = ((s.size + 1 : Nat) : Int)) (w : World) (ht : TextOk w Tb s x ps) (hsent : Sent a w) :
    Calls Tryd.prog 9 #[.pointer (some ⟨Tb, 0, none⟩), .int .i64 z] w fun e w' => e = .returned (.tuple #[.int .i64 0, errV a 1]) ∧ Below w.heap.size w w' := by
  subst hz; exact In_bad a Tb s x ps (s.size + 1) (by omega) w ht hsent

/-- What 'last' is ahead of round i. -/
def LastIs (ps : List Mk.Piece) (i : Nat) (L : Int) : Prop := (i = 0 ∧ L = -1) ∨ ∃ j k, i = j + 1 ∧ Mk.OutIdx ps j true k ∧ L = ((j + Mk.A ps k : Nat) : Int)

theorem LastIs.next {ps : List Mk.Piece} {i : Nat} {L : Int} (h : LastIs ps i L) {k0 : Nat} (h0 : Mk.OutIdx ps i false k0) : ((i + Mk.A ps k0 : Nat) : Int) = L + 1 := by
  rcases h with ⟨rfl, rfl⟩ | ⟨j, k, rfl, hk, rfl⟩
  · rw [Mk.out_first h0, Mk.A_zero]; rfl
  · rw [Mk.out_step h0 hk]; omega

theorem WovR.good {b t : ByteArray} {ps : List Mk.Piece} {k : Nat} (h : WovR b t ps k) : Mk.Good t.data.toList b.data.toList ps := h.1
theorem WovR.sizes {b t : ByteArray} {ps : List Mk.Piece} (h : WovR b t ps 30) : b.size ≤ 1000000000 ∧ t.size ≤ 1000000000 ∧ ps.length ≤ 30 :=
  ⟨Nat.le_trans h.2.2.2 (by decide), Nat.le_trans h.2.2.1 (by decide), h.2.1⟩

set_option maxHeartbeats 8000000 in
set_option maxRecDepth 100000 in
theorem maskBare_walk (a : Nat → Addr) (v0 v1 v2 v3 v4 v8 : Value) (TA LA : Option Addr) (tc lc : Nat) (tl : List ByteArray) (ll : List Int) (one : ByteArray) (w : World) (hc : one.size ≤ 1048576) (hT : StrsAt w TA tl) (hL : IntsAt w LA ll) (htl : tl.length ≤ 1048576) (hll : ll.length ≤ 1048576) (hsent : Sent a w) :
    Calls Tryd.prog 3 #[.agg #[v0, v1, v2, v3, v4, .slice TA tl.length tc, .slice LA ll.length lc, .string one, v8]] w fun e w' => e = .returned (.bool true) ∧ Below w.heap.size w w' := by
  have HT := Lib.hid hT
  have HL := Lib.hid hL
  have HS := Lib.hid hsent
  clear hT hL hsent
  go_enter Tryd.func3, Tryd.ntmps3
  go_wp2_with fail
  have HB0 := Lib.hid ((Below.refl _ w).alloc (Nat.le_refl _) (.cells #[v0, v1, v2, v3, v4, .slice TA tl.length tc, .slice LA ll.length lc, .string one, v8] 27))
  go_wp2_with (first
    | (go_at_call 4; with_reducible refine (woven_any v0 v1 v2 v3 v4 _ v8 TA LA tc lc tl ll one _ hc (HT.out.below HB0.out) (HL.out.below HB0.out) htl hll).mono ?_; rintro e w1 ⟨⟨b, t, rfl, ps, hw⟩, hb⟩; have HW := Lib.hid hw; have HB1 := Lib.hid (below_step HB0.out hb); clear hw hb; have hsz := HW.out.sizes; obtain ⟨hbs, hts, hpl⟩ := hsz)
    | (go_at_call 5; with_reducible refine (New_any t b ps _ (by omega) (by omega) HW.out.good.scan_all).mono ?_; rintro e w2 ⟨⟨Tb, rfl, ht⟩, hb⟩; have HX := Lib.hid (show TextOk _ Tb t b ps from ⟨ht, HW.out.good.facts, by omega, by omega⟩); have HB2 := Lib.hid (below_step HB1.out hb); clear ht hb)
    | (go_at_call 6; with_reducible refine (first30_any _).mono ?_; rintro e w3 ⟨rfl, hb⟩; have HX3 := Lib.hid (HX.out.below hb); have HB3 := Lib.hid (below_step HB2.out hb); clear hb)
    | (go_at_call 7; with_reducible refine (Bare_any Tb t b ps _ HX3.out.is).mono ?_; rintro e w4 ⟨rfl, rfl⟩))
  have HX4 : Hid (TextOk _ Tb t b ps ∧ Below w.heap.size w _) := Lib.hid ⟨HX3.out, HB3.out⟩
  go_loopw [8, 9] (fun L i wr => ∃ (z : Int) (k : Nat), L = .int .i64 z ∧ i = .int .i64 k ∧ k ≤ b.size + 1 ∧ Hid (LastIs ps k z) ∧ Hid (TextOk wr Tb t b ps ∧ Below w.heap.size w wr)) (fun _ i _ => b.size + 1 - (intOf i).toNat)
  case atStart => exact ⟨-1, 0, rfl, rfl, Nat.zero_le _, Lib.hid (.inl ⟨rfl, rfl⟩), HX4⟩
  case round =>
    have HF := Lib.hid HX3.out.facts
    clear HX HX3 HX4 HB3 HB2 HB1 HB0 HW HT HL
    obtain ⟨z, k, rfl, rfl, hk, hL, hX⟩ := hrel
    by_cases hle : k ≤ b.size
    · have d1 : decide (k ≤ b.size) = true := decide_eq_true hle
      have hkb : k ≤ b.data.toList.length := by rw [len_str]; exact hle
      go_wp2_with (first
        | (go_at_call 8; with_reducible refine (Out_any Tb t b ps k false hle _ hX.out.1).mono ?_; rintro e w5 ⟨⟨k0, he, hk0⟩, hb⟩; obtain ⟨av, hav⟩ : ∃ av : Nat, k + Mk.A ps k0 = av := ⟨_, rfl⟩; rw [hav] at he; subst he; have hn := hL.out.next hk0; rw [hav] at hn; have hat : av ≤ t.size := (by have := Mk.out_le (j := k0) HF.out hkb; rw [len_str] at this; omega); have hz0 : -1 ≤ z := (by omega); have hz1 : z ≤ 1000000000 := (by omega); have HN := Lib.hid hn; clear hn; have HAV := Lib.hid hav; have HK0 := Lib.hid hk0; have HX5 := Lib.hid (hX.out.1.below hb); have HB5 := Lib.hid (below_step hX.out.2 hb); clear hav hk0 hb)
        | (go_at_call 8; with_reducible refine (Out_any Tb t b ps k true hle _ HX5.out).mono ?_; rintro e w6 ⟨⟨k1, he, hk1⟩, hb⟩; obtain ⟨bv, hbv⟩ : ∃ bv : Nat, k + Mk.A ps k1 = bv := ⟨_, rfl⟩; rw [hbv] at he; subst he; have hbt : bv ≤ t.size := (by have := Mk.out_le (j := k1) HF.out hkb; rw [len_str] at this; omega); have hab : av ≤ bv := (by have := Mk.A_mono (ps := ps) (Mk.out_mono HK0.out hk1); have := HAV.out; omega); have f1 : decide (bv < av) = false := decide_eq_false (by omega); have f2 : decide (t.size < bv) = false := decide_eq_false (by omega); have f3 : ((av : Int) != z + 1) = false := bneI_false HN.out; have HBV := Lib.hid hbv; have HK1 := Lib.hid hk1; have HX6 := Lib.hid (HX5.out.below hb); have HB6 := Lib.hid (below_step HB5.out hb); clear hbv hk1 hb))
      go_loopw [14] (fun m wr2 => ∃ q : Nat, m = .int .i64 q ∧ av ≤ q ∧ q ≤ bv + 1 ∧ Hid (TextOk wr2 Tb t b ps ∧ Below w.heap.size w wr2)) (fun m _ => bv + 1 - (intOf m).toNat)
      case atStart => exact ⟨av, rfl, Nat.le_refl _, by omega, Lib.hid ⟨HX6.out, HB6.out⟩⟩
      case round =>
        clear HX6 HB6 HX5 HB5 hX
        obtain ⟨q, rfl, hq0, hq1, hY⟩ := hrel
        by_cases hqb : q ≤ bv
        · have e1 : decide (q ≤ bv) = true := decide_eq_true hqb
          go_wp2_with (go_at_call 9; with_reducible refine (In_any Tb t b ps q (by omega) _ hY.out.1).mono ?_; rintro e w7 ⟨⟨kq, he, hkq⟩, hb⟩; rw [Mk.in_at HF.out HK0.out HK1.out hkq (by have := HAV.out; omega) (by have := HBV.out; omega)] at he; subst he; have HY7 := Lib.hid (show TextOk _ Tb t b ps ∧ Below w.heap.size w _ from ⟨hY.out.1.below hb, below_step hY.out.2 hb⟩); clear hkq hb)
          go_roundw
          case rel => exact ⟨q + 1, by go_num, by omega, by omega, HY7⟩
          case measure => simp [intOf]; omega
        · have e1 : decide (q ≤ bv) = false := decide_eq_false hqb
          have hLn : Hid (LastIs ps (k + 1) (bv : Int)) := Lib.hid (.inr ⟨k, _, rfl, HK1.out, by rw [HBV.out]⟩)
          by_cases hkl : k < b.size
          · have hbyte := HF.out.byte k (by rw [len_str]; exact hkl) _ HK1.out.le (fun p hp hpj => by have := HK1.out.below p hp hpj; simp at this; omega) (fun p hp hpj => by have := HK1.out.above p hp hpj; simp at this; omega)
            rw [HBV.out] at hbyte
            obtain ⟨hbl, hbe⟩ := List.getElem?_eq_some_iff.1 hbyte
            rw [len_str] at hbl
            have hbe2 : t[bv] = b[k] := by simp at hbe; exact hbe
            have g1 : decide (k < b.size) = true := decide_eq_true hkl
            have g2 : decide (t.size ≤ bv) = false := decide_eq_false (by omega)
            have g3 : ((t[bv].toNat : Int) != (b[k].toNat : Int)) = false := bneI_false (by rw [hbe2])
            clear hbyte hbe hbe2
            go_wp2_with fail
            go_quiet (fail)
            go_wp2_with fail
            go_roundw
            case rel => exact ⟨_, k + 1, rfl, by go_num, by omega, hLn, Lib.hid ⟨hY.out.1.below (below_of_drewN _ _ _), below_drewN hY.out.2 _⟩⟩
            case measure => simp [intOf]; omega
          · have g1 : decide (k < b.size) = false := decide_eq_false hkl
            go_wp2_with fail
            go_quiet (fail)
            go_wp2_with fail
            go_roundw
            case rel => exact ⟨_, k + 1, rfl, by go_num, by omega, hLn, Lib.hid ⟨hY.out.1.below (below_of_drewN _ _ _), below_drewN hY.out.2 _⟩⟩
            case measure => simp [intOf]; omega
    · have d1 : decide (k ≤ b.size) = false := decide_eq_false hle
      have hz : ((z : Int) == (t.size : Int)) = true := beqI_true (by
        rcases hL.out with ⟨h0, _⟩ | ⟨j, kj, hj, hkj, hzj⟩
        · omega
        · have hjb : j = b.data.toList.length := by rw [len_str]; omega
          subst hjb
          have := Mk.out_last HF.out hkj
          rw [hzj, this, len_str])
      clear hL
      go_wp2_with (first
        | (go_at_call 8; with_reducible refine (out_badI a Tb t b ps _ (by omega) true _ hX.out.1 (HS.out.below hX.out.2)).mono ?_; rintro e w5 ⟨rfl, hb⟩; have HX5 := Lib.hid (hX.out.1.below hb); have HB5 := Lib.hid (below_step hX.out.2 hb); clear hb)
        | (go_at_call 9; with_reducible refine (in_badI a Tb t b ps _ (by omega) _ HX5.out (HS.out.below HB5.out)).mono ?_; rintro e w6 ⟨rfl, hb⟩; have HB6 := Lib.hid (below_step HB5.out hb); clear hb)
        | (go_at_call 10; with_reducible refine (num_any a 1 (by decide) _ (HS.out.below HB6.out)).mono ?_; rintro e w7 ⟨rfl, rfl⟩))
      go_ret
      exact ⟨ret_bool (by simp), HB6.out⟩
end Go.Proofs.YtpgaimpppehpcaaDoor
