/- caesuralaw30.woven: the walk. -/
import Derived.Test.YtpgaimpppehpcaaDoorMaskP
import Derived.Test.YtpgaimpppehpcaaDoorMaskW2
namespace Go.Proofs.YtpgaimpppehpcaaDoor
open Go.RowKit Go.Proofs.YtpgaimpppehpcaaDoorW.PrintWords

theorem markup_int (z : Int) (n : Nat) (hz : z = (n : Int)) (h2 : 2 ≤ n) (h8 : n ≤ 8) (s : ByteArray) (w : World) (hs : s.size ≤ 70368744177664) :
    Calls Tryd.prog 12 #[.int .i64 z, .string s] w fun e w' => (∃ y : ByteArray, e = .returned (.string y) ∧ ∃ m, y.data.toList = 60 :: m ++ [62] ∧ Mk.Plain m ∧ m.length ≤ 6) ∧ Below w.heap.size w w' := by
  subst hz; exact markup_any n h2 h8 s w hs

def StrsAt (w : World) (A : Option Addr) (tl : List ByteArray) : Prop := ∀ k (h : k < tl.length), ∃ ad, A = some ad ∧ w.cell? (ad.add k) = some (.string tl[k]) ∧ tl[k].size ≤ 1048576
def IntsAt (w : World) (A : Option Addr) (ll : List Int) : Prop := ∀ k (h : k < ll.length), ∃ ad, A = some ad ∧ w.cell? (ad.add k) = some (.int .i64 ll[k])
theorem StrsAt.below {w w' : World} {A : Option Addr} {tl : List ByteArray} (h : StrsAt w A tl) (hb : Below w.heap.size w w') : StrsAt w' A tl := fun k hk => by
  obtain ⟨ad, e, hc, hs⟩ := h k hk
  exact ⟨ad, e, cell_below hc hb, hs⟩
theorem IntsAt.below {w w' : World} {A : Option Addr} {ll : List Int} (h : IntsAt w A ll) (hb : Below w.heap.size w w') : IntsAt w' A ll := fun k hk => by
  obtain ⟨ad, e, hc⟩ := h k hk
  exact ⟨ad, e, cell_below hc hb⟩

def WovR (b t : ByteArray) (ps : List Mk.Piece) (k : Nat) : Prop := Mk.Good t.data.toList b.data.toList ps ∧ ps.length ≤ k ∧ t.size ≤ k * 1048600 ∧ b.size ≤ k * 1048600
theorem WovR.mono {b t : ByteArray} {ps : List Mk.Piece} {k n : Nat} (h : WovR b t ps k) (hk : k ≤ n) : WovR b t ps n :=
  ⟨h.1, Nat.le_trans h.2.1 hk, Nat.le_trans h.2.2.1 (Nat.mul_le_mul_right _ hk), Nat.le_trans h.2.2.2 (Nat.mul_le_mul_right _ hk)⟩
theorem WovR.plain {b t : ByteArray} {ps : List Mk.Piece} {k : Nat} (h : WovR b t ps k) (p : ByteArray) (hp : Mk.Plain p.data.toList) (hs : p.size ≤ 1048576) : WovR (b ++ p) (t ++ p) ps (k + 1) := by
  obtain ⟨hg, hl, h1, h2⟩ := h
  refine ⟨by rw [app_data, app_data]; exact hg.plain _ hp, by omega, by rw [app_size]; omega, by rw [app_size]; omega⟩
theorem WovR.mark {b t : ByteArray} {ps : List Mk.Piece} {k : Nat} (h : WovR b t ps k) (p y : ByteArray) (m : List UInt8) (hp : Mk.Plain p.data.toList) (hs : p.size ≤ 1048576) (hy : y.data.toList = 60 :: m ++ [62]) (hm : Mk.Plain m) (h6 : m.length ≤ 6) :
    ∃ ps', WovR (b ++ p) (t ++ p ++ y) ps' (k + 1) := by
  obtain ⟨hg, hl, h1, h2⟩ := h
  have hys : y.size = m.length + 2 := by rw [← len_str, hy]; simp
  have hg2 := (hg.plain _ hp).mark m hm
  exact ⟨_, by rw [app_data, app_data, app_data, hy]; exact hg2, by simp; omega, by rw [app_size, app_size, hys]; omega, by rw [app_size]; omega⟩

theorem p_small {p t : ByteArray} (hp : p.data.toList = plainL t.data.toList) (h : t.size ≤ 1048576) : p.size ≤ 1048576 := by
  rw [← len_str, hp]; exact Nat.le_trans (plainL_len _) (by rw [len_str]; exact h)
theorem z_small {z : ByteArray} (h : ∃ m, z.data.toList = 60 :: m ++ [62] ∧ Mk.Plain m ∧ m.length ≤ 6) : z.size ≤ 8 := by
  obtain ⟨m, hm, _, h6⟩ := h
  rw [← len_str, hm]; simp; omega

set_option maxHeartbeats 8000000 in
set_option maxRecDepth 100000 in
theorem woven_any (v0 v1 v2 v3 v4 v7 v8 : Value) (TA LA : Option Addr) (tc lc : Nat) (tl : List ByteArray) (ll : List Int) (c : ByteArray) (w : World) (hc : c.size ≤ 1048576) (hT : StrsAt w TA tl) (hL : IntsAt w LA ll) (_htl : tl.length ≤ 1048576) (_hll : ll.length ≤ 1048576) :
    Calls Tryd.prog 4 #[.agg #[v0, v1, v2, v3, v4, .slice TA tl.length tc, .slice LA ll.length lc, v7, v8], .string c] w fun e w' => (∃ b t : ByteArray, e = .returned (.tuple #[.string b, .string t]) ∧ ∃ ps, WovR b t ps 30) ∧ Below w.heap.size w w' := by
  go_enter Tryd.func4, Tryd.ntmps4
  go_wp2_with fail
  have HB0 := Lib.hid ((Below.refl _ w).alloc (Nat.le_refl _) (.cells #[v0, v1, v2, v3, v4, .slice TA tl.length tc, .slice LA ll.length lc, v7, v8] 27))
  have C5 : Hid ((w.alloc (.cells #[v0, v1, v2, v3, v4, .slice TA tl.length tc, .slice LA ll.length lc, v7, v8] 27)).cell? ⟨w.heap.size, 5, none⟩ = some (.slice TA tl.length tc) ∧ (w.alloc (.cells #[v0, v1, v2, v3, v4, .slice TA tl.length tc, .slice LA ll.length lc, v7, v8] 27)).cell? ⟨w.heap.size, 6, none⟩ = some (.slice LA ll.length lc)) := Lib.hid ⟨World.cell?_alloc_at _ _ _ _ rfl, World.cell?_alloc_at _ _ _ _ rfl⟩
  generalize (w.alloc (.cells #[v0, v1, v2, v3, v4, .slice TA tl.length tc, .slice LA ll.length lc, v7, v8] 27)) = wa at *
  have HT := Lib.hid (hT.below HB0.out)
  have HL := Lib.hid (hL.below HB0.out)
  clear hT hL
  go_loopw [6, 7, 8] (fun b t i wr => ∃ (x y : ByteArray) (k : Nat), b = .string x ∧ t = .string y ∧ i = .int .i64 k ∧ k ≤ 30 ∧ k ≤ tl.length ∧ Hid (∃ ps, WovR x y ps k) ∧ Hid (Below wa.heap.size wa wr)) (fun _ _ i _ => 30 - (intOf i).toNat)
  case atStart => exact ⟨_, _, 0, rfl, rfl, rfl, Nat.zero_le _, Nat.zero_le _, Lib.hid ⟨[], .nil, Nat.le_refl _, Nat.zero_le _, Nat.zero_le _⟩, Lib.hid (Below.refl _ _)⟩
  case round =>
    obtain ⟨x, y, k, rfl, rfl, rfl, hk, hkt, hW, hB⟩ := hrel
    have c5 : wr.cell? ⟨w.heap.size, 5, none⟩ = some (.slice TA tl.length tc) := cell_below C5.out.1 hB.out
    have c6 : wr.cell? ⟨w.heap.size, 6, none⟩ = some (.slice LA ll.length lc) := cell_below C5.out.2 hB.out
    by_cases hend : k < tl.length ∧ k < 30
    · obtain ⟨h1, h2⟩ := hend
      obtain ⟨ad, rfl, hcell, hsz⟩ := HT.out k h1
      have hcw := cell_below hcell hB.out
      have d1 : decide (k < tl.length) = true := decide_eq_true h1
      have d2 : decide ((k : Int) < 30) = true := decide_eq_true (by omega)
      have hxs : x.size ≤ 1000000000 ∧ y.size ≤ 1000000000 := by
        obtain ⟨ps, hg, h1, h2, h3⟩ := hW.out
        have := Nat.mul_le_mul_right 1048600 hk
        constructor
        · exact Nat.le_trans h3 (Nat.le_trans this (by decide))
        · exact Nat.le_trans h2 (Nat.le_trans this (by decide))
      obtain ⟨hxs, hys⟩ := hxs
      clear hcell
      by_cases hkl : k < ll.length
      · obtain ⟨bd, rfl, hcell2⟩ := HL.out k hkl
        have hcw2 := cell_below hcell2 hB.out
        have d3 : decide (k < ll.length) = true := decide_eq_true hkl
        clear hcell2
        by_cases hm3 : (ll[k]).tmod 3 = 0
        · have d4 : ((ll[k]).tmod 3 != 0) = false := bneI_false hm3
          go_wp2_with (go_at_call 11; refine (plain_any tl[k] _ (by omega)).mono ?_; rintro e w1 ⟨⟨p, rfl, hp⟩, hb⟩; have HP := Lib.hid hp; have HB := Lib.hid hb; have e5 := cell_below c5 hb; have e6 := cell_below c6 hb; have e7 := cell_below hcw2 hb; have hps := p_small hp hsz; clear hp hb)
          go_roundw
          case rel => exact ⟨_, _, k + 1, rfl, rfl, by go_num, h2, h1, Lib.hid (by obtain ⟨ps, hw⟩ := hW.out; exact ⟨ps, hw.plain p (by rw [HP.out]; exact plainL_plain _) hps⟩), Lib.hid (below_step hB.out HB.out)⟩
          case measure => simp [intOf]; omega
        · have d4 : ((ll[k]).tmod 3 != 0) = true := bneI_true hm3
          go_wp2_with (first
            | (go_at_call 11; refine (plain_any tl[k] _ (by omega)).mono ?_; rintro e w1 ⟨⟨p, rfl, hp⟩, hb⟩; have HP := Lib.hid hp; have HB := Lib.hid hb; have e5 := cell_below c5 hb; have e6 := cell_below c6 hb; have e7 := cell_below hcw2 hb; have hps := p_small hp hsz; clear hp hb)
            | (go_at_call 13; refine (Pick7_any ll[k] _).mono ?_; rintro e w1 ⟨⟨r, rfl, hr⟩, rfl⟩)
            | (go_at_call 12; refine (markup_int _ (2 + r) (by omega) (by omega) (by omega) c _ (by omega)).mono ?_; rintro e w2 ⟨⟨z, rfl, hz⟩, hb⟩; have HZ := Lib.hid hz; have HB2 := Lib.hid hb; have hzs := z_small hz; clear hz hb))
          go_roundw
          case rel => exact ⟨_, _, k + 1, rfl, rfl, by go_num, h2, h1, Lib.hid (by obtain ⟨ps, hw⟩ := hW.out; obtain ⟨m, hz, hm, h6⟩ := HZ.out; exact hw.mark p z m (by rw [HP.out]; exact plainL_plain _) hps hz hm h6), Lib.hid (below_step (below_step hB.out HB.out) HB2.out)⟩
          case measure => simp [intOf]; omega
      · have d3 : decide (k < ll.length) = false := decide_eq_false hkl
        go_wp2_with (go_at_call 11; refine (plain_any tl[k] _ (by omega)).mono ?_; rintro e w1 ⟨⟨p, rfl, hp⟩, hb⟩; have HP := Lib.hid hp; have HB := Lib.hid hb; have e5 := cell_below c5 hb; have e6 := cell_below c6 hb; have hps := p_small hp hsz; clear hp hb)
        go_roundw
        case rel => exact ⟨_, _, k + 1, rfl, rfl, by go_num, h2, h1, Lib.hid (by obtain ⟨ps, hw⟩ := hW.out; exact ⟨ps, hw.plain p (by rw [HP.out]; exact plainL_plain _) hps⟩), Lib.hid (below_step hB.out HB.out)⟩
        case measure => simp [intOf]; omega
    · have HWe : Hid (∃ ps, WovR x y ps 30) := Lib.hid (by
        obtain ⟨ps, hg, h1, h2, h3⟩ := hW.out
        exact ⟨ps, WovR.mono ⟨hg, h1, h2, h3⟩ hk⟩)
      by_cases h1 : k < tl.length
      · have d1 : decide (k < tl.length) = true := decide_eq_true h1
        have d2 : decide ((k : Int) < 30) = false := decide_eq_false (by omega)
        go_wp2_with fail
        go_ret2
        exact ⟨⟨x, y, rfl, HWe.out⟩, below_step HB0.out hB.out⟩
      · have d1 : decide (k < tl.length) = false := decide_eq_false h1
        go_wp2_with fail
        go_ret2
        exact ⟨⟨x, y, rfl, HWe.out⟩, below_step HB0.out hB.out⟩
end Go.Proofs.YtpgaimpppehpcaaDoor
