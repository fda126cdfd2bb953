/- caesuralaw23.TestPrints: the walk. -/
import Derived.Test.YtpgaimpppehpcabDoorTestRw
import Derived.Test.YtpgaimpppehpcabDoorTestKept
import Derived.Test.YtpgaimpppehpcabDoorTestPp
import Derived.Test.YtpgaimpppehpcabDoorTestT
namespace Go.Proofs.YtpgaimpppehpcabDoor
open Go.RowKit Go.Proofs.YtpgaimpppehpcabDoorW.PrintWords

theorem lens2_len (cs : List Case) : (lens2 cs).length = cs.length := by simp [lens2]
theorem lens2_at (cs : List Case) (k : Nat) (h : k < (lens2 cs).length) (h' : k < cs.length) : (lens2 cs)[k] = (cs[k].1.length, cs[k].2.length) := by simp [lens2]

def LensOk (cs : List Case) : Prop := ∀ k (h : k < cs.length), cs[k].1.length ≤ 2097152 ∧ cs[k].2.length ≤ 2097152
theorem LensOk.raw {cs : List Case} (h : LensOk cs) : ∀ k (h : k < cs.length), cs[k].1.length ≤ 2097152 ∧ cs[k].2.length ≤ 2097152 := h
theorem LensOk.small {cs : List Case} (h : LensOk cs) : SmallC cs := fun k hk => (h k hk).1
theorem LensOk.big {cs : List Case} (h : LensOk cs) : ∀ k (h : k < cs.length), cs[k].1.length ≤ 1099511627776 ∧ cs[k].2.length ≤ 1099511627776 := fun k hk => by have := h k hk; omega

theorem out_le (cs : List Case) : (printOut cs).2 ≤ 11 := by unfold printOut; (repeat' split) <;> simp

theorem other_cases (g cap : Nat) (cs : List Case) (w : World) (base : Nat) (hl : cs.length ≤ 2097152) (hs : LensOk cs) (h : gK.R 36 w base (fun k => base ≤ k) (.slice (some ⟨g, 0, none⟩) (cs.length + 64) cap) (withEx cs)) :
    Calls Tryd.prog 10 #[.slice (some ⟨g, 0, none⟩) cs.length cap] w fun e w' => (∃ v, e = .returned v) ∧ (∃ cs2 : List Case, cs2.length = cs.length ∧ CasesAt w' (some ⟨g, 0, none⟩) cs2 ∧ LensOk cs2) ∧ Below base w w' := by
  have hs' : ∀ k (h : k < (lens2 cs).length), (lens2 cs)[k].1 ≤ 2097152 ∧ (lens2 cs)[k].2 ≤ 2097152 := fun k hk => by
    have hk' : k < cs.length := by rw [lens2_len] at hk; exact hk
    rw [lens2_at cs k hk hk']; exact hs k hk'
  have := other_any g cap (lens2 cs) w base (by rw [lens2_len]; exact hl) hs' (rows_of_R h)
  rw [lens2_len] at this
  refine this.mono fun e w' ⟨hv, hr, hb⟩ => ⟨hv, ?_, hb⟩
  obtain ⟨cs2, h1, h2, h3⟩ := cases_of_rows hr hs'
  exact ⟨cs2, by rw [h1, lens2_len], h2, h3⟩

/-- What is printed, by two names. -/
structure OutIs (cs : List Case) (X : ByteArray) (N : Nat) : Prop where
  x : X.data.toList = (printOut cs).1
  n : N = (printOut cs).2
theorem OutIs.get (cs : List Case) : ∃ X N, OutIs cs X N ∧ N ≤ 11 := ⟨⟨(printOut cs).1.toArray⟩, (printOut cs).2, ⟨rfl, rfl⟩, out_le cs⟩
theorem OutIs.of {cs : List Case} {X : ByteArray} {N : Nat} (o : OutIs cs X N) {mk : Nat → Value} {w w' : World} {e : Ending} (h : PrintPost cs mk w e w') : e = .returned (.tuple #[.string X, mk N]) ∧ Below w.heap.size w w' := by
  obtain ⟨⟨x, he, hx⟩, hb⟩ := h
  rw [o.n, str_ext (o.x.trans hx.symm)]
  exact ⟨he, hb⟩
theorem CasesAt.below {w w' : World} {A : Option Addr} {cs : List Case} (h : CasesAt w A cs) (hb : Below w.heap.size w w') : CasesAt w' A cs := fun k hk => by
  obtain ⟨ad, v0, v1, e, h0, h1, hv⟩ := h k hk
  exact ⟨ad, v0, v1, e, (hb.cell (World.block_lt_of_cell? w _ h0)).trans h0, (hb.cell (World.block_lt_of_cell? w _ h1)).trans h1, hv.below hb⟩
theorem C_of_R {w : World} {base g n cap : Nat} {ok : Nat → Prop} {cs : List Case} (h : gK.R 36 w base ok (.slice (some ⟨g, 0, none⟩) n cap) (withEx cs)) : gK.C w (some ⟨g, 0, none⟩) (cs.length + 64) (withEx cs) ∧ cs.length + 64 ≤ cap := by
  obtain ⟨h1, h2, h3⟩ := Kd.R_reads' h
  rw [withEx_len] at h1 h3
  exact ⟨h3, h1 ▸ h2⟩

set_option maxHeartbeats 8000000 in
set_option maxRecDepth 100000 in
theorem testPrints_walk (a : Nat → Addr) (A : Option Addr) (c : Nat) (cs : List Case) (w : World) (hl : cs.length ≤ 1048576) (hs : LensOk cs) (h : CasesAt w A cs) (hsent : Sent a w) :
    Calls Tryd.prog 3 #[.slice A cs.length c] w fun e w' => e = .returned (.bool true) ∧ Below w.heap.size w w' := by
  have HI := Lib.hid h
  have HLO := Lib.hid hs
  have HS := Lib.hid hsent
  clear h hs hsent
  go_enter Tryd.func3, Tryd.ntmps3
  go_upto_region 3 with (go_at_call 4; (with_reducible refine (tame_any A c cs _ (by omega) HI.out).mono ?_); rintro e w1 ⟨⟨b, rfl⟩, hb⟩; have HB1 := Lib.hid hb; clear hb)
  · go_wp2_with fail
    go_ret
    exact ⟨rfl, HB1.out⟩
  · obtain ⟨X, N, hX, hN⟩ := OutIs.get cs
    have HX := Lib.hid hX
    clear hX
    go_upto_region 10 with (first
      | (go_at_call 5; (with_reducible refine (own_any A c cs _ (by omega) HLO.out.raw (HI.out.below HB1.out)).mono ?_); rintro e w2 ⟨⟨g, cap, rfl, hR⟩, hb⟩; have HR2 := Lib.hid hR; have HB2 := Lib.hid (below_step HB1.out hb); clear hR hb)
      | (go_at_call 6; (with_reducible refine (Print_any a (some ⟨g, 0, none⟩) cap cs _ (by omega) HLO.out.small (cases_of_C (C_of_R HR2.out).1 HLO.out.big) (HS.out.below HB2.out)).mono ?_); intro e w3 hp; obtain ⟨rfl, hb⟩ := HX.out.of hp; have HR3 := Lib.hid (Kd.R_below HR2.out hb); have HB3 := Lib.hid (below_step HB2.out hb); clear hp hb)
      | (go_at_call 7; (with_reducible refine (kept_any (some ⟨g, 0, none⟩) A cap c cs _ (by omega) HLO.out.raw (C_of_R HR3.out).1 (C_of_R HR3.out).2 (HI.out.below HB3.out)).mono ?_); rintro e w4 ⟨rfl, hb⟩; have HR4 := Lib.hid (Kd.R_below HR3.out hb); have HB4 := Lib.hid (below_step HB3.out hb); clear hb)
      | (go_at_call 8; (with_reducible refine (rPrint_any A c cs _ (by omega) HLO.out.small (HI.out.below HB4.out)).mono ?_); intro e w5 hp; obtain ⟨he, hb⟩ := HX.out.of hp; rw [show mkI N = .int .i64 (N : Int) from rfl] at he; subst he; have HR5 := Lib.hid (Kd.R_below HR4.out hb); have HB5 := Lib.hid (below_step HB4.out hb); clear hp hb)
      | (go_at_call 9; (with_reducible refine (num_any a N hN _ (HS.out.below HB5.out)).mono ?_); rintro e w6 ⟨rfl, rfl⟩)
      | (go_at_call 10; (with_reducible refine (other_cases g cap cs _ _ (by omega) HLO.out HR5.out).mono ?_); rintro e w7 ⟨⟨v, rfl⟩, hcs, hb⟩; have HB7 := Lib.hid (HB5.out.trans (hb.mono (Nat.le_of_lt_succ (Nat.lt_succ_of_le HB1.out.size)))); have HCS := Lib.hid hcs; clear hb hcs))
    obtain ⟨cs2, hl2, hc2, hs2⟩ := HCS.out
    obtain ⟨X2, N2, hX2, hN2⟩ := OutIs.get cs2
    have HX2 := Lib.hid hX2
    have HC2 := Lib.hid hc2
    have HL2 := Lib.hid hs2
    rw [← hl2]
    have hl3 : cs2.length ≤ 1048576 := by omega
    clear hX2 hc2 hs2 hl2
    go_wp2_with (first
      | (go_at_call 8; (with_reducible refine (rPrint_any (some ⟨g, 0, none⟩) cap cs2 _ (by omega) HL2.out.small HC2.out).mono ?_); intro e w8 hp; obtain ⟨he, hb⟩ := HX2.out.of hp; rw [show mkI N2 = .int .i64 (N2 : Int) from rfl] at he; subst he; have HC8 := Lib.hid (HC2.out.below hb); have HB8 := Lib.hid (below_step HB7.out hb); clear hp hb)
      | (go_at_call 6; (with_reducible refine (Print_any a (some ⟨g, 0, none⟩) cap cs2 _ (by omega) HL2.out.small HC8.out (HS.out.below HB8.out)).mono ?_); intro e w9 hp; obtain ⟨rfl, hb⟩ := HX2.out.of hp; have HB9 := Lib.hid (below_step HB8.out hb); clear hp hb)
      | (go_at_call 9; (with_reducible refine (num_any a N2 hN2 _ (HS.out.below HB9.out)).mono ?_); rintro e w10 ⟨rfl, rfl⟩))
    go_ret
    exact ⟨ret_bool (by simp), HB9.out⟩
end Go.Proofs.YtpgaimpppehpcabDoor
