/- caesuralaw23.TestShort: the walk. -/
import Derived.Test.YtliimcemjjhmaacGreatDoorBkKn
import Derived.Test.YtliimcemjjhmaacGreatDoorTpNum
namespace Go.Proofs.YtliimcemjjhmaacGreatDoor
open Go.RowKit Go.Proofs.YtliimcemjjhmaacGreatDoorW.PrintWords Go.Proofs.YtliimcemjjhmaacGreatDoor.PTestShort

theorem Print_n (a : Nat → Addr) (A : Option Addr) (c n : Nat) (cs : List Case) (w : World) (hn : cs.length = n) (hl : n ≤ 1099511627776) (hsm : SmallC cs) (h : CasesAt w A cs) (hsent : Sent a w) :
    Calls Tryz.prog 6 #[.slice A n c] w (PrintPost cs (errV a) w) := by
  subst hn; exact Print_any a A c cs w hl hsm h hsent
theorem same_n (A B : Option Addr) (c d n : Nat) (x : List Case) (w : World) (hn : x.length = n) (hx : CasesAt w A x) (hy : CasesAt w B x) (hlx : n ≤ 1099511627776) :
    Calls Tryz.prog 7 #[.slice A n c, .slice B n d] w fun e w' => e = .returned (.bool true) ∧ Below w.heap.size w w' := by
  subst hn
  have := sameCases_any A B c d x x w hx hy hlx
  rwa [decide_eq_true (rfl : x = x)] at this
theorem lens_big {cs : List S34} (h : LensP cs) : ∀ x ∈ cs, x.f0.length ≤ 1099511627776 ∧ x.f1.length ≤ 1099511627776 := fun x hx => by have := h x hx; omega
theorem lens_small {cs : List S34} (h : LensP cs) : SmallC (cs.map pairOf) := fun k hk => by
  rw [List.length_map] at hk
  rw [List.getElem_map]
  exact (h _ (List.getElem_mem hk)).1

set_option maxHeartbeats 8000000 in
set_option maxRecDepth 100000 in
theorem testShort_walk (a : Nat → Addr) (t : ByteArray) (w : World) (hsent : Sent a w) (herr : ErrT w) :
    Calls Tryz.prog 3 #[.string t] w fun e w' => e = .returned (.bool true) ∧ Below w.heap.size w w' := by
  have HS := Lib.hid hsent
  have HE := Lib.hid herr
  have hk : Calls Tryz.prog 4 #[] w fun e w' => e = .returned (.bool true) ∧ Below w.heap.size w w' := known_any a w hsent herr
  have HK := Lib.hid hk
  clear hsent herr hk
  obtain ⟨cs, line, en, hp, hen, hcl, hlp⟩ := parse_num (toB t)
  have hsh := parse_short (toB t)
  rw [hp] at hsh
  dsimp only at hsh
  have HPI : Hid (∀ w w' e, ParsePost a (toB t) w e w' → ∃ A c, e = .returned (.tuple #[.slice A cs.length c, .int .i64 line, errV a en]) ∧ CasesAt w' A (cs.map pairOf) ∧ Below w.heap.size w w') := Lib.hid (fun w w' e h => Parse_is hp (lens_big hlp) h)
  rcases hsh with ⟨h1, h2, h3, h4, h5, h6⟩ | ⟨h1, h2, h3, h4, h5, h6⟩
  · obtain rfl : en = 0 := by omega
    subst h2
    obtain ⟨X, N, hX, hN⟩ := OutIs.get (cs.map pairOf)
    have hn : N = 0 := hX.n.trans (by rw [h3])
    subst hn
    have hx : toB X = fileT (cs.map pairOf) := hX.x.trans (by rw [h3])
    have hxs : X.size ≤ t.size := by rw [← len_str, ← len_str]; rw [show X.data.toList = _ from hx]; exact h4
    have hp2 : parseOut (toB X) = (cs, 0, ((0 : Nat) : Int)) := by rw [hx]; exact h5
    have HPX : Hid (∀ w w' e, ParsePost a (toB X) w e w' → ∃ A c, e = .returned (.tuple #[.slice A cs.length c, .int .i64 0, errV a 0]) ∧ CasesAt w' A (cs.map pairOf) ∧ Below w.heap.size w w') := Lib.hid (fun w w' e h => Parse_is hp2 (lens_big hlp) h)
    have HX := Lib.hid hX
    have HSM := Lib.hid (lens_small hlp)
    have hml : (cs.map pairOf).length = cs.length := by rw [List.length_map]
    have HML := Lib.hid hml
    have hts : t.size ≤ 1048576 := by rw [← len_str]; exact h6
    have dx : decide (X.size ≤ t.size) = true := decide_eq_true hxs
    rw [show errV a 0 = .nilIface from rfl] at HPI HPX
    clear hp hlp h1 h3 h4 h5 h6 hX hN hx hp2 hml
    go_enter Tryz.func3, Tryz.ntmps3
    go_upto_region 6 with (first
      | (go_at_call 4; (with_reducible refine HK.out.mono ?_); rintro e w1 ⟨rfl, hb⟩; have HB1 := Lib.hid hb; clear hb)
      | (go_at_call 5; (with_reducible refine (Parse_any a t w1 (HS.out.below HB1.out) (errT_below HE.out HB1.out)).mono ?_); intro e w2 hp; obtain ⟨A, c, rfl, hc, hb⟩ := HPI.out _ _ _ hp; have HC := Lib.hid hc; have HB2 := Lib.hid (below_step HB1.out hb); clear hp hc hb)
      | (go_at_call 6; (with_reducible refine (Print_n a A c cs.length (cs.map pairOf) w2 HML.out (by omega) HSM.out HC.out (HS.out.below HB2.out)).mono ?_); intro e w3 hp; obtain ⟨rfl, hb⟩ := HX.out.of hp; have HC3 := Lib.hid (HC.out.below hb); have HB3 := Lib.hid (below_step HB2.out hb); clear hp hb))
    rw [show errV a 0 = .nilIface from rfl]
    go_wp2_with (first
      | (go_at_call 5; (with_reducible refine (Parse_any a X w3 (HS.out.below HB3.out) (errT_below HE.out HB3.out)).mono ?_); intro e w4 hp; obtain ⟨A2, c2, rfl, hc, hb⟩ := HPX.out _ _ _ hp; have HC4 := Lib.hid hc; have HL4 := Lib.hid (HC3.out.below hb); have HB4 := Lib.hid (below_step HB3.out hb); clear hp hc hb)
      | (go_at_call 7; (with_reducible refine (same_n A2 A c2 c cs.length (cs.map pairOf) w4 HML.out HC4.out HL4.out (by omega)).mono ?_); rintro e w5 ⟨rfl, hb⟩; have HB5 := Lib.hid (below_step HB4.out hb); clear hb))
    go_ret
    exact ⟨rfl, HB5.out⟩
  · subst h1
    have hts : 0 < line ↔ t.size ≤ 1048576 := by rw [← len_str]; exact h5
    obtain rfl | rfl | rfl : en = 1 ∨ en = 2 ∨ en = 3 := by omega
    all_goals
      clear hp hlp h2 h3 h4 h5 hcl hen
      rw [List.length_nil] at HPI
      by_cases hz : t.size ≤ 1048576
      · have hl := hts.2 hz
        have d1 : decide (0 < line) = true := decide_eq_true hl
        have d2 : decide ((t.size : Int) ≤ 1048576) = true := decide_eq_true (by omega)
        clear hts h6
        first
          | rw [show errV a 1 = .iface 130 (.pointer (some (a 1))) from rfl] at HPI
          | rw [show errV a 2 = .iface 130 (.pointer (some (a 2))) from rfl] at HPI
          | rw [show errV a 3 = .iface 130 (.pointer (some (a 3))) from rfl] at HPI
        go_enter Tryz.func3, Tryz.ntmps3
        go_wp2_with (first
          | (go_at_call 4; (with_reducible refine HK.out.mono ?_); rintro e w1 ⟨rfl, hb⟩; have HB1 := Lib.hid hb; clear hb)
          | (go_at_call 5; (with_reducible refine (Parse_any a t w1 (HS.out.below HB1.out) (errT_below HE.out HB1.out)).mono ?_); intro e w2 hp; obtain ⟨A, c, rfl, hc, hb⟩ := HPI.out _ _ _ hp; have HB2 := Lib.hid (below_step HB1.out hb); clear hp hc hb))
        go_ret
        exact ⟨rfl, HB2.out⟩
      · have hl : ¬ 0 < line := fun h => hz (hts.1 h)
        have d1 : decide (0 < line) = false := decide_eq_false hl
        have d2 : decide ((t.size : Int) ≤ 1048576) = false := decide_eq_false (by omega)
        clear hts h6
        first
          | rw [show errV a 1 = .iface 130 (.pointer (some (a 1))) from rfl] at HPI
          | rw [show errV a 2 = .iface 130 (.pointer (some (a 2))) from rfl] at HPI
          | rw [show errV a 3 = .iface 130 (.pointer (some (a 3))) from rfl] at HPI
        go_enter Tryz.func3, Tryz.ntmps3
        go_wp2_with (first
          | (go_at_call 4; (with_reducible refine HK.out.mono ?_); rintro e w1 ⟨rfl, hb⟩; have HB1 := Lib.hid hb; clear hb)
          | (go_at_call 5; (with_reducible refine (Parse_any a t w1 (HS.out.below HB1.out) (errT_below HE.out HB1.out)).mono ?_); intro e w2 hp; obtain ⟨A, c, rfl, hc, hb⟩ := HPI.out _ _ _ hp; have HB2 := Lib.hid (below_step HB1.out hb); clear hp hc hb))
        go_ret
        exact ⟨rfl, HB2.out⟩
end Go.Proofs.YtliimcemjjhmaacGreatDoor
