/- caesuralaw23.TestBack: the walk. -/
import Derived.Test.YtliimcemjjhmaabGreatDoorBkKn
namespace Go.Proofs.YtliimcemjjhmaabGreatDoor
open Go.RowKit Go.Proofs.YtliimcemjjhmaabGreatDoorW.PrintWords Go.Proofs.YtliimcemjjhmaabGreatDoor.PTestBack

theorem out_cases (cs : List Case) : (∃ n, (n = 1 ∨ n = 3) ∧ printOut cs = ([], n)) ∨ (printOut cs = (fileT cs, 0) ∧ allOk cs = true ∧ cs.length ≤ 20000 ∧ (fileT cs).length ≤ 1048576) := by
  unfold printOut
  by_cases h1 : 20000 < cs.length
  · rw [if_pos h1]; exact .inl ⟨3, .inr rfl, rfl⟩
  · rw [if_neg h1]
    by_cases h2 : allOk cs = false
    · rw [if_pos h2]; exact .inl ⟨1, .inl rfl, rfl⟩
    · rw [if_neg h2]
      by_cases h3 : 1048576 < (fileT cs).length
      · rw [if_pos h3]; exact .inl ⟨3, .inr rfl, rfl⟩
      · rw [if_neg h3]; exact .inr ⟨rfl, by simpa using h2, by omega, by omega⟩
def Num_is (a : Nat → Addr) (n : Nat) : Prop := ∀ W, Sent a W → Calls Tryz.prog 6 #[errV a n] W fun e w' => e = .returned (.int .i64 n) ∧ w' = W
theorem pairs_back (cs : List Case) : (cs.map fun c => (⟨c.1, c.2⟩ : S35)).map pairOf = cs := by
  rw [List.map_map]; exact List.map_id cs

set_option maxHeartbeats 8000000 in
set_option maxRecDepth 100000 in
theorem testBack_walk (a : Nat → Addr) (A : Option Addr) (c : Nat) (cs : List Case) (w : World) (hl : cs.length ≤ 1048576) (hs : LensOk cs) (h : CasesAt w A cs) (hsent : Sent a w) (herr : ErrT w) :
    Calls Tryz.prog 3 #[.slice A cs.length c] w fun e w' => e = .returned (.bool true) ∧ Below w.heap.size w w' := by
  have HI := Lib.hid h
  have HLO := Lib.hid hs
  have HS := Lib.hid hsent
  have HE := Lib.hid herr
  clear h hs hsent herr
  obtain ⟨X, N, hX, hN⟩ := OutIs.get cs
  rcases out_cases cs with ⟨n, hn, ho⟩ | ⟨ho, hok, h2, h3⟩
  · have hx : X = ⟨#[]⟩ := str_ext (hX.x.trans (by rw [ho]))
    have hnn : N = n := hX.n.trans (by rw [ho])
    subst hx hnn
    have HX := Lib.hid hX
    clear hX ho
    have HN : Hid (Num_is a N) := Lib.hid (by intro W hW; exact num_any a N hN W hW)
    rcases hn with rfl | rfl
    all_goals
      have hk : Calls Tryz.prog 4 #[] w fun e w' => e = .returned (.bool true) ∧ Below w.heap.size w w' := known_any a w HS.out HE.out
      have HK := Lib.hid hk
      clear hk
      go_enter Tryz.func3, Tryz.ntmps3
      go_upto_region 3 with (first
        | (go_at_call 4; (with_reducible refine HK.out.mono ?_); rintro e w1 ⟨rfl, hb⟩; have HB1 := Lib.hid hb; clear hb)
        | (go_at_call 5; (with_reducible refine (Print_any a A c cs w1 (by omega) HLO.out.small (HI.out.below HB1.out) (HS.out.below HB1.out)).mono ?_); intro e w2 hp; obtain ⟨rfl, hb⟩ := HX.out.of hp; have HB2 := Lib.hid (below_step HB1.out hb); clear hp hb))
      have HN2 := Lib.hid (HN.out w2 (HS.out.below HB2.out))
      first
        | rw [show errV a 1 = .iface 132 (.pointer (some (a 1))) from rfl] at HN2 ⊢
        | rw [show errV a 3 = .iface 132 (.pointer (some (a 3))) from rfl] at HN2 ⊢
      go_wp2_with (go_at_call 6; refine HN2.out.mono ?_; rintro e w3 ⟨rfl, rfl⟩)
      go_ret
      exact ⟨rfl, HB2.out⟩
  · have hn : N = 0 := hX.n.trans (by rw [ho])
    subst hn
    have hpp : parseOut (toB X) = (cs.map (fun c => (⟨c.1, c.2⟩ : S35)), 0, ((0 : Nat) : Int)) := by
      rw [show toB X = fileT cs from hX.x.trans (by rw [ho])]; exact parse_print cs hok h2 h3
    have hpl : (cs.map (fun c => (⟨c.1, c.2⟩ : S35))).length = cs.length := by rw [List.length_map]
    have HPP : Hid (∀ w w' e, ParsePost a (toB X) w e w' → ∃ A c, e = .returned (.tuple #[.slice A cs.length c, .int .i64 0, errV a 0]) ∧ CasesAt w' A cs ∧ Below w.heap.size w w') := Lib.hid (fun w w' e hp => by
      have := Parse_is hpp (fun x hx => by
        obtain ⟨c, hc, rfl⟩ := List.mem_map.1 hx
        obtain ⟨k, hk, rfl⟩ := List.getElem_of_mem hc
        exact HLO.out.big k hk) hp
      rwa [hpl, pairs_back] at this)
    have HX := Lib.hid hX
    clear hX ho hpp hpl hok h2 h3 hN
    have hk : Calls Tryz.prog 4 #[] w fun e w' => e = .returned (.bool true) ∧ Below w.heap.size w w' := known_any a w HS.out HE.out
    have HK := Lib.hid hk
    clear hk
    go_enter Tryz.func3, Tryz.ntmps3
    go_upto_region 3 with (first
      | (go_at_call 4; (with_reducible refine HK.out.mono ?_); rintro e w1 ⟨rfl, hb⟩; have HB1 := Lib.hid hb; clear hb)
      | (go_at_call 5; (with_reducible refine (Print_any a A c cs w1 (by omega) HLO.out.small (HI.out.below HB1.out) (HS.out.below HB1.out)).mono ?_); intro e w2 hp; obtain ⟨rfl, hb⟩ := HX.out.of hp; have HB2 := Lib.hid (below_step HB1.out hb); clear hp hb))
    rw [show errV a 0 = .nilIface from rfl] at HPP ⊢
    go_wp2_with (first
      | (go_at_call 7; (with_reducible refine (Parse_any a X w2 (HS.out.below HB2.out) (errT_below HE.out HB2.out)).mono ?_); intro e w3 hp; obtain ⟨A2, c2, rfl, hc, hb⟩ := HPP.out _ _ _ hp; have HC := Lib.hid hc; have HB3 := Lib.hid (below_step HB2.out hb); clear hp hc hb)
      | (go_at_call 8; (with_reducible refine (sameCases_any A2 A c2 c cs cs w3 HC.out (HI.out.below HB3.out) (by omega)).mono ?_); rintro e w4 ⟨rfl, hb⟩; rw [decide_eq_true (rfl : cs = cs)]; have HB4 := Lib.hid (below_step HB3.out hb); clear hb))
    go_ret
    exact ⟨rfl, HB4.out⟩
end Go.Proofs.YtliimcemjjhmaabGreatDoor
