/- known: the walk; what Parse has made, as a list of cases that is read. -/
import Derived.Test.YtliimcemjjhmaacGreatDoorBkSpec
import Derived.Test.YtliimcemjjhmaacGreatDoorTpPa
import Derived.Test.YtliimcemjjhmaacGreatDoorLens
import Derived.Test.YtliimcemjjhmaacGreatDoorTestS

namespace Go.Proofs.YtliimcemjjhmaacGreatDoor
open Go.RowKit Go.Proofs.YtliimcemjjhmaacGreatDoorW.PrintWords Go.Proofs.YtliimcemjjhmaacGreatDoor.PTestShort

theorem ints_of_C {W : World} {A : Option Addr} {xs : List Int} (h : (Kd.int .i64).C W A xs.length xs) : IntsAt W A xs := by
  intro k hk
  obtain ⟨ad, e, hc⟩ := Kd.at_int h (k : Int) (by omega) (by omega)
  refine ⟨ad, e, ?_⟩
  rw [show ((k : Int)).toNat = k from rfl] at hc
  simpa [rd, hk] using hc
/-- Cases of one's own, as a list that is read. -/
theorem CasesOwn.cases {W : World} {base n c : Nat} {A : Option Addr} {hs : List Hd} {cs : List S34} (h : CasesOwn W base (.slice A n c) hs cs) (hl : ∀ x ∈ cs, x.f0.length ≤ 1099511627776 ∧ x.f1.length ≤ 1099511627776) : n = cs.length ∧ CasesAt W A (cs.map pairOf) := by
  have hn : n = cs.length := by rw [(Kd.R_reads' h.row).1, List.length_map, h.len]
  refine ⟨hn, fun k hk => ?_⟩
  rw [List.length_map] at hk
  have hkh : k < hs.length := by rw [h.len]; exact hk
  obtain ⟨h1, h2⟩ := flatR_at k hkh hk
  obtain ⟨A1, c1, e1⟩ := h.fam.form h1
  obtain ⟨A2, c2, e2⟩ := h.fam.form h2
  obtain ⟨_, _, hC⟩ := Kd.R_reads' h.row
  obtain ⟨ad, c', e, hl', hK, hcc⟩ := Kd.C_get hC [] (k : Int) (by omega) (by rw [List.length_map]; omega)
  rw [show ((k : Int)).toNat = k from rfl, List.getD_eq_getElem?_getD, List.getElem?_map, List.getElem?_eq_getElem hkh] at hK
  have hK' : c' = hdV hs[k] ∧ _ := hK
  have hK1 := hK'.1
  subst hK1
  have r1 := h.fam.rows _ h1
  have r2 := h.fam.rows _ h2
  dsimp only at r1 r2 e1 e2
  rw [e1] at r1
  rw [e2] at r2
  obtain ⟨g1, g2⟩ := hl cs[k] (List.getElem_mem hk)
  refine ⟨ad, hs[k].1, hs[k].2, e, by simpa [hdV, Kd.raw] using hcc 0 _ rfl, by simpa [hdV, Kd.raw] using hcc 1 _ rfl, ?_⟩
  rw [List.getElem_map]
  exact ⟨A1, c1, A2, c2, e1, e2, ints_of_C (Kd.R_reads' r1).2.2, ints_of_C (Kd.R_reads' r2).2.2, g1, g2⟩
/-- What Parse has made, by names. -/
theorem Parse_is {a : Nat → Addr} {t : Bs} {w w' : World} {e : Ending} {cs : List S34} {line : Int} {en : Nat} (hp : parseOut t = (cs, line, ((en : Nat) : Int))) (hl : ∀ x ∈ cs, x.f0.length ≤ 1099511627776 ∧ x.f1.length ≤ 1099511627776) (h : ParsePost a t w e w') :
    ∃ A c, e = .returned (.tuple #[.slice A cs.length c, .int .i64 line, errV a en]) ∧ CasesAt w' A (cs.map pairOf) ∧ Below w.heap.size w w' := by
  unfold ParsePost at h
  rw [hp] at h
  obtain ⟨v, hs, he, hc, hb⟩ := h
  dsimp only at he hc
  obtain ⟨A, c, rfl⟩ := hc.form
  exact ⟨A, c, he, (hc.cases hl).2, hb⟩

def knownB : ByteArray := ⟨#[195, 183, 32, 48, 48, 52, 49, 32, 195, 151, 32, 32, 48, 51, 48, 56, 32, 195, 183, 32, 35, 32, 120]⟩
def knownC : List S34 := [⟨[65, 776], [0, 2]⟩]
theorem known_parse : parseOut (toB knownB) = (knownC, 0, ((0 : Nat) : Int)) := by kernel_rfl
theorem known_print : printOut [([65, 776], [0, 2])] = ([195, 183, 32, 48, 48, 52, 49, 32, 195, 151, 32, 48, 51, 48, 56, 32, 195, 183], 0) := by decide +kernel

set_option maxHeartbeats 4000000 in
theorem known_any (a : Nat → Addr) (w : World) (hs : Sent a w) (he : ErrT w) :
    Calls Tryz.prog 4 #[] w fun e w' => e = .returned (.bool true) ∧ Below w.heap.size w w' := by
  have HS := Lib.hid hs
  have HE := Lib.hid he
  have hpa := fun W h1 h2 => Parse_any a knownB W h1 h2
  unfold knownB at hpa
  have HPA := Lib.hid hpa
  have hpi := fun w w' e h => Parse_is (a := a) (w := w) (w' := w') (e := e) known_parse (fun x hx => by unfold knownC at hx; rw [List.mem_singleton] at hx; subst hx; exact ⟨by decide, by decide⟩) h
  unfold knownB at hpi
  have HPI := Lib.hid hpi
  clear hs he hpa hpi
  go_enter Tryz.func4, Tryz.ntmps4
  go_upto_region 2 with (go_at_call 5; refine (HPA.out w HS.out HE.out).mono ?_; intro e w1 hp; obtain ⟨A, c, rfl, hc, hb⟩ := HPI.out _ _ _ hp; rw [show knownC.length = 1 from rfl]; have HC := Lib.hid (show CasesAt w1 A [([65, 776], [0, 2])] from hc); have HB := Lib.hid hb; clear hp hc hb)
  rw [show errV a 0 = .nilIface from rfl]
  obtain ⟨X, N, hX, hN⟩ := OutIs.get [([65, 776], [0, 2])]
  have hn : N = 0 := hX.n.trans (by rw [known_print])
  have hx : X = ⟨#[195, 183, 32, 48, 48, 52, 49, 32, 195, 151, 32, 48, 51, 48, 56, 32, 195, 183]⟩ := str_ext (hX.x.trans (by rw [known_print]))
  subst hn hx
  have HX := Lib.hid hX
  clear hX hN
  go_upto_region 3 with (go_at_call 6; refine (Print_any a A c [([65, 776], [0, 2])] w1 (by decide) (fun k hk => by match k, hk with | 0, _ => exact (by decide : (2 : Nat) ≤ 2097152)) HC.out (HS.out.below HB.out)).mono ?_; intro e w2 hp; obtain ⟨rfl, hb⟩ := HX.out.of hp; have HB2 := Lib.hid hb; clear hp hb)
  rw [show errV a 0 = .nilIface from rfl]
  obtain ⟨ad, v0, v1, rfl, h0, h1, PA, pc, BA, bc, rfl, rfl, _⟩ := (HC.out.below HB2.out) 0 (by decide)
  have h1' : w2.cell? ⟨ad.block, ad.off + 1, none⟩ = some (.slice BA 2 bc) := by
    have e := Go.Proofs.YtliimcemjjhmaacGreatDoorW.PrintWords.add_field ad 0 1 (by decide)
    rw [Addr.add_zero'] at e
    rw [← e]; exact h1
  go_wp2_with fail
  go_ret
  exact ⟨rfl, below_step HB.out HB2.out⟩
end Go.Proofs.YtliimcemjjhmaacGreatDoor
