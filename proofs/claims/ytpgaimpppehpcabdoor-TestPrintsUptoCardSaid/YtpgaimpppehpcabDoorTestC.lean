/- Cases in memory; mayBe over all of them. -/
import Derived.Test.YtpgaimpppehpcabDoorTestM2
import Derived.Test.YtpgaimpppehpcabDoorWWords
namespace Go.Proofs.YtpgaimpppehpcabDoor
open Go.RowKit

abbrev Case := List Int × List Int
/-- One case's two slices, read. -/
def CaseV (w : World) (c : Case) (v0 v1 : Value) : Prop := ∃ PA pc BA bc, v0 = .slice PA c.1.length pc ∧ v1 = .slice BA c.2.length bc ∧ IntsAt w PA c.1 ∧ IntsAt w BA c.2 ∧ c.1.length ≤ 1099511627776 ∧ c.2.length ≤ 1099511627776
def CasesAt (w : World) (A : Option Addr) (cs : List Case) : Prop := ∀ k (h : k < cs.length), ∃ ad v0 v1, A = some ad ∧ w.cell? (ad.add (k * 2)) = some v0 ∧ w.cell? (ad.add (k * 2 + 1)) = some v1 ∧ CaseV w cs[k] v0 v1

theorem IntsAt.below {w w' : World} {A : Option Addr} {ll : List Int} (h : IntsAt w A ll) (hb : Below w.heap.size w w') : IntsAt w' A ll := fun k hk => by
  obtain ⟨ad, e, hc⟩ := h k hk
  exact ⟨ad, e, (hb.cell (World.block_lt_of_cell? w _ hc)).trans hc⟩
theorem CaseV.below {w w' : World} {c : Case} {v0 v1 : Value} (h : CaseV w c v0 v1) (hb : Below w.heap.size w w') : CaseV w' c v0 v1 := by
  obtain ⟨PA, pc, BA, bc, e0, e1, hP, hB, h1, h2⟩ := h
  exact ⟨PA, pc, BA, bc, e0, e1, hP.below hb, hB.below hb, h1, h2⟩

theorem case_bad (c : Case) (v0 v1 : Value) (w : World) (h : CaseV w c v0 v1) : Calls Tryd.prog 12 #[.agg #[v0, v1]] w fun e w' => e = .returned (.bool (!caseOk c.1 c.2)) ∧ Below w.heap.size w w' := by
  obtain ⟨PA, pc, BA, bc, rfl, rfl, hP, hB, h1, h2⟩ := h
  have HP := Lib.hid hP
  have HB := Lib.hid hB
  clear hP hB
  go_enter Tryd.func12, Tryd.ntmps12
  go_wp2_with (go_at_call 13; with_reducible refine (mayBe_any PA BA pc bc c.1 c.2 _ h1 h2 (HP.out.alloc _) (HB.out.alloc _)).mono ?_; rintro e w1 ⟨rfl, hb⟩; have HBE := Lib.hid (((Below.refl _ w).alloc (Nat.le_refl _) _).trans (hb.mono (by simp))); clear hb)
  go_ret
  exact ⟨rfl, HBE.out⟩

set_option maxHeartbeats 1000000 in
theorem indexCase_any (A : Option Addr) (c : Nat) (cs : List Case) (w : World) (hl : cs.length ≤ 1099511627776) (h : CasesAt w A cs) :
    Calls Tryd.prog 20 #[.slice A cs.length c, .func (.func 12) #[] #[]] w fun e w' => (∃ z : Int, e = .returned (.int .i64 z) ∧ (decide (0 ≤ z) = !cs.all fun c => caseOk c.1 c.2)) ∧ Below w.heap.size w w' := by
  have HI := Lib.hid h
  clear h
  go_enter Tryd.func20, Tryd.ntmps20
  go_wp2_with fail
  go_loopw [8] (fun i wr => ∃ k : Nat, i = .int .i64 k ∧ k ≤ cs.length ∧ Hid (((cs.take k).all fun c => caseOk c.1 c.2) = true) ∧ Hid (Below w.heap.size w wr)) (fun i _ => cs.length - (intOf i).toNat)
  case atStart => exact ⟨0, rfl, Nat.zero_le _, Lib.hid rfl, Lib.hid (Below.refl _ _)⟩
  case round =>
    obtain ⟨k, rfl, hk, ht, hB⟩ := hrel
    by_cases hlt : k < cs.length
    · have d1 : decide (k < cs.length) = true := decide_eq_true hlt
      obtain ⟨ad, v0, v1, rfl, hc0, hc1, hv⟩ := HI.out k hlt
      have e0 := (hB.out.cell (World.block_lt_of_cell? w _ hc0)).trans hc0
      have e1 := (hB.out.cell (World.block_lt_of_cell? w _ hc1)).trans hc1
      rw [Go.Proofs.YtpgaimpppehpcabDoorW.PrintWords.add_field ad (k * 2) 1 (by decide)] at e1
      have hvb : CaseV wr cs[k] v0 v1 := hv.below hB.out
      cases hs : caseOk cs[k].1 cs[k].2 with
      | true =>
        have hs2 : Hid (((cs.take (k + 1)).all fun c => caseOk c.1 c.2) = true) := Lib.hid (by rw [List.take_succ_eq_append_getElem hlt, List.all_append, ht.out]; simp [hs])
        go_wp2_with (go_at_call 12; with_reducible refine (case_bad cs[k] v0 v1 _ hvb).mono ?_; rintro e w1 ⟨rfl, hb⟩; rw [hs]; have HB1 := Lib.hid (below_step hB.out hb); clear hb)
        go_roundw
        case rel => exact ⟨k + 1, by go_num, hlt, hs2, HB1⟩
        case measure => simp [intOf]; omega
      | false =>
        have hF : Hid ((cs.all fun c => caseOk c.1 c.2) = false) := Lib.hid (by rw [List.all_eq_false]; exact ⟨_, List.getElem_mem hlt, by simp [hs]⟩)
        go_wp2_with (go_at_call 12; with_reducible refine (case_bad cs[k] v0 v1 _ hvb).mono ?_; rintro e w1 ⟨rfl, hb⟩; rw [hs]; have HB1 := Lib.hid (below_step hB.out hb); clear hb)
        go_ret
        exact ⟨⟨(k : Int), rfl, by rw [hF.out]; simp⟩, HB1.out⟩
    · have d1 : decide (k < cs.length) = false := decide_eq_false hlt
      have hT : Hid ((cs.all fun c => caseOk c.1 c.2) = true) := Lib.hid (by have := ht.out; rwa [List.take_of_length_le (by omega)] at this)
      go_wp2_with fail
      go_ret
      exact ⟨⟨-1, rfl, by rw [hT.out]; rfl⟩, hB.out⟩

theorem containsCase_any (A : Option Addr) (c : Nat) (cs : List Case) (w : World) (hl : cs.length ≤ 1099511627776) (h : CasesAt w A cs) :
    Calls Tryd.prog 11 #[.slice A cs.length c, .func (.func 12) #[] #[]] w fun e w' => e = .returned (.bool (!cs.all fun c => caseOk c.1 c.2)) ∧ Below w.heap.size w w' := by
  have HI := Lib.hid h
  clear h
  go_enter Tryd.func11, Tryd.ntmps11
  go_wp2_with (go_at_call 20; with_reducible refine (indexCase_any A c cs _ hl HI.out).mono ?_; rintro e w1 ⟨⟨z, rfl, hz⟩, hb⟩; have HZ := Lib.hid hz; have HB := Lib.hid hb; clear hz hb)
  go_ret
  exact ⟨ret_bool HZ.out, HB.out⟩
end Go.Proofs.YtpgaimpppehpcabDoor
