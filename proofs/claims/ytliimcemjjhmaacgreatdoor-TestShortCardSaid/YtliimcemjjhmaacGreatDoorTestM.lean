/- mayBe, MayBe: may there be such a case? caesuraref23.MayBe: may a case be so? Cases in memory; mayBe over all of them. -/
import Derived.Test.YtliimcemjjhmaacGreatDoorTestW
import Derived.Deep.QuietTactic
import Derived.Test.YtliimcemjjhmaacGreatDoorWWords
namespace Go.Proofs.YtliimcemjjhmaacGreatDoor
section
open Go.RowKit

def okAt (P : Nat) (br : List Int) (i : Nat) : Bool := decide (0 ≤ br.getD i 0) && decide (br.getD i 0 ≤ P) && (i == 0 || decide (br.getD (i - 1) 0 < br.getD i 0))
def brOk (P : Nat) (br : List Int) : Nat → Bool
  | 0 => true
  | k + 1 => brOk P br k && okAt P br k
theorem brOk_false {P : Nat} {br : List Int} {k n : Nat} (hk : k < n) (h : okAt P br k = false) : brOk P br n = false := by
  induction n with
  | zero => omega
  | succ n ih =>
    rw [brOk]
    rcases Nat.lt_or_ge k n with h' | h'
    · rw [ih h']; rfl
    · obtain rfl : k = n := by omega
      rw [h]; simp
def caseOk (pl br : List Int) : Bool := brOk pl.length br br.length && pl.all scal
theorem getD_at {br : List Int} {k : Nat} (h : k < br.length) : br.getD k 0 = br[k] := by rw [List.getD_eq_getElem?_getD, List.getElem?_eq_getElem h]; rfl
theorem IntsAt.alloc {w : World} {A : Option Addr} {ll : List Int} (h : IntsAt w A ll) (o : Obj) : IntsAt (w.alloc o) A ll := fun k hk => by
  obtain ⟨ad, e, hc⟩ := h k hk
  exact ⟨ad, e, alloc_cell hc o⟩

set_option maxHeartbeats 4000000 in
theorem mayBe_any (PA BA : Option Addr) (pc bc : Nat) (pl br : List Int) (w : World) (hp : pl.length ≤ 1099511627776) (hb : br.length ≤ 1099511627776) (hP : IntsAt w PA pl) (hB : IntsAt w BA br) :
    Calls Tryz.prog 14 #[.agg #[.slice PA pl.length pc, .slice BA br.length bc]] w fun e w' => e = .returned (.bool (caseOk pl br)) ∧ Below w.heap.size w w' := by
  have HP := Lib.hid hP
  have HB := Lib.hid hB
  clear hP hB
  go_enter Tryz.func14, Tryz.ntmps14
  go_wp2_with fail
  go_loop [8] (fun i => ∃ k : Nat, i = .int .i64 k ∧ k ≤ br.length ∧ Hid (brOk pl.length br k = true)) (fun i => br.length - (intOf i).toNat)
  case atStart => exact ⟨0, rfl, Nat.zero_le _, Lib.hid rfl⟩
  case round =>
    obtain ⟨k, rfl, hk, ht⟩ := hrel
    by_cases hlt : k < br.length
    · have d1 : decide (k < br.length) = true := decide_eq_true hlt
      obtain ⟨ad, rfl, hc⟩ := HB.out k hlt
      have n1 : ∀ o, (w.alloc o).cell? (ad.add k) = some (.int .i64 br[k]) := fun o => alloc_cell hc o
      have hat : Hid (okAt pl.length br k = (decide (0 ≤ br[k]) && decide (br[k] ≤ pl.length) && (k == 0 || decide (br.getD (k - 1) 0 < br[k])))) := Lib.hid (by rw [okAt, getD_at hlt])
      have hfal : Hid (okAt pl.length br k = false → caseOk pl br = false) := Lib.hid (fun h => by rw [caseOk, brOk_false hlt h]; rfl)
      have hgo : Hid (okAt pl.length br k = true → brOk pl.length br (k + 1) = true) := Lib.hid (fun h => by rw [brOk, ht.out, h]; rfl)
      clear hc
      by_cases h0 : br[k] < 0
      · have c0 : decide (br[k] < 0) = true := decide_eq_true h0
        have HF : Hid (caseOk pl br = false) := Lib.hid (hfal.out (by rw [hat.out, decide_eq_false (by omega)]; rfl))
        clear h0
        go_wp2_with fail
        go_ret
        exact ⟨ret_bool HF.out.symm, (Below.refl _ w).alloc (Nat.le_refl _) _⟩
      · have c0 : decide (br[k] < 0) = false := decide_eq_false h0
        by_cases h1 : (pl.length : Int) < br[k]
        · have c1 : decide ((pl.length : Int) < br[k]) = true := decide_eq_true h1
          have HF : Hid (caseOk pl br = false) := Lib.hid (hfal.out (by rw [hat.out, decide_eq_true (show 0 ≤ br[k] by omega), decide_eq_false (show ¬ br[k] ≤ (pl.length : Int) by omega)]; rfl))
          clear h0 h1
          go_wp2_with fail
          go_ret
          exact ⟨ret_bool HF.out.symm, (Below.refl _ w).alloc (Nat.le_refl _) _⟩
        · have c1 : decide ((pl.length : Int) < br[k]) = false := decide_eq_false h1
          by_cases hk0 : k = 0
          · have d0 : decide (0 < k) = false := decide_eq_false (by omega)
            have HG : Hid (brOk pl.length br (k + 1) = true) := Lib.hid (hgo.out (by rw [hat.out, decide_eq_true (show (0 : Int) ≤ br[k] by omega), decide_eq_true (show br[k] ≤ (pl.length : Int) by omega)]; simp [hk0]))
            clear h0 h1 hk0
            go_wp2_with fail
            go_round
            case rel => exact ⟨k + 1, by go_num, hlt, HG⟩
            case measure => simp [intOf]; omega
          · have d0 : decide (0 < k) = true := decide_eq_true (by omega)
            obtain ⟨ad2, he, hc2⟩ := HB.out (k - 1) (by omega)
            obtain rfl := Option.some.inj he
            have n2 : ∀ o, (w.alloc o).cell? (ad.add (k - 1)) = some (.int .i64 br[k - 1]) := fun o => alloc_cell hc2 o
            have hprev : br.getD (k - 1) 0 = br[k - 1] := getD_at (by omega)
            have hk1 : (k : Int) - 1 = ((k - 1 : Nat) : Int) := by omega
            have hk2 : k - 1 < br.length := by omega
            clear hc2
            by_cases h2 : br[k] ≤ br[k - 1]
            · have c2 : decide (br[k] ≤ br[k - 1]) = true := decide_eq_true h2
              have HF : Hid (caseOk pl br = false) := Lib.hid (hfal.out (by rw [hat.out, hprev, decide_eq_false (show ¬ br[k - 1] < br[k] by omega)]; simp [hk0]))
              clear h0 h1 h2 hprev hk0
              go_wp2_with fail
              go_ret
              exact ⟨ret_bool HF.out.symm, (Below.refl _ w).alloc (Nat.le_refl _) _⟩
            · have c2 : decide (br[k] ≤ br[k - 1]) = false := decide_eq_false h2
              have HG : Hid (brOk pl.length br (k + 1) = true) := Lib.hid (hgo.out (by rw [hat.out, hprev, decide_eq_true (show (0 : Int) ≤ br[k] by omega), decide_eq_true (show br[k] ≤ (pl.length : Int) by omega), decide_eq_true (show br[k - 1] < br[k] by omega)]; simp))
              clear h0 h1 h2 hprev hk0
              go_wp2_with fail
              go_round
              case rel => exact ⟨k + 1, by go_num, hlt, HG⟩
              case measure => simp [intOf]; omega
    · have d1 : decide (k < br.length) = false := decide_eq_false hlt
      have hT : Hid (brOk pl.length br br.length = true) := Lib.hid (by have := ht.out; rwa [show k = br.length from by omega] at this)
      have HC : Hid (pl.all scal = caseOk pl br) := Lib.hid (by rw [caseOk, hT.out]; simp)
      go_wp2_with (go_at_call 28; with_reducible refine (containsBad_any PA pc pl _ hp (HP.out.alloc _)).mono ?_; rintro e w1 ⟨rfl, rfl⟩)
      go_ret
      exact ⟨ret_bool HC.out, (Below.refl _ w).alloc (Nat.le_refl _) _⟩
end

section
open Go.RowKit
end

section
open Go.RowKit

abbrev Case := List Int × List Int
/-- One case's two slices, read. -/
def CaseV (w : World) (c : Case) (v0 v1 : Value) : Prop := ∃ PA pc BA bc, v0 = .slice PA c.1.length pc ∧ v1 = .slice BA c.2.length bc ∧ IntsAt w PA c.1 ∧ IntsAt w BA c.2 ∧ c.1.length ≤ 1099511627776 ∧ c.2.length ≤ 1099511627776
def CasesAt (w : World) (A : Option Addr) (cs : List Case) : Prop := ∀ k (h : k < cs.length), ∃ ad v0 v1, A = some ad ∧ w.cell? (ad.add (k * 2)) = some v0 ∧ w.cell? (ad.add (k * 2 + 1)) = some v1 ∧ CaseV w cs[k] v0 v1

theorem IntsAt.below {w w' : World} {A : Option Addr} {ll : List Int} (h : IntsAt w A ll) (hb : Below w.heap.size w w') : IntsAt w' A ll := fun k hk => by
  obtain ⟨ad, e, hc⟩ := h k hk
  exact ⟨ad, e, (hb.cell (World.block_lt_of_cell? w _ hc)).trans hc⟩
theorem CaseV.below {w w' : World} {c : Case} {v0 v1 : Value} (h : CaseV w c v0 v1) (hb : Below w.heap.size w w') : CaseV w' c v0 v1 := by
  obtain ⟨PA, pc, BA, bc, e0, e1, hP, hB, h1, h2⟩ := h
  exact ⟨PA, pc, BA, bc, e0, e1, hP.below hb, hB.below hb, h1, h2⟩

theorem case_bad (c : Case) (v0 v1 : Value) (w : World) (h : CaseV w c v0 v1) : Calls Tryz.prog 13 #[.agg #[v0, v1]] w fun e w' => e = .returned (.bool (!caseOk c.1 c.2)) ∧ Below w.heap.size w w' := by
  obtain ⟨PA, pc, BA, bc, rfl, rfl, hP, hB, h1, h2⟩ := h
  have HP := Lib.hid hP
  have HB := Lib.hid hB
  clear hP hB
  go_enter Tryz.func13, Tryz.ntmps13
  go_wp2_with (go_at_call 14; with_reducible refine (mayBe_any PA BA pc bc c.1 c.2 _ h1 h2 (HP.out.alloc _) (HB.out.alloc _)).mono ?_; rintro e w1 ⟨rfl, hb⟩; have HBE := Lib.hid (((Below.refl _ w).alloc (Nat.le_refl _) _).trans (hb.mono (by simp))); clear hb)
  go_ret
  exact ⟨rfl, HBE.out⟩

set_option maxHeartbeats 1000000 in
theorem indexCase_any (A : Option Addr) (c : Nat) (cs : List Case) (w : World) (hl : cs.length ≤ 1099511627776) (h : CasesAt w A cs) :
    Calls Tryz.prog 27 #[.slice A cs.length c, .func (.func 13) #[] #[]] w fun e w' => (∃ z : Int, e = .returned (.int .i64 z) ∧ (decide (0 ≤ z) = !cs.all fun c => caseOk c.1 c.2)) ∧ Below w.heap.size w w' := by
  have HI := Lib.hid h
  clear h
  go_enter Tryz.func27, Tryz.ntmps27
  go_wp2_with fail
  go_loopw [8] (fun i wr => ∃ k : Nat, i = .int .i64 k ∧ k ≤ cs.length ∧ Hid (((cs.take k).all fun c => caseOk c.1 c.2) = true) ∧ Hid (Below w.heap.size w wr)) (fun i _ => cs.length - (intOf i).toNat)
  case atStart => exact ⟨0, rfl, Nat.zero_le _, Lib.hid rfl, Lib.hid (Below.refl _ _)⟩
  case round =>
    obtain ⟨k, rfl, hk, ht, hB⟩ := hrel
    by_cases hlt : k < cs.length
    · have d1 : decide (k < cs.length) = true := decide_eq_true hlt
      obtain ⟨ad, v0, v1, rfl, hc0, hc1, hv⟩ := HI.out k hlt
      have e0 := (hB.out.cell (World.block_lt_of_cell? w _ hc0)).trans hc0
      have e1 := (hB.out.cell (World.block_lt_of_cell? w _ hc1)).trans hc1
      rw [Go.Proofs.YtliimcemjjhmaacGreatDoorW.PrintWords.add_field ad (k * 2) 1 (by decide)] at e1
      have hvb : CaseV wr cs[k] v0 v1 := hv.below hB.out
      cases hs : caseOk cs[k].1 cs[k].2 with
      | true =>
        have hs2 : Hid (((cs.take (k + 1)).all fun c => caseOk c.1 c.2) = true) := Lib.hid (by rw [List.take_succ_eq_append_getElem hlt, List.all_append, ht.out]; simp [hs])
        go_wp2_with (go_at_call 13; with_reducible refine (case_bad cs[k] v0 v1 _ hvb).mono ?_; rintro e w1 ⟨rfl, hb⟩; rw [hs]; have HB1 := Lib.hid (below_step hB.out hb); clear hb)
        go_roundw
        case rel => exact ⟨k + 1, by go_num, hlt, hs2, HB1⟩
        case measure => simp [intOf]; omega
      | false =>
        have hF : Hid ((cs.all fun c => caseOk c.1 c.2) = false) := Lib.hid (by rw [List.all_eq_false]; exact ⟨_, List.getElem_mem hlt, by simp [hs]⟩)
        go_wp2_with (go_at_call 13; with_reducible refine (case_bad cs[k] v0 v1 _ hvb).mono ?_; rintro e w1 ⟨rfl, hb⟩; rw [hs]; have HB1 := Lib.hid (below_step hB.out hb); clear hb)
        go_ret
        exact ⟨⟨(k : Int), rfl, by rw [hF.out]; simp⟩, HB1.out⟩
    · have d1 : decide (k < cs.length) = false := decide_eq_false hlt
      have hT : Hid ((cs.all fun c => caseOk c.1 c.2) = true) := Lib.hid (by have := ht.out; rwa [List.take_of_length_le (by omega)] at this)
      go_wp2_with fail
      go_ret
      exact ⟨⟨-1, rfl, by rw [hT.out]; rfl⟩, hB.out⟩

theorem containsCase_any (A : Option Addr) (c : Nat) (cs : List Case) (w : World) (hl : cs.length ≤ 1099511627776) (h : CasesAt w A cs) :
    Calls Tryz.prog 12 #[.slice A cs.length c, .func (.func 13) #[] #[]] w fun e w' => e = .returned (.bool (!cs.all fun c => caseOk c.1 c.2)) ∧ Below w.heap.size w w' := by
  have HI := Lib.hid h
  clear h
  go_enter Tryz.func12, Tryz.ntmps12
  go_wp2_with (go_at_call 27; with_reducible refine (indexCase_any A c cs _ hl HI.out).mono ?_; rintro e w1 ⟨⟨z, rfl, hz⟩, hb⟩; have HZ := Lib.hid hz; have HB := Lib.hid hb; clear hz hb)
  go_ret
  exact ⟨ret_bool HZ.out, HB.out⟩
end
end Go.Proofs.YtliimcemjjhmaacGreatDoor
