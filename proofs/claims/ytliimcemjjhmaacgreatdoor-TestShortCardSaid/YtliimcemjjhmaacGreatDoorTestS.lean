/- caesuraref0.SameInts: the walk. caesurakit.TameCases: it answers. caesuraref0.SameCases: the walk. -/
import Derived.Test.YtliimcemjjhmaacGreatDoorTestM
namespace Go.Proofs.YtliimcemjjhmaacGreatDoor
section
open Go.RowKit

theorem take_int {x : List Int} {k : Nat} (h : k < x.length) : x.take (k + 1) = x.take k ++ [x[k]] := List.take_succ_eq_append_getElem h

set_option maxHeartbeats 2000000 in
theorem sameInts_any (A B : Option Addr) (c d : Nat) (x y : List Int) (w : World) (hx : IntsAt w A x) (hy : IntsAt w B y) (hlx : x.length ≤ 1099511627776) (hly : y.length ≤ 1099511627776) :
    Calls Tryz.prog 17 #[.slice A x.length c, .slice B y.length d] w fun e w' => e = .returned (.bool (decide (x = y))) ∧ ∃ n, w' = w.drewN n := by
  have HX := Lib.hid hx
  have HY := Lib.hid hy
  clear hx hy
  by_cases hl : x.length = y.length
  · have b0 : ((x.length : Int) != (y.length : Int)) = false := bneI_false (by omega)
    have hle : x.length ≤ y.length := by omega
    have HL := Lib.hid hl
    clear hl
    go_enter Tryz.func17, Tryz.ntmps17
    go_wp2_with fail
    go_loopw [5] (fun i wr => ∃ k : Nat, i = .int .i64 k ∧ k ≤ x.length ∧ Hid (x.take k = y.take k) ∧ ∃ n, wr = w.drewN n) (fun i _ => x.length - (intOf i).toNat)
    case atStart => exact ⟨0, rfl, by omega, Lib.hid rfl, 0, rfl⟩
    case round =>
      obtain ⟨k, rfl, hk, ht, n, rfl⟩ := hrel
      by_cases hlt : k < x.length
      · have hlt2 : k < y.length := by omega
        obtain ⟨ad, rfl, hc⟩ := HX.out k hlt
        obtain ⟨bd, rfl, hd⟩ := HY.out k hlt2
        have c0 : decide (k < x.length) = true := decide_eq_true hlt
        by_cases he : x[k] = y[k]
        · have hbe : (x[k] != y[k]) = false := bneI_false he
          have HE := Lib.hid he
          clear he
          go_wp2_with fail
          go_quiet (fail)
          go_wp2_with fail
          go_roundw
          case rel => exact ⟨k + 1, by go_num, hlt, Lib.hid (by rw [take_int hlt, take_int hlt2, ht.out, HE.out]), ⟨_, rfl⟩⟩
          case measure => simp [intOf]; omega
        · have hbe : (x[k] != y[k]) = true := bneI_true he
          have HF : Hid (x ≠ y) := Lib.hid (fun e => he (by subst e; rfl))
          clear he
          go_wp2_with fail
          go_quiet (fail)
          go_wp2_with fail
          go_ret
          exact ⟨ret_bool (by simp [HF.out]), ⟨_, World.drewN_drewN ..⟩⟩
      · have c0 : decide (k < x.length) = false := decide_eq_false hlt
        have HT : Hid (x = y) := Lib.hid (by have := ht.out; rwa [List.take_of_length_le (by omega), List.take_of_length_le (by have := HL.out; omega)] at this)
        go_wp2_with fail
        go_ret
        exact ⟨ret_bool (by simp [HT.out]), ⟨_, rfl⟩⟩
  · have b0 : ((x.length : Int) != (y.length : Int)) = true := bneI_true (by omega)
    have HF : Hid (x ≠ y) := Lib.hid (fun e => hl (by rw [e]))
    clear hl
    go_enter Tryz.func17, Tryz.ntmps17
    go_wp2_with fail
    go_ret
    exact ⟨ret_bool (by simp [HF.out]), 0, rfl⟩
end

section
open Go.RowKit
end

section
open Go.RowKit

theorem take_case {x : List Case} {k : Nat} (h : k < x.length) : x.take (k + 1) = x.take k ++ [x[k]] := List.take_succ_eq_append_getElem h

set_option maxHeartbeats 4000000 in
theorem sameCases_eq (A B : Option Addr) (c d : Nat) (x y : List Case) (w : World) (hx : CasesAt w A x) (hy : CasesAt w B y) (hlx : x.length ≤ 1099511627776) (hl : x.length = y.length) :
    Calls Tryz.prog 7 #[.slice A x.length c, .slice B y.length d] w fun e w' => e = .returned (.bool (decide (x = y))) ∧ Below w.heap.size w w' := by
  have HX := Lib.hid hx
  have HY := Lib.hid hy
  clear hx hy
  have b0 : ((x.length : Int) != (y.length : Int)) = false := bneI_false (by omega)
  have HL := Lib.hid hl
  clear hl
  go_enter Tryz.func7, Tryz.ntmps7
  go_wp2_with fail
  go_loopw [5] (fun i wr => ∃ k : Nat, i = .int .i64 k ∧ k ≤ x.length ∧ Hid (x.take k = y.take k) ∧ Hid (Below w.heap.size w wr)) (fun i _ => x.length - (intOf i).toNat)
  case atStart => exact ⟨0, rfl, by omega, Lib.hid rfl, Lib.hid (Below.refl _ _)⟩
  case round =>
    obtain ⟨k, rfl, hk, ht, hB⟩ := hrel
    by_cases hlt : k < x.length
    · have c0 : decide (k < x.length) = true := decide_eq_true hlt
      have hlt2 : k < y.length := by have := HL.out; omega
      obtain ⟨ad, v0, v1, rfl, hc0, hc1, PA, pc, BA, bc, rfl, rfl, hP, hQ, h1, h2⟩ := HX.out k hlt
      obtain ⟨bd, u0, u1, rfl, hd0, hd1, PB, pd, BB, bd2, rfl, rfl, hR, hS, h3, h4⟩ := HY.out k hlt2
      rw [Go.Proofs.YtliimcemjjhmaacGreatDoorW.PrintWords.add_field ad (k * 2) 1 (by decide)] at hc1
      rw [Go.Proofs.YtliimcemjjhmaacGreatDoorW.PrintWords.add_field bd (k * 2) 1 (by decide)] at hd1
      have e0 := (hB.out.cell (World.block_lt_of_cell? w _ hc0)).trans hc0
      have e1 := (hB.out.cell (World.block_lt_of_cell? w _ hc1)).trans hc1
      have f0 := (hB.out.cell (World.block_lt_of_cell? w _ hd0)).trans hd0
      have f1 := (hB.out.cell (World.block_lt_of_cell? w _ hd1)).trans hd1
      have HP := Lib.hid (hP.below hB.out); have HQ := Lib.hid (hQ.below hB.out); have HR := Lib.hid (hR.below hB.out); have HS := Lib.hid (hS.below hB.out)
      clear hc0 hc1 hd0 hd1 hP hQ hR hS
      have hstep : ∀ n, Below wr.heap.size wr (wr.drewN n) := fun n => below_of_drewN _ _ _
      have HEQ : Hid (x[k].1 = y[k].1 → x[k].2 = y[k].2 → x.take (k + 1) = y.take (k + 1)) := Lib.hid (fun a b => by rw [take_case hlt, take_case hlt2, ht.out, Prod.ext a b])
      have HNE : Hid (¬ (x[k].1 = y[k].1 ∧ x[k].2 = y[k].2) → x ≠ y) := Lib.hid (fun a b => a (by subst b; exact ⟨rfl, rfl⟩))
      have HST := Lib.hid hstep
      clear hstep
      cases q1 : decide (x[k].1 = y[k].1) <;> cases q2 : decide (x[k].2 = y[k].2)
      all_goals
        have Q1 := Lib.hid q1
        have Q2 := Lib.hid q2
        clear q2
        go_wp2_with fail
        go_quiet ((go_at_call 17; exact Calls.quiet_of (sameInts_any PA PB pc pd x[k].1 y[k].1 _ (HP.out.below (below_of_drewN _ _ _)) (HR.out.below (below_of_drewN _ _ _)) h1 h3)))
        generalize hwx : wr.drewN _ = wx
        have hbx : Below wr.heap.size wr wx := by rw [← hwx]; exact HST.out _
        have e1x := (hbx.cell (World.block_lt_of_cell? wr _ e1)).trans e1
        have f1x := (hbx.cell (World.block_lt_of_cell? wr _ f1)).trans f1
        have HQX := Lib.hid (HQ.out.below hbx); have HSX := Lib.hid (HS.out.below hbx)
        have HBX := Lib.hid (below_step hB.out hbx)
        clear hwx hbx e0 e1 f0 f1
        have q2 := Q2.out
        go_wp2_with fail
        go_quiet ((go_at_call 17; exact Calls.quiet_of (sameInts_any BA BB bc bd2 x[k].2 y[k].2 _ (HQX.out.below (below_of_drewN _ _ _)) (HSX.out.below (below_of_drewN _ _ _)) h2 h4)))
        go_wp2_with fail
        first
          | (go_ret; exact ⟨ret_bool (decide_eq_false (HNE.out (fun h => by have := of_decide_eq_false Q1.out; have := of_decide_eq_false Q2.out; simp_all))).symm, below_drewN HBX.out _⟩)
          | (go_ret; exact ⟨ret_bool (decide_eq_false (HNE.out (fun h => of_decide_eq_false Q1.out h.1))).symm, below_drewN HBX.out _⟩)
          | (go_ret; exact ⟨ret_bool (decide_eq_false (HNE.out (fun h => of_decide_eq_false Q2.out h.2))).symm, below_drewN HBX.out _⟩)
          | (go_roundw
             case rel => exact ⟨k + 1, by go_num, hlt, Lib.hid (HEQ.out (of_decide_eq_true Q1.out) (of_decide_eq_true Q2.out)), Lib.hid (below_drewN HBX.out _)⟩
             case measure => simp [intOf]; omega)
    · have c0 : decide (k < x.length) = false := decide_eq_false hlt
      have HT : Hid (x = y) := Lib.hid (by have := ht.out; rwa [List.take_of_length_le (by omega), List.take_of_length_le (by have := HL.out; omega)] at this)
      go_wp2_with fail
      go_ret
      exact ⟨ret_bool (by simp [HT.out]), hB.out⟩

theorem sameCases_any (A B : Option Addr) (c d : Nat) (x y : List Case) (w : World) (hx : CasesAt w A x) (hy : CasesAt w B y) (hlx : x.length ≤ 1099511627776) :
    Calls Tryz.prog 7 #[.slice A x.length c, .slice B y.length d] w fun e w' => e = .returned (.bool (decide (x = y))) ∧ Below w.heap.size w w' := by
  by_cases hl : x.length = y.length
  · exact sameCases_eq A B c d x y w hx hy hlx hl
  · have b0 : ((x.length : Int) != (y.length : Int)) = true := bneI_true (by omega)
    have HF : Hid (x ≠ y) := Lib.hid (fun e => hl (by rw [e]))
    clear hl hx hy
    go_enter Tryz.func7, Tryz.ntmps7
    go_wp2_with fail
    go_ret
    exact ⟨ret_bool (decide_eq_false HF.out).symm, Below.refl _ _⟩
end
end Go.Proofs.YtliimcemjjhmaacGreatDoor
