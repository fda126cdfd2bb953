/- caesuraref23.MayBe: may a case be so? -/
import Derived.Test.YtpgaimpppehpcabDoorTestM
import Derived.Deep.QuietTactic
namespace Go.Proofs.YtpgaimpppehpcabDoor
open Go.RowKit

set_option maxHeartbeats 4000000 in
theorem MayBe_any (PA BA : Option Addr) (pc bc : Nat) (pl br : List Int) (w : World) (hp : pl.length ≤ 1099511627776) (hb : br.length ≤ 1099511627776) (hP : IntsAt w PA pl) (hB : IntsAt w BA br) :
    Calls Tryd.prog 17 #[.agg #[.slice PA pl.length pc, .slice BA br.length bc]] w fun e w' => e = .returned (.bool (caseOk pl br)) ∧ Below w.heap.size w w' := by
  have HP := Lib.hid hP
  have HB := Lib.hid hB
  clear hP hB
  go_enter Tryd.func17, Tryd.ntmps17
  go_wp2_with (go_at_call 30; with_reducible refine (scalars_any PA pc pl _ hp (HP.out.alloc _)).mono ?_; rintro e w1 ⟨rfl, rfl⟩)
  go_loopw [4] (fun i wr => ∃ k : Nat, i = .int .i64 k ∧ k ≤ br.length ∧ Hid (brOk pl.length br k = true) ∧ ∃ n, wr = (w.alloc (.cells #[.slice PA pl.length pc, .slice BA br.length bc] 36)).drewN n) (fun i _ => br.length - (intOf i).toNat)
  case atStart => exact ⟨0, rfl, Nat.zero_le _, Lib.hid rfl, 0, rfl⟩
  case round =>
    obtain ⟨k, rfl, hk, ht, n, rfl⟩ := hrel
    by_cases hlt : k < br.length
    · have d1 : decide (k < br.length) = true := decide_eq_true hlt
      obtain ⟨ad, rfl, hc⟩ := HB.out k hlt
      have n1 : ∀ o, (w.alloc o).cell? (ad.add k) = some (.int .i64 br[k]) := fun o => alloc_cell hc o
      have hat : Hid (okAt pl.length br k = (decide (0 ≤ br[k]) && decide (br[k] ≤ pl.length) && (k == 0 || decide (br.getD (k - 1) 0 < br[k])))) := Lib.hid (by rw [okAt, getD_at hlt])
      have hfal : Hid (okAt pl.length br k = false → caseOk pl br = false) := Lib.hid (fun h => by rw [caseOk, brOk_false hlt h]; rfl)
      have hgo : Hid (okAt pl.length br k = true → brOk pl.length br (k + 1) = true) := Lib.hid (fun h => by rw [brOk, ht.out, h]; rfl)
      clear hc
      by_cases h0 : br[k] < 0
      · have c0 : decide (br[k] < 0) = true := decide_eq_true h0
        have HF : Hid (caseOk pl br = false) := Lib.hid (hfal.out (by rw [hat.out, decide_eq_false (by omega)]; rfl))
        clear h0
        go_wp2_with fail
        go_quiet (fail)
        go_wp2_with fail
        go_ret
        exact ⟨ret_bool HF.out.symm, below_drewN (below_drewN ((Below.refl _ w).alloc (Nat.le_refl _) _) _) _⟩
      · have c0 : decide (br[k] < 0) = false := decide_eq_false h0
        by_cases h1 : (pl.length : Int) < br[k]
        · have c1 : decide ((pl.length : Int) < br[k]) = true := decide_eq_true h1
          have HF : Hid (caseOk pl br = false) := Lib.hid (hfal.out (by rw [hat.out, decide_eq_true (show 0 ≤ br[k] by omega), decide_eq_false (show ¬ br[k] ≤ (pl.length : Int) by omega)]; rfl))
          clear h0 h1
          go_wp2_with fail
          go_quiet (fail)
          go_wp2_with fail
          go_ret
          exact ⟨ret_bool HF.out.symm, below_drewN (below_drewN ((Below.refl _ w).alloc (Nat.le_refl _) _) _) _⟩
        · have c1 : decide ((pl.length : Int) < br[k]) = false := decide_eq_false h1
          by_cases hk0 : k = 0
          · have d0 : decide (0 < k) = false := decide_eq_false (by omega)
            have HG : Hid (brOk pl.length br (k + 1) = true) := Lib.hid (hgo.out (by rw [hat.out, decide_eq_true (show (0 : Int) ≤ br[k] by omega), decide_eq_true (show br[k] ≤ (pl.length : Int) by omega)]; simp [hk0]))
            clear h0 h1 hk0
            go_wp2_with fail
            go_quiet (fail)
            go_wp2_with fail
            go_roundw
            case rel => exact ⟨k + 1, by go_num, hlt, HG, ⟨_, rfl⟩⟩
            case measure => simp [intOf]; omega
          · have d0 : decide (0 < k) = true := decide_eq_true (by omega)
            obtain ⟨ad2, he, hc2⟩ := HB.out (k - 1) (by omega)
            obtain rfl := Option.some.inj he
            have n2 : ∀ o, (w.alloc o).cell? (ad.add (k - 1)) = some (.int .i64 br[k - 1]) := fun o => alloc_cell hc2 o
            have hprev : br.getD (k - 1) 0 = br[k - 1] := getD_at (by omega)
            have hk1 : (k : Int) - 1 = ((k - 1 : Nat) : Int) := by omega
            have hk2 : k - 1 < br.length := by omega
            clear hc2
            by_cases h2 : br[k] ≤ br[k - 1]
            · have c2 : decide (br[k] ≤ br[k - 1]) = true := decide_eq_true h2
              have HF : Hid (caseOk pl br = false) := Lib.hid (hfal.out (by rw [hat.out, hprev, decide_eq_false (show ¬ br[k - 1] < br[k] by omega)]; simp [hk0]))
              clear h0 h1 h2 hprev hk0
              go_wp2_with fail
              go_quiet (fail)
              go_wp2_with fail
              go_ret
              exact ⟨ret_bool HF.out.symm, below_drewN (below_drewN ((Below.refl _ w).alloc (Nat.le_refl _) _) _) _⟩
            · have c2 : decide (br[k] ≤ br[k - 1]) = false := decide_eq_false h2
              have HG : Hid (brOk pl.length br (k + 1) = true) := Lib.hid (hgo.out (by rw [hat.out, hprev, decide_eq_true (show (0 : Int) ≤ br[k] by omega), decide_eq_true (show br[k] ≤ (pl.length : Int) by omega), decide_eq_true (show br[k - 1] < br[k] by omega)]; simp))
              clear h0 h1 h2 hprev hk0
              go_wp2_with fail
              go_quiet (fail)
              go_wp2_with fail
              go_roundw
              case rel => exact ⟨k + 1, by go_num, hlt, HG, ⟨_, rfl⟩⟩
              case measure => simp [intOf]; omega
    · have d1 : decide (k < br.length) = false := decide_eq_false hlt
      have hT : Hid (brOk pl.length br br.length = true) := Lib.hid (by have := ht.out; rwa [show k = br.length from by omega] at this)
      have HC : Hid (pl.all scal = caseOk pl br) := Lib.hid (by rw [caseOk, hT.out]; simp)
      go_wp2_with fail
      go_ret
      exact ⟨ret_bool HC.out, below_drewN ((Below.refl _ w).alloc (Nat.le_refl _) _) _⟩
end Go.Proofs.YtpgaimpppehpcabDoor
