/- caesuralaw23.kept: it answers true of what own made and nobody wrote into. -/
import Derived.Test.YtpgaimpppehpcabDoorTestGs
import Derived.Test.YtpgaimpppehpcabDoorTestS2
namespace Go.Proofs.YtpgaimpppehpcabDoor
open Go.RowKit Go.Proofs.YtpgaimpppehpcabDoorW.PrintWords

theorem mark_at {w : World} {A : Option Addr} {l : List Int} {z : Int} (h : IntsAt w A (l ++ List.replicate 64 z)) (j : Nat) (hj : j < 64) : ∃ ad, A = some ad ∧ w.cell? (ad.add (l.length + j)) = some (.int .i64 z) := by
  obtain ⟨ad, e, hc⟩ := h (l.length + j) (by simp; omega)
  refine ⟨ad, e, ?_⟩
  rw [hc, List.getElem_append_right (by omega), List.getElem_replicate]

set_option maxHeartbeats 4000000 in
set_option maxRecDepth 100000 in
theorem kept_any (A A2 : Option Addr) (cap c : Nat) (cs : List Case) (w : World) (hl : cs.length ≤ 2097152) (hs : ∀ k (h : k < cs.length), cs[k].1.length ≤ 2097152 ∧ cs[k].2.length ≤ 2097152) (h : gK.C w A (cs.length + 64) (withEx cs)) (hcap : cs.length + 64 ≤ cap) (h2 : CasesAt w A2 cs) :
    Calls Tryd.prog 7 #[.slice A cs.length cap, .slice A2 cs.length c] w fun e w' => e = .returned (.bool true) ∧ Below w.heap.size w w' := by
  have HG := Lib.hid h
  have H2 := Lib.hid h2
  have HSZ := Lib.hid hs
  have HCA := Lib.hid (cases_of_C h (fun k hk => by have := hs k hk; omega))
  clear h h2 hs
  go_enter Tryd.func7, Tryd.ntmps7
  go_wp2_with (go_at_call 16; (with_reducible refine (sameCases_any A A2 cap c cs cs _ HCA.out H2.out (by omega)).mono ?_); rintro e w1 ⟨rfl, hb⟩; rw [decide_eq_true (rfl : cs = cs)]; have HB := Lib.hid hb; have HG1 := Lib.hid (Kd.C_below HG.out hb); clear hb)
  go_loopw [6] (fun i wr => ∃ (k n : Nat), i = .int .i64 k ∧ k ≤ cs.length ∧ wr = w1.drewN n) (fun i _ => cs.length - (intOf i).toNat)
  case atStart => exact ⟨0, 0, rfl, Nat.zero_le _, rfl⟩
  case round =>
    obtain ⟨k, n, rfl, hk, rfl⟩ := hrel
    by_cases hlt : k < cs.length
    · have d1 : decide (k < cs.length) = true := decide_eq_true hlt
      obtain ⟨ad, PA, pc, BA, bc, rfl, e0, e1, hpc, hbc, hP, hQ⟩ := case_at HG1.out k hlt
      rw [Go.Proofs.YtpgaimpppehpcabDoorW.PrintWords.add_field ad (k * 2) 1 (by decide)] at e1
      have hsz := HSZ.out k hlt
      have HP := Lib.hid hP
      have HQ := Lib.hid hQ
      clear hP hQ
      have hpc' : (cs[k].1.length : Int) + 64 ≤ pc := by omega
      have hbc' : (cs[k].2.length : Int) + 64 ≤ bc := by omega
      go_wp2_with fail
      go_quiet (fail)
      go_wp2_with fail
      go_quiet (fail)
      go_wp2_with fail
      go_loopw [9] (fun i wr => ∃ (j n : Nat), i = .int .i64 j ∧ j ≤ 64 ∧ wr = w1.drewN n) (fun i _ => 64 - (intOf i).toNat)
      case atStart => exact ⟨0, _, rfl, by omega, by rw [World.drewN_drewN, World.drewN_drewN]⟩
      case round =>
        obtain ⟨j, n, rfl, hj, rfl⟩ := hrel
        by_cases h64 : j < 64
        · have d2 : decide ((j : Int) < 64) = true := decide_eq_true (by omega)
          obtain ⟨pa, rfl, hp⟩ := mark_at HP.out j h64
          obtain ⟨ba, rfl, hb⟩ := mark_at HQ.out j h64
          go_wp2_with fail
          go_roundw
          case rel => exact ⟨j + 1, _, by go_num, by omega, rfl⟩
          case measure => simp [intOf]; omega
        · have d2 : decide ((j : Int) < 64) = false := decide_eq_false (by omega)
          go_wp2_with fail
          go_roundw
          case rel => exact ⟨k + 1, _, by go_num, hlt, rfl⟩
          case measure => simp [intOf]; omega
    · have d1 : decide (k < cs.length) = false := decide_eq_false hlt
      have hcap' : (cs.length : Int) + 64 ≤ cap := by omega
      go_wp2_with fail
      go_loopw [11] (fun i wr => ∃ (j n : Nat), i = .int .i64 j ∧ cs.length ≤ j ∧ j ≤ cs.length + 64 ∧ wr = w1.drewN n) (fun i _ => cs.length + 64 - (intOf i).toNat)
      case atStart => exact ⟨cs.length, _, rfl, by omega, by omega, rfl⟩
      case round =>
        obtain ⟨j, n, rfl, hj0, hj, rfl⟩ := hrel
        by_cases h64 : j < cs.length + 64
        · have d2 : decide ((j : Int) < (cs.length : Int) + 64) = true := decide_eq_true (by omega)
          obtain ⟨ad, g, pc, rfl, e0, e1⟩ := ex_at HG1.out j hj0 h64
          go_wp2_with fail
          go_roundw
          case rel => exact ⟨j + 1, _, by go_num, by omega, by omega, rfl⟩
          case measure => simp [intOf]; omega
        · have d2 : decide ((j : Int) < (cs.length : Int) + 64) = false := decide_eq_false (by omega)
          go_wp2_with fail
          go_ret
          exact ⟨rfl, below_drewN HB.out _⟩
end Go.Proofs.YtpgaimpppehpcabDoor
