/- testfile.Print: the walk. -/
import Derived.Test.YtliimcemjjhmaacGreatDoorTestSh
import Derived.Test.YtliimcemjjhmaacGreatDoorSent
namespace Go.Proofs.YtliimcemjjhmaacGreatDoor
open Go.RowKit Go.Proofs.YtliimcemjjhmaacGreatDoorW.PrintWords

theorem containsOk_any (b : Bool) (A : Option Addr) (c : Nat) (cs : List Case) (w : World) (hl : cs.length ≤ 1099511627776) (h : CasesAt w A cs) (hb : allOk cs = b) :
    Calls Tryz.prog 12 #[.slice A cs.length c, .func (.func 13) #[] #[]] w fun e w' => e = .returned (.bool (!b)) ∧ Below w.heap.size w w' := by
  rw [← hb]; exact containsCase_any A c cs w hl h

set_option maxHeartbeats 4000000 in
theorem Print_any (a : Nat → Addr) (A : Option Addr) (c : Nat) (cs : List Case) (w : World) (hl : cs.length ≤ 1099511627776) (hsm : SmallC cs) (h : CasesAt w A cs) (hsent : Sent a w) :
    Calls Tryz.prog 6 #[.slice A cs.length c] w (PrintPost cs (errV a) w) := by
  have HI := Lib.hid h
  have HSM := Lib.hid hsm
  have HS := Lib.hid hsent
  clear h hsm hsent
  by_cases h2 : 20000 < cs.length
  · have d0 : decide (20000 < (cs.length : Int)) = true := decide_eq_true (by omega)
    have HF : Hid (printOut cs = ([], 3)) := Lib.hid (by unfold printOut; rw [if_pos h2])
    have hg3 : w.cell? ⟨0, 0, none⟩ = some (.iface 130 (.pointer (some (a 3)))) := HS.out.cell 3 (by decide)
    clear h2
    go_enter Tryz.func6, Tryz.ntmps6
    go_wp2_with fail
    go_quiet (fail)
    go_wp2_with fail
    go_ret2
    exact PrintPost.of HF.out rfl (below_of_drewN _ _ _)
  · have d0 : decide (20000 < (cs.length : Int)) = false := decide_eq_false (by omega)
    have H2 := Lib.hid h2
    have hl2 : cs.length ≤ 20000 := by omega
    clear h2
    cases hall : allOk cs with
    | false =>
      have HALL := Lib.hid hall
      have HF : Hid (printOut cs = ([], 1)) := Lib.hid (by unfold printOut; rw [if_neg H2.out, if_pos hall])
      clear hall
      go_enter Tryz.func6, Tryz.ntmps6
      go_wp2_with (go_at_call 12; (with_reducible refine (containsOk_any false A c cs _ hl HI.out HALL.out).mono ?_); rintro e w1 ⟨rfl, hb⟩; have hg1 : w1.cell? ⟨1, 0, none⟩ = some (.iface 130 (.pointer (some (a 1)))) := (HS.out.below hb).cell 1 (by decide); have HB := Lib.hid hb; clear hb)
      go_quiet (fail)
      go_wp2_with fail
      go_ret2
      exact PrintPost.of HF.out rfl (below_drewN HB.out _)
    | true =>
      have HALL := Lib.hid hall
      have hfl := fileT_len HSM.out cs.length (Nat.le_refl _)
      rw [List.take_of_length_le (Nat.le_refl _)] at hfl
      have HFL := Lib.hid hfl
      clear hall hfl
      go_enter Tryz.func6, Tryz.ntmps6
      go_wp2_with (go_at_call 12; (with_reducible refine (containsOk_any true A c cs _ hl HI.out HALL.out).mono ?_); rintro e w1 ⟨rfl, hb⟩; have HB := Lib.hid hb; clear hb)
      go_loopw [4, 17] (fun v i wr => ∃ (k : Nat) (x : List ByteArray), i = .int .i64 k ∧ k ≤ cs.length ∧ x.length = k ∧ Hid (OwnStrs wr w.heap.size v x) ∧ Hid (bytesL x = linesT (cs.take k)) ∧ Hid (Below w.heap.size w wr)) (fun _ i _ => cs.length - (intOf i).toNat)
      case atStart => exact ⟨0, [], rfl, Nat.zero_le _, rfl, Lib.hid (Kd.R_nil _ _ _ _ _), Lib.hid rfl, HB⟩
      case round =>
        obtain ⟨k, x, rfl, hk, hxk, hO, hx, hB⟩ := hrel
        have hxk2 : x.length ≤ 20000 := by omega
        have HXK := Lib.hid hxk
        clear hxk
        by_cases hlt : k < cs.length
        · have d1 : decide (k < cs.length) = true := decide_eq_true hlt
          obtain ⟨ad, v0, v1, rfl, hc0, hc1, hv⟩ := HI.out k hlt
          have e0 := (hB.out.cell (World.block_lt_of_cell? w _ hc0)).trans hc0
          have e1 := (hB.out.cell (World.block_lt_of_cell? w _ hc1)).trans hc1
          rw [Go.Proofs.YtliimcemjjhmaacGreatDoorW.PrintWords.add_field ad (k * 2) 1 (by decide)] at e1
          have hvb : CaseV wr cs[k] v0 v1 := hv.below hB.out
          have HVB := Lib.hid hvb
          obtain ⟨PA, pc, BA, bc, rfl, rfl, _⟩ := hvb
          have hsk := HSM.out k hlt
          go_wp2_with (first
            | (go_at_call 15; (with_reducible refine (shortC cs[k] _ _ _ (CaseV.below HVB.out (Below.alloc (Below.refl _ _) (Nat.le_refl _) _)) hsk (ok_at HALL.out hlt)).mono ?_); rintro e w2 ⟨⟨y, rfl, hy⟩, hb⟩; have HY := Lib.hid hy; have HB2 := Lib.hid (below_step (hB.out.alloc hB.out.size _) hb); have HO2 := Lib.hid (Kd.R_below (Kd.R_alloc hO.out _) hb); clear hy hb)
            | (at_builtin; refine Kd.R_append Kd.string (w0 := w) w.heap.size rfl (.tmp 21) (.tmp 24) 46 9 (.string ⟨#[]⟩) 16 rfl Tryz.underlying46 strInfo rfl (by decide) (by omega) _ x y [.string y] (fun _ => True) (fun _ => False) rfl rfl ?aP (fun _ hk => hk.elim) (fun _ _ => trivial) HO2.out HB2.out HB2.out.size (by omega) ?_; (case aP => exact rfl); intro v' w13 ho hb' hg' hat; have HO := Lib.hid ho; have HBE := Lib.hid hb'; clear ho hb' hg' hat))
          go_roundw
          case rel => exact ⟨k + 1, _, by go_num, hlt, by simp [HXK.out], HO, Lib.hid (by rw [bytesL_app, hx.out, linesT_take hlt, HY.out]), HBE⟩
          case measure => simp [intOf]; omega
        · have d1 : decide (k < cs.length) = false := decide_eq_false hlt
          have hj : Lib.join (bytesL x) [10] = fileT cs := by rw [hx.out, List.take_of_length_le (by omega)]; rfl
          have hll : (Lib.join (bytesL x) [10]).length ≤ 140737488355328 := by rw [hj]; exact Nat.le_trans HFL.out (by omega)
          have HJ := Lib.hid hj
          clear hj
          by_cases hb : 1048576 < (fileT cs).length
          · have HF : Hid (printOut cs = ([], 3)) := Lib.hid (by unfold printOut; rw [if_neg H2.out, if_neg (by rw [HALL.out]; decide), if_pos hb])
            have HBIG := Lib.hid hb
            clear hb
            go_wp2_with (go_at_call 16; (with_reducible refine (join_any ⟨#[10]⟩ w.heap.size _ x _ hO.out (by omega) hll).mono ?_); rintro e w3 ⟨⟨y, rfl, hy⟩, hbj⟩; have hbig : 1048576 < y.size := (by rw [← len_str, hy]; have := HBIG.out; rw [← HJ.out] at this; exact this); have d3 : decide (1048576 < (y.size : Int)) = true := decide_eq_true (by omega); have HBJ := Lib.hid (below_step hB.out hbj); have hg3 : w3.cell? ⟨0, 0, none⟩ = some (.iface 130 (.pointer (some (a 3)))) := (HS.out.below HBJ.out).cell 3 (by decide); clear hy hbj hbig)
            go_quiet (fail)
            go_wp2_with fail
            go_ret2
            exact PrintPost.of HF.out rfl (below_drewN HBJ.out _)
          · have HF : Hid (printOut cs = (fileT cs, 0)) := Lib.hid (by unfold printOut; rw [if_neg H2.out, if_neg (by rw [HALL.out]; decide), if_neg hb])
            have HBIG := Lib.hid hb
            clear hb
            go_wp2_with (go_at_call 16; (with_reducible refine (join_any ⟨#[10]⟩ w.heap.size _ x _ hO.out (by omega) hll).mono ?_); rintro e w3 ⟨⟨y, rfl, hy⟩, hbj⟩; have hbig : ¬ 1048576 < y.size := (by rw [← len_str, hy]; have := HBIG.out; rw [← HJ.out] at this; exact this); have d3 : decide (1048576 < (y.size : Int)) = false := decide_eq_false (by omega); have HBJ := Lib.hid (below_step hB.out hbj); have HY := Lib.hid hy; clear hy hbj hbig)
            go_ret2
            exact PrintPost.of (by rw [HF.out, HY.out]; exact congrArg (·, 0) HJ.out.symm) rfl HBJ.out
end Go.Proofs.YtliimcemjjhmaacGreatDoor
