/- caesuralaw23.other: it writes ints into rows of ints. -/
import Derived.Test.YtpgaimpppehpcabDoorTestGs
import Derived.Handy
namespace Go.Proofs.YtpgaimpppehpcabDoor
open Go.RowKit Go.Proofs.YtpgaimpppehpcabDoorW.PrintWords

def IntRow (w : World) (base gp n : Nat) : Prop := base ≤ gp ∧ ∀ j, j < n → ∃ z, w.cell? ⟨gp, j, none⟩ = some (.int .i64 z) ∧ w.frozen? ⟨gp, j, none⟩ = false
def RowsAt (w : World) (base g : Nat) (ns : List (Nat × Nat)) : Prop := ∀ k (h : k < ns.length), ∃ gp pc gb bc, w.cell? ⟨g, k * 2, none⟩ = some (.slice (some ⟨gp, 0, none⟩) ns[k].1 pc) ∧ w.cell? ⟨g, k * 2 + 1, none⟩ = some (.slice (some ⟨gb, 0, none⟩) ns[k].2 bc) ∧ IntRow w base gp ns[k].1 ∧ IntRow w base gb ns[k].2

theorem cell_put {w : World} {g j : Nat} {z0 z : Int} (h : w.cell? ⟨g, j, none⟩ = some (.int .i64 z0)) {b o : Nat} {v : Value} (hv : w.cell? ⟨b, o, none⟩ = some v) :
    (b = g ∧ o = j ∧ (w.setCell ⟨g, j, none⟩ (.int .i64 z)).cell? ⟨b, o, none⟩ = some (.int .i64 z)) ∨ (¬ (b = g ∧ o = j) ∧ (w.setCell ⟨g, j, none⟩ (.int .i64 z)).cell? ⟨b, o, none⟩ = some v) := by
  by_cases e : (⟨g, j, none⟩ : Addr) = ⟨b, o, none⟩
  · injection e with e1 e2 _
    subst e1 e2
    exact .inl ⟨rfl, rfl, World.cell?_setCell_same _ _ _ h⟩
  · exact .inr ⟨fun h => e (by rw [h.1, h.2]), (World.cell?_setCell_other _ _ _ _ e).trans hv⟩
theorem IntRow.put {w : World} {base gp n g j : Nat} {z0 : Int} (z : Int) (h : IntRow w base gp n) (hc : w.cell? ⟨g, j, none⟩ = some (.int .i64 z0)) : IntRow (w.setCell ⟨g, j, none⟩ (.int .i64 z)) base gp n := by
  refine ⟨h.1, fun i hi => ?_⟩
  obtain ⟨y, hy, hf⟩ := h.2 i hi
  rcases cell_put (z := z) hc hy with ⟨_, _, e⟩ | ⟨_, e⟩
  · exact ⟨z, e, by rw [World.frozen?_setCell]; exact hf⟩
  · exact ⟨y, e, by rw [World.frozen?_setCell]; exact hf⟩
theorem RowsAt.put {w : World} {base g0 : Nat} {ns : List (Nat × Nat)} {g j : Nat} {z0 : Int} (z : Int) (h : RowsAt w base g0 ns) (hc : w.cell? ⟨g, j, none⟩ = some (.int .i64 z0)) : RowsAt (w.setCell ⟨g, j, none⟩ (.int .i64 z)) base g0 ns := fun k hk => by
  obtain ⟨gp, pc, gb, bc, h0, h1, hp, hb⟩ := h k hk
  refine ⟨gp, pc, gb, bc, ?_, ?_, hp.put z hc, hb.put z hc⟩
  · rcases cell_put (z := z) hc h0 with ⟨e1, e2, _⟩ | ⟨_, e⟩
    · subst e1 e2; rw [hc] at h0; cases h0
    · exact e
  · rcases cell_put (z := z) hc h1 with ⟨e1, e2, _⟩ | ⟨_, e⟩
    · subst e1 e2; rw [hc] at h1; cases h1
    · exact e

set_option maxHeartbeats 4000000 in
theorem other_any (g cap : Nat) (ns : List (Nat × Nat)) (w : World) (base : Nat) (hl : ns.length ≤ 2097152) (hs : ∀ k (h : k < ns.length), ns[k].1 ≤ 2097152 ∧ ns[k].2 ≤ 2097152) (h : RowsAt w base g ns) :
    Calls Tryd.prog 10 #[.slice (some ⟨g, 0, none⟩) ns.length cap] w fun e w' => (∃ v, e = .returned v) ∧ RowsAt w' base g ns ∧ Below base w w' := by
  have HI := Lib.hid h
  have HSZ := Lib.hid hs
  clear h hs
  go_enter Tryd.func10, Tryd.ntmps10
  go_wp2_with fail
  go_loopw [2] (fun i wr => ∃ (k : Nat), i = .int .i64 k ∧ k ≤ ns.length ∧ Hid (RowsAt wr base g ns) ∧ Hid (Below base w wr)) (fun i _ => ns.length - (intOf i).toNat)
  case atStart => exact ⟨0, rfl, Nat.zero_le _, HI, Lib.hid (Below.refl _ _)⟩
  case round =>
    obtain ⟨k, rfl, hk, hR, hB⟩ := hrel
    by_cases hlt : k < ns.length
    · have d1 : decide (k < ns.length) = true := decide_eq_true hlt
      have hsz := HSZ.out k hlt
      go_wp2_with fail
      obtain ⟨wo, rfl⟩ : ∃ wo : World, wo = wr := ⟨_, rfl⟩
      go_loopw [3] (fun i wr => ∃ (j : Nat), i = .int .i64 j ∧ j ≤ ns[k].1 ∧ Hid (RowsAt wr base g ns) ∧ Hid (Below base w wr)) (fun i _ => ns[k].1 - (intOf i).toNat)
      case atStart => exact ⟨0, rfl, Nat.zero_le _, hR, hB⟩
      case round =>
        clear hR hB
        obtain ⟨j, rfl, hj, hR, hB⟩ := hrel
        obtain ⟨gp, pc, gb, bc, h0, h1, hp, hb⟩ := hR.out k hlt
        by_cases hjl : j < ns[k].1
        · have d2 : decide (j < ns[k].1) = true := decide_eq_true hjl
          obtain ⟨z, hz, hf⟩ := hp.2 j hjl
          have HRW : Hid (∀ z, RowsAt (wr.setCell ⟨gp, j, none⟩ (.int .i64 z)) base g ns ∧ Below base w (wr.setCell ⟨gp, j, none⟩ (.int .i64 z))) := Lib.hid (fun z => ⟨hR.out.put z hz, hB.out.setCell (p := ⟨gp, j, none⟩) hp.1 _⟩)
          clear hp hb
          go_wp2_with fail
          go_roundw
          case rel => exact ⟨j + 1, by go_num, by omega, Lib.hid (HRW.out _).1, Lib.hid (HRW.out _).2⟩
          case measure => simp [intOf]; omega
        · have d2 : decide (j < ns[k].1) = false := decide_eq_false hjl
          clear hp hb
          go_wp2_with fail
          obtain ⟨wo2, rfl⟩ : ∃ wo : World, wo = wr := ⟨_, rfl⟩
          clear h0 h1
          go_loopw [4] (fun i wr => ∃ (j : Nat), i = .int .i64 j ∧ j ≤ ns[k].2 ∧ Hid (RowsAt wr base g ns) ∧ Hid (Below base w wr)) (fun i _ => ns[k].2 - (intOf i).toNat)
          case atStart => exact ⟨0, rfl, Nat.zero_le _, hR, hB⟩
          case round =>
            clear hR hB
            obtain ⟨j, rfl, hj, hR, hB⟩ := hrel
            obtain ⟨gp, pc, gb, bc, h0, h1, hp, hb⟩ := hR.out k hlt
            by_cases hjl : j < ns[k].2
            · have d2 : decide (j < ns[k].2) = true := decide_eq_true hjl
              obtain ⟨z, hz, hf⟩ := hb.2 j hjl
              have HRW : Hid (∀ z, RowsAt (wr.setCell ⟨gb, j, none⟩ (.int .i64 z)) base g ns ∧ Below base w (wr.setCell ⟨gb, j, none⟩ (.int .i64 z))) := Lib.hid (fun z => ⟨hR.out.put z hz, hB.out.setCell (p := ⟨gb, j, none⟩) hb.1 _⟩)
              clear hp hb
              go_wp2_with fail
              go_roundw
              case rel => exact ⟨j + 1, by go_num, by omega, Lib.hid (HRW.out _).1, Lib.hid (HRW.out _).2⟩
              case measure => simp [intOf]; omega
            · have d2 : decide (j < ns[k].2) = false := decide_eq_false hjl
              clear hp hb
              go_wp2_with fail
              go_roundw
              case rel => exact ⟨k + 1, by go_num, hlt, hR, hB⟩
              case measure => simp [intOf]; omega
    · have d1 : decide (k < ns.length) = false := decide_eq_false hlt
      go_wp2_with fail
      go_returns
      exact ⟨⟨_, rfl⟩, hR.out, hB.out⟩
end Go.Proofs.YtpgaimpppehpcabDoor
