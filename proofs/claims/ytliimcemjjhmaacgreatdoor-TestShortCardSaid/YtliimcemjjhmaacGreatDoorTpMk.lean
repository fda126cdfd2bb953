/- testfile.mark: the walk. -/
import Derived.Test.YtliimcemjjhmaacGreatDoorTpLn
import Derived.Deep.RegionLaw
namespace Go.Proofs.YtliimcemjjhmaacGreatDoor
open Go.RowKit Go.Proofs.YtliimcemjjhmaacGreatDoorW.PrintWords

def errF (a : Nat → Addr) (n : Nat) : Value := .iface 41 (.agg #[errV a n])
theorem str_is {s : ByteArray} {l : Bs} (h : toB s = l) : s = ⟨l.toArray⟩ := str_ext (by rw [← h])

set_option maxHeartbeats 8000000 in
set_option maxRecDepth 100000 in
theorem mark_no {w X : World} {g h : Nat} {all : List ByteArray} {i : Nat} {v1 v2 : Value} {p b : List Int} {wr : Bool} (H : LnSt w X g h all i v1 v2 p b wr) (hi : i < all.length) (hl : all.length ≤ 1048577) (hw : toB all[i] = [195, 151]) :
    Calls Tryz.prog 22 #[.pointer (some ⟨g, 0, none⟩)] X fun e Y => e = .returned (.tuple #[.func (.func 39) #[] #[], .nilIface]) ∧ LnSt w Y g h all (i + 1) v1 v2 p b wr := by
  have HN := Lib.hid (next_some H hi hl)
  rw [str_is hw] at HN
  go_enter Tryz.func22, Tryz.ntmps22
  go_wp2_with (go_at_call 38; refine HN.out.mono ?_; rintro e Y ⟨rfl, HL⟩; have HL1 := Lib.hid HL; clear HL)
  go_ret2
  exact ⟨rfl, HL1.out⟩
set_option maxHeartbeats 8000000 in
set_option maxRecDepth 100000 in
theorem mark_bad (a : Nat → Addr) {w X : World} {g h : Nat} {all : List ByteArray} {i : Nat} {v1 v2 : Value} {p b : List Int} {wr : Bool} (H : LnSt w X g h all i v1 v2 p b wr) (hi : i < all.length) (hl : all.length ≤ 1048577) (hy : toB all[i] ≠ [195, 183]) (hn : toB all[i] ≠ [195, 151]) (hs : Sent a w) :
    Calls Tryz.prog 22 #[.pointer (some ⟨g, 0, none⟩)] X fun e Y => e = .returned (.tuple #[.nilFunc, errF a 2]) ∧ Below w.heap.size w Y := by
  have HN := Lib.hid (next_some H hi hl)
  have HS := Lib.hid hs
  generalize all[i] = s at HN hy hn
  have d1 : (s.toList == ([195, 183] : List UInt8)) = false := beq_eq_false_iff_ne.2 (fun e => hy ((lit_eq s _).1 e))
  have d2 : (s.toList == ([195, 151] : List UInt8)) = false := beq_eq_false_iff_ne.2 (fun e => hn ((lit_eq s _).1 e))
  clear hy hn
  go_enter Tryz.func22, Tryz.ntmps22
  go_wp2_with (go_at_call 38; refine HN.out.mono ?_; rintro e Y ⟨rfl, HL⟩; have HL1 := Lib.hid HL; clear HL; have c2 : Y.cell? ⟨3, 0, none⟩ = some (.iface 130 (.pointer (some (a 2)))) := (HS.out.below HL1.out.below).cell 2 (by decide))
  go_region_held3 (fun w' => w'.cell? ⟨3, 0, none⟩ = some (.iface 130 (.pointer (some (a 2))))) (first | exact c2 | (go_keep; done)) (fail)
  go_wp2_with fail
  go_ret2
  exact ⟨rfl, below_drewN HL1.out.below 1⟩
set_option maxHeartbeats 8000000 in
set_option maxRecDepth 100000 in
theorem mark_end (a : Nat → Addr) {w X : World} {g h : Nat} {all : List ByteArray} {v1 v2 : Value} {p b : List Int} {wr : Bool} (H : LnSt w X g h all all.length v1 v2 p b wr) (hs : Sent a w) :
    Calls Tryz.prog 22 #[.pointer (some ⟨g, 0, none⟩)] X fun e Y => e = .returned (.tuple #[.nilFunc, errF a 2]) ∧ Below w.heap.size w Y := by
  have HN := Lib.hid (next_none H)
  have HS := Lib.hid hs
  go_enter Tryz.func22, Tryz.ntmps22
  go_wp2_with (go_at_call 38; refine HN.out.mono ?_; rintro e Y ⟨rfl, HL⟩; have HL1 := Lib.hid HL; clear HL; have c2 : Y.cell? ⟨3, 0, none⟩ = some (.iface 130 (.pointer (some (a 2)))) := (HS.out.below HL1.out.below).cell 2 (by decide))
  go_region_held3 (fun w' => w'.cell? ⟨3, 0, none⟩ = some (.iface 130 (.pointer (some (a 2))))) (first | exact c2 | (go_keep; done)) (fail)
  go_wp2_with fail
  go_ret2
  exact ⟨rfl, below_drewN HL1.out.below 1⟩
set_option maxHeartbeats 8000000 in
set_option maxRecDepth 100000 in
theorem mark_yes {w X : World} {g h : Nat} {all : List ByteArray} {i : Nat} {v1 v2 : Value} {p b : List Int} {wr : Bool} (H : LnSt w X g h all i v1 v2 p b wr) (hi : i < all.length) (hl : all.length ≤ 1048577) (hb : b.length ≤ 1048577) (_hp : p.length ≤ 1048577) (hw : toB all[i] = [195, 183]) :
    Calls Tryz.prog 22 #[.pointer (some ⟨g, 0, none⟩)] X fun e Y => e = .returned (.tuple #[.func (.func 39) #[] #[], .nilIface]) ∧ ∃ v2', LnSt w Y g h all (i + 1) v1 v2' p (b ++ [(p.length : Int)]) wr := by
  obtain ⟨A1, c1, rfl⟩ := Kd.R_slice H.r1
  obtain ⟨A2, c2, rfl⟩ := Kd.R_slice H.r2
  have HN := Lib.hid (next_some H hi hl)
  rw [str_is hw] at HN
  clear H
  go_enter Tryz.func22, Tryz.ntmps22
  go_wp2_with (go_at_call 38; refine HN.out.mono ?_; rintro e Y ⟨rfl, HL⟩; have HL1 := Lib.hid HL; clear HL; skip)
  have HX := Lib.hid HL1.out.drew
  have HA := Lib.hid (HL1.out.drew.step ((Below.refl _ _).alloc (Nat.le_refl _) (.cells #[.int .i64 (p.length : Int)] 3)))
  obtain ⟨z0, z1, z2, z3, f0, f1, f2, f3⟩ := HL1.out.cells
  obtain ⟨y0, y1, y2, y3, g0, g1, g2, g3⟩ := HA.out.cells
  have yy : ∀ (o : Obj), (World.alloc Y.drew o).cell? ⟨g, 2, none⟩ = some (.slice A2 b.length c2) := fun o => alloc_cell (show Y.drew.cell? ⟨g, 2, none⟩ = _ from z2) o
  have yy2 : ∀ (o : Obj), (World.alloc { Y with drawn := Y.drawn + 1 } o).cell? ⟨g, 2, none⟩ = some (.slice A2 b.length c2) := yy
  have yy3 : ∀ (o : Obj), (Y.alloc o).cell? ⟨g, 2, none⟩ = some (.slice A2 b.length c2) := fun o => alloc_cell z2 o
  have yy4 : ∀ (o : Obj), (World.drew (Y.alloc o)).cell? ⟨g, 2, none⟩ = some (.slice A2 b.length c2) := yy3
  go_region_law ((refine Kd.R_append_step iK (w0 := w) (W := Y.drew) w.heap.size (by rfl) (.tmp 22) (.tmp 29) 32 3 (.int .i64 0) 8 (by rfl) Tryz.underlying32 intInfo rfl (by decide) (by decide) (.slice A2 b.length c2) b (p.length : Int) [.int .i64 (p.length : Int)] (fun k => w.heap.size ≤ k ∧ some k ≠ (Value.slice A1 p.length c1).ownBlock) (fun _ => False) (by rfl) (by rfl) rfl (fun _ h => h.elim) ?hf HX.out.r2 HX.out.below HX.out.below.size (by omega) ?_; (case hf => exact fun k hk => ⟨Nat.le_trans HX.out.below.size hk, fun e => by have := Kd.R_lt HX.out.r1 k e.symm; omega⟩); intro v' w8 ho hb' hg' hat; obtain ⟨Ao, co, rfl⟩ := Kd.R_slice ho; have hbk := HX.out.kept2 hg'; have k1 : w8.cell? ⟨g, 1, none⟩ = some (.slice A1 p.length c1) := (blk_cell hbk 1).trans rfl; have k2 : w8.cell? ⟨g, 2, none⟩ = some (.slice A2 b.length c2) := (blk_cell hbk 2).trans rfl; have kf := blk_frozen hbk 2; have HZ := Lib.hid (HX.out.app2 ho hg' hat hb'); simp only [List.length_append, List.length_singleton] at HZ; clear ho hb' hg' hat hbk))
  all_goals go_wp2_with fail
  all_goals go_ret2
  all_goals exact ⟨rfl, _, HZ.out⟩
end Go.Proofs.YtliimcemjjhmaacGreatDoor
