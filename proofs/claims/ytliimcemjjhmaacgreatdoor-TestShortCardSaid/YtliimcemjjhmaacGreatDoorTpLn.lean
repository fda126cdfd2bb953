/- A line that is being read (testfile.line): its block, its words, its case's rows; next, mark: the walks. -/
import Derived.Test.YtliimcemjjhmaacGreatDoorTpInt
import Derived.Test.YtliimcemjjhmaacGreatDoorSent
import Derived.StillTailTactics
import Derived.Deep.RegionHeld3
import Derived.Deep.DeepCutAuto
namespace Go.Proofs.YtliimcemjjhmaacGreatDoor
open Go.RowKit Go.Proofs.YtliimcemjjhmaacGreatDoorW.PrintWords

abbrev iK : Kd Int := Kd.int .i64
theorem intInfo : (Tryz.prog.info? 3).map (fun i => (i.zero, i.size, i.bytes)) = some (some (.int .i64 0), 1, 8) := by kernel_rfl
/-- Where the words that are left begin (an empty cut keeps the place). -/
def offW (i n : Nat) : Nat := if i < n then i else n - 1
abbrev lnV (h i n : Nat) (v1 v2 : Value) (wr : Bool) : Array Value := #[.slice (some ⟨h, offW i n, none⟩) (n - i) (n - i), v1, v2, .bool wr]
structure LnSt (w X : World) (g h : Nat) (all : List ByteArray) (i : Nat) (v1 v2 : Value) (p b : List Int) (wr : Bool) : Prop where
  blk : X.heap[g]? = some (.cells (lnV h i all.length v1 v2 wr) 54 (0, 0))
  words : Kd.string.R 9 X w.heap.size (fun _ => True) (.slice (some ⟨h, 0, none⟩) all.length all.length) all
  r1 : iK.R 3 X w.heap.size (fun k => w.heap.size ≤ k ∧ some k ≠ v2.ownBlock) v1 p
  r2 : iK.R 3 X w.heap.size (fun k => w.heap.size ≤ k ∧ some k ≠ v1.ownBlock) v2 b
  hg : w.heap.size ≤ g
  below : Below w.heap.size w X
section
variable {w X Y : World} {g h : Nat} {all : List ByteArray} {i : Nat} {v1 v2 : Value} {p b : List Int} {wr : Bool}
theorem LnSt.step (H : LnSt w X g h all i v1 v2 p b wr) (hb : Below X.heap.size X Y) : LnSt w Y g h all i v1 v2 p b wr :=
  ⟨(hb.block _ (blk_lt H.blk)).trans H.blk, Kd.R_below H.words hb, Kd.R_below H.r1 hb, Kd.R_below H.r2 hb, H.hg, below_step H.below hb⟩
theorem LnSt.drew (H : LnSt w X g h all i v1 v2 p b wr) : LnSt w X.drew g h all i v1 v2 p b wr := H.step (below_drew (Below.refl _ _))
theorem LnSt.cells (H : LnSt w X g h all i v1 v2 p b wr) : X.cell? ⟨g, 0, none⟩ = some (.slice (some ⟨h, offW i all.length, none⟩) (all.length - i) (all.length - i)) ∧ X.cell? ⟨g, 1, none⟩ = some v1 ∧ X.cell? ⟨g, 2, none⟩ = some v2 ∧ X.cell? ⟨g, 3, none⟩ = some (.bool wr) ∧
    X.frozen? ⟨g, 0, none⟩ = false ∧ X.frozen? ⟨g, 1, none⟩ = false ∧ X.frozen? ⟨g, 2, none⟩ = false ∧ X.frozen? ⟨g, 3, none⟩ = false :=
  ⟨(blk_cell H.blk 0).trans rfl, (blk_cell H.blk 1).trans rfl, (blk_cell H.blk 2).trans rfl, (blk_cell H.blk 3).trans rfl, blk_frozen H.blk 0, blk_frozen H.blk 1, blk_frozen H.blk 2, blk_frozen H.blk 3⟩
theorem LnSt.word (H : LnSt w X g h all i v1 v2 p b wr) (hi : i < all.length) : X.cell? ⟨h, i, none⟩ = some (.string all[i]) := by
  obtain ⟨ce, hcl, hM, hcc, hfr⟩ := Kd.R_elem H.words ByteArray.empty (i : Int) (by omega) (by omega)
  have e : all.getD i ByteArray.empty = all[i] := by rw [List.getD_eq_getElem?_getD, List.getElem?_eq_getElem hi]; rfl
  rw [show ((i : Int)).toNat = i from rfl, e] at hM
  have hM' : ce = [.string all[i]] := hM
  subst hM'
  have := hcc 0 _ rfl
  simpa [show (Kd.string).sz = 1 from rfl] using this
theorem LnSt.set (H : LnSt w X g h all i v1 v2 p b wr) (j : Nat) (u : Value) {i' : Nat} {wr' : Bool} (e : (lnV h i all.length v1 v2 wr).setIfInBounds j u = lnV h i' all.length v1 v2 wr') : LnSt w (X.setCell ⟨g, j, none⟩ u) g h all i' v1 v2 p b wr' := by
  refine ⟨blk_put H.blk j u e, ?_, ?_, ?_, H.hg, H.below.setCell (p := ⟨g, j, none⟩) H.hg _⟩
  · exact Kd.R_set H.words H.blk (by decide) j u
  · exact Kd.R_set H.r1 H.blk (by decide) j u
  · exact Kd.R_set H.r2 H.blk (by decide) j u
theorem LnSt.kept1 (H : LnSt w X g h all i v1 v2 p b wr) (hg : X.grownBy Y v1.ownBlock) : Y.heap[g]? = some (.cells (lnV h i all.length v1 v2 wr) 54 (0, 0)) := (hg.block g (blk_lt H.blk) (Kd.R_ne H.r1 H.blk (by decide))).trans H.blk
theorem LnSt.kept2 (H : LnSt w X g h all i v1 v2 p b wr) (hg : X.grownBy Y v2.ownBlock) : Y.heap[g]? = some (.cells (lnV h i all.length v1 v2 wr) 54 (0, 0)) := (hg.block g (blk_lt H.blk) (Kd.R_ne H.r2 H.blk (by decide))).trans H.blk
theorem LnSt.words1 (H : LnSt w X g h all i v1 v2 p b wr) {v : Value} (hv : v = v1 ∨ v = v2) (hg : X.grownBy Y v.ownBlock) : Kd.string.R 9 Y w.heap.size (fun _ => True) (.slice (some ⟨h, 0, none⟩) all.length all.length) all := by
  have hne : ∀ k, v.ownBlock = some k → some k ≠ (Value.slice (some ⟨h, 0, none⟩) all.length all.length).ownBlock := by
    intro k hk
    obtain ⟨q, hq⟩ : ∃ q, iK.R 3 X w.heap.size (fun _ => True) v q := by
      rcases hv with rfl | rfl
      · exact ⟨p, Kd.R_mono H.r1 (fun _ _ => trivial)⟩
      · exact ⟨b, Kd.R_mono H.r2 (fun _ _ => trivial)⟩
    obtain ⟨inner, ho⟩ := Kd.R_own hq
    obtain ⟨cells, hc⟩ := own_typed ho k hk
    exact Kd.R_ne H.words hc (by decide)
  exact Kd.R_mono (Kd.R_grown (row := v.ownBlock) (Kd.R_tight rfl H.words) hg (fun k hk e => hne k e.symm hk)) (fun _ _ => trivial)
theorem LnSt.app1 {v1' : Value} {p' : List Int} (H : LnSt w X g h all i v1 v2 p b wr) (ho : iK.R 3 Y w.heap.size (fun k => w.heap.size ≤ k ∧ some k ≠ v2.ownBlock) v1' p') (hgr : X.grownBy Y v1.ownBlock) (hat : v1'.ownBlock = v1.ownBlock ∨ ∃ b, v1'.ownBlock = some b ∧ X.heap.size ≤ b) (hb : Below w.heap.size w Y) :
    LnSt w (Y.setCell ⟨g, 1, none⟩ v1') g h all i v1' v2 p' b wr := by
  have hb' := H.kept1 hgr
  refine ⟨blk_put hb' 1 _ rfl, Kd.R_set (H.words1 (.inl rfl) hgr) hb' (by decide) 1 _, Kd.R_set ho hb' (by decide) 1 _, ?_, H.hg, hb.setCell (p := ⟨g, 1, none⟩) H.hg _⟩
  exact Kd.R_set (Kd.R_after H.r2 hgr hat) hb' (by decide) 1 _
theorem LnSt.app2 {v2' : Value} {b' : List Int} (H : LnSt w X g h all i v1 v2 p b wr) (ho : iK.R 3 Y w.heap.size (fun k => w.heap.size ≤ k ∧ some k ≠ v1.ownBlock) v2' b') (hgr : X.grownBy Y v2.ownBlock) (hat : v2'.ownBlock = v2.ownBlock ∨ ∃ b, v2'.ownBlock = some b ∧ X.heap.size ≤ b) (hb : Below w.heap.size w Y) :
    LnSt w (Y.setCell ⟨g, 2, none⟩ v2') g h all i v1 v2' p b' wr := by
  have hb' := H.kept2 hgr
  refine ⟨blk_put hb' 2 _ rfl, Kd.R_set (H.words1 (.inr rfl) hgr) hb' (by decide) 2 _, ?_, Kd.R_set ho hb' (by decide) 2 _, H.hg, hb.setCell (p := ⟨g, 2, none⟩) H.hg _⟩
  exact Kd.R_set (Kd.R_after H.r1 hgr hat) hb' (by decide) 2 _
end

set_option maxHeartbeats 4000000 in
theorem next_some {w X : World} {g h : Nat} {all : List ByteArray} {i : Nat} {v1 v2 : Value} {p b : List Int} {wr : Bool} (H : LnSt w X g h all i v1 v2 p b wr) (hi : i < all.length) (hl : all.length ≤ 1048577) :
    Calls Tryz.prog 38 #[.pointer (some ⟨g, 0, none⟩)] X fun e Y => e = .returned (.tuple #[.string all[i], .bool true]) ∧ LnSt w Y g h all (i + 1) v1 v2 p b wr := by
  obtain ⟨z0, z1, z2, z3, f0, f1, f2, f3⟩ := H.cells
  have zw := H.word hi
  rw [show offW i all.length = i from if_pos hi] at z0
  by_cases hlast : i + 1 < all.length
  · have HS := Lib.hid (H.set 0 (.slice (some ⟨h, i + 1, none⟩) (all.length - (i + 1)) (all.length - (i + 1))) (i' := i + 1) (wr' := wr) (by unfold lnV; rw [show offW (i + 1) all.length = i + 1 from if_pos hlast]; rfl))
    rw [show all.length - (i + 1) = all.length - i - 1 by omega] at HS
    have hne : ¬ all.length - i = 1 := by omega
    have hne0 : ¬ all.length - i = 0 := by omega
    clear H
    go_enter Tryz.func38, Tryz.ntmps38
    go_wp2
    go_ret2
    exact ⟨rfl, HS.out⟩
  · have HS := Lib.hid (H.set 0 (.slice (some ⟨h, i, none⟩) 0 0) (i' := i + 1) (wr' := wr) (by unfold lnV; rw [show offW (i + 1) all.length = i by unfold offW; rw [if_neg hlast]; omega, show all.length - (i + 1) = 0 by omega]; rfl))
    rw [show all.length - i = 1 by omega] at z0
    clear H
    go_enter Tryz.func38, Tryz.ntmps38
    go_wp2
    go_ret2
    exact ⟨rfl, HS.out⟩
set_option maxHeartbeats 4000000 in
theorem next_none {w X : World} {g h : Nat} {all : List ByteArray} {v1 v2 : Value} {p b : List Int} {wr : Bool} (H : LnSt w X g h all all.length v1 v2 p b wr) :
    Calls Tryz.prog 38 #[.pointer (some ⟨g, 0, none⟩)] X fun e Y => e = .returned (.tuple #[.string ⟨#[]⟩, .bool false]) ∧ LnSt w Y g h all all.length v1 v2 p b wr := by
  obtain ⟨z0, z1, z2, z3, f0, f1, f2, f3⟩ := H.cells
  rw [Nat.sub_self] at z0
  have HS := Lib.hid H
  clear H
  go_enter Tryz.func38, Tryz.ntmps38
  go_wp2
  go_ret2
  exact ⟨rfl, HS.out⟩
end Go.Proofs.YtliimcemjjhmaacGreatDoor
