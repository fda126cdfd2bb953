/- mask.Text: the closures, sort.Search, first, ahead, Out, In: the walks. -/
import Derived.Test.YtpgaimpppehpcaaDoorMaskSpec
import Derived.Test.YtpgaimpppehpcaaDoorStr
import Derived.Test.YtpgaimpppehpcaaDoorSent
import Derived.BigQuiet
import Derived.WalkSpells
import Derived.Outline
import Derived.StillTailTactics
import Derived.Deep.RegionHeld
namespace Go.Proofs.YtpgaimpppehpcaaDoor
open Go.RowKit

/-- A row of pieces at the head of block g. -/
def PiecesAt (w : World) (v : Value) (ps : List Mk.Piece) : Prop :=
  ∃ (A : Option Addr) (c : Nat), v = .slice A ps.length c ∧ ∀ j (h : j < ps.length), ∃ g, A = some ⟨g, 0, none⟩ ∧ g < w.heap.size ∧
    w.cell? ⟨g, j * 3, none⟩ = some (.int .i64 (ps[j].lo : Int)) ∧ w.cell? ⟨g, j * 3 + 1, none⟩ = some (.int .i64 (ps[j].hi : Int)) ∧ w.cell? ⟨g, j * 3 + 2, none⟩ = some (.int .i64 (ps[j].bare : Int))

theorem PiecesAt.below {w w' : World} {v : Value} {ps : List Mk.Piece} (h : PiecesAt w v ps) (hb : Below w.heap.size w w') : PiecesAt w' v ps := by
  obtain ⟨A, c, rfl, h⟩ := h
  refine ⟨A, c, rfl, fun j hj => ?_⟩
  obtain ⟨g, hA, hg, h1, h2, h3⟩ := h j hj
  exact ⟨g, hA, Nat.lt_of_lt_of_le hg hb.size, (hb.cell (p := ⟨g, _, none⟩) hg).trans h1, (hb.cell (p := ⟨g, _, none⟩) hg).trans h2, (hb.cell (p := ⟨g, _, none⟩) hg).trans h3⟩

/-- The struct that New makes. -/
def IsText (w : World) (b : Nat) (s x : ByteArray) (ps : List Mk.Piece) : Prop := b < w.heap.size ∧ w.cell? ⟨b, 0, none⟩ = some (.string s) ∧ w.cell? ⟨b, 1, none⟩ = some (.string x) ∧ ∃ v, w.cell? ⟨b, 2, none⟩ = some v ∧ PiecesAt w v ps

theorem IsText.below {w w' : World} {b : Nat} {s x : ByteArray} {ps : List Mk.Piece} (h : IsText w b s x ps) (hb : Below w.heap.size w w') : IsText w' b s x ps := by
  obtain ⟨hlt, h0, h1, v, h2, hp⟩ := h
  exact ⟨Nat.lt_of_lt_of_le hlt hb.size, (hb.cell (p := ⟨b, 0, none⟩) hlt).trans h0, (hb.cell (p := ⟨b, 1, none⟩) hlt).trans h1, v, (hb.cell (p := ⟨b, 2, none⟩) hlt).trans h2, hp.below hb⟩

def outP (i : Nat) (bh : Bool) (p : Mk.Piece) : Bool := decide (i < p.bare) || (p.bare == i && !bh)
def inP (k : Nat) (p : Mk.Piece) : Bool := decide (k < p.hi)

set_option maxHeartbeats 1000000 in
theorem out1_any (a1 a2 : Addr) (i : Nat) (bh : Bool) (p : Mk.Piece) (w : World) (h1 : w.cell? a1 = some (.int .i64 (i : Int))) (h2 : w.cell? a2 = some (.bool bh)) :
    Calls Tryd.prog 18 #[.agg #[.int .i64 (p.lo : Int), .int .i64 (p.hi : Int), .int .i64 (p.bare : Int)], .pointer (some a1), .pointer (some a2)] w fun e w' => e = .returned (.bool (outP i bh p)) ∧ Below w.heap.size w w' := by
  obtain ⟨b, hb⟩ : ∃ b, p.bare = b := ⟨_, rfl⟩
  have hP : Hid (outP i bh p = (decide (i < b) || (b == i && !bh))) := Lib.hid (by rw [outP, hb])
  rw [hb]
  clear hb
  generalize (p.lo : Int) = lo
  generalize (p.hi : Int) = hi
  have n1 := alloc_cell h1
  have n2 := alloc_cell h2
  rcases Nat.lt_trichotomy i b with h | h | h
  · have c1 : decide (i < b) = true := decide_eq_true (by omega)
    have hF : Hid (outP i bh p = true) := Lib.hid (by rw [hP.out]; simp [h])
    clear h
    go_enter Tryd.func18, Tryd.ntmps18
    go_wp2
    go_ret
    exact ⟨ret_bool hF.out.symm, (Below.refl _ _).alloc (Nat.le_refl _) _⟩
  · subst h
    have hF : Hid (outP i bh p = !bh) := Lib.hid (by rw [hP.out]; simp)
    go_enter Tryd.func18, Tryd.ntmps18
    go_wp2
    go_ret
    exact ⟨ret_bool hF.out.symm, (Below.refl _ _).alloc (Nat.le_refl _) _⟩
  · have c1 : decide (i < b) = false := decide_eq_false (by omega)
    have c2 : ((b : Int) == (i : Int)) = false := beqI_false (by omega)
    have hF : Hid (outP i bh p = false) := Lib.hid (by rw [hP.out, show (b == i) = false from beq_eq_false_iff_ne.2 (by omega)]; simp; omega)
    clear h
    go_enter Tryd.func18, Tryd.ntmps18
    go_wp2
    go_ret
    exact ⟨ret_bool hF.out.symm, (Below.refl _ _).alloc (Nat.le_refl _) _⟩

set_option maxHeartbeats 1000000 in
theorem in1_any (a1 : Addr) (k : Nat) (p : Mk.Piece) (w : World) (h1 : w.cell? a1 = some (.int .i64 (k : Int))) :
    Calls Tryd.prog 20 #[.agg #[.int .i64 (p.lo : Int), .int .i64 (p.hi : Int), .int .i64 (p.bare : Int)], .pointer (some a1)] w fun e w' => e = .returned (.bool (inP k p)) ∧ Below w.heap.size w w' := by
  obtain ⟨b, hb⟩ : ∃ b, p.hi = b := ⟨_, rfl⟩
  have hP : Hid (inP k p = decide (k < b)) := Lib.hid (by rw [inP, hb])
  rw [hb]
  clear hb
  generalize (p.lo : Int) = lo
  generalize (p.bare : Int) = hi
  have n1 := alloc_cell h1
  go_enter Tryd.func20, Tryd.ntmps20
  go_wp2
  go_ret
  exact ⟨ret_bool hP.out.symm, (Below.refl _ _).alloc (Nat.le_refl _) _⟩

/-- What 'first' hands on: a function value that answers a predicate on pieces, in every later world. -/
def Answers (w : World) (f : Value) (q : Mk.Piece → Bool) : Prop :=
  ∀ p W, Below w.heap.size w W → ∃ F cap, f = .func (.func F) #[] cap ∧ (F = 18 ∨ F = 20) ∧
    Calls Tryd.prog F (#[.agg #[.int .i64 (p.lo : Int), .int .i64 (p.hi : Int), .int .i64 (p.bare : Int)]] ++ cap) W fun e W' => e = .returned (.bool (q p)) ∧ Below W.heap.size W W'

set_option maxHeartbeats 2000000 in
theorem first1_any (isA tA : Addr) (Tb : Nat) (f : Value) (q : Mk.Piece → Bool) (s x : ByteArray) (ps : List Mk.Piece) (j : Nat) (hj : j < ps.length) (w : World)
    (h1 : w.cell? isA = some f) (h2 : w.cell? tA = some (.pointer (some ⟨Tb, 0, none⟩))) (ht : IsText w Tb s x ps) (hf : Answers w f q) :
    Calls Tryd.prog 24 #[.int .i64 (j : Int), .pointer (some isA), .pointer (some tA)] w fun e w' => e = .returned (.bool (q ps[j])) ∧ Below w.heap.size w w' := by
  obtain ⟨hlt, hc0, hc1, v, hc2, A, c, rfl, hp⟩ := ht
  obtain ⟨g, rfl, hg, k0, k1, k2⟩ := hp j hj
  clear hc0 hc1 hp
  obtain ⟨F, cap, rfl, hF, hcall⟩ := hf ps[j] w.drew (below_of_drewN w 1 _)
  have HC := Lib.hid hcall
  have HF := Lib.hid hf
  clear hf hcall
  go_enter Tryd.func24, Tryd.ntmps24
  go_wp2_with fail
  go_still_tail 8, (by kernel_rfl)
  change wpList _ _ _ _ _ w.drew
  rcases hF with rfl | rfl
  all_goals
    go_wp2_with fail
    refine HC.out.mono ?_
    rintro e w' ⟨rfl, hb⟩
    go_wp2_with fail
    go_ret
    exact ⟨rfl, (below_of_drewN w 1 _).trans hb⟩
end Go.Proofs.YtpgaimpppehpcaaDoor
