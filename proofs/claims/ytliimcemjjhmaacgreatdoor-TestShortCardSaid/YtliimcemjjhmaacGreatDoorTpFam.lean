/- Lists of whole numbers in rows that lie apart (Fam), and the cases that have them (CasesOwn). -/
import Derived.Test.YtliimcemjjhmaacGreatDoorTpLn
import Derived.Test.YtliimcemjjhmaacGreatDoorTpPl
import Derived.Test.YtliimcemjjhmaacGreatDoorWKept
import Derived.Test.YtliimcemjjhmaacGreatDoorWApart
namespace Go.Proofs.YtliimcemjjhmaacGreatDoor
open Go.RowKit Go.Proofs.YtliimcemjjhmaacGreatDoorW.PrintWords Go.Proofs.YtliimcemjjhmaacGreatDoor.PTestShort

abbrev IRow := Value × List Int
structure Fam (W : World) (base : Nat) (L : List IRow) : Prop where
  rows : ∀ p ∈ L, iK.R 3 W base (fun k => some k = p.1.ownBlock) p.1 p.2
  apart : L.Pairwise (fun p q => ∀ k, some k = p.1.ownBlock → some k ≠ q.1.ownBlock)
section
variable {W X Y : World} {base b : Nat} {L M : List IRow}
theorem iK_self {ok : Nat → Prop} {v : Value} {xs : List Int} (h : iK.R 3 W base ok v xs) : iK.R 3 W base (fun k => some k = v.ownBlock) v xs := ⟨fun _ hk => hk.symm, h.2⟩
theorem Fam.nil (W : World) (base : Nat) : Fam W base [] := ⟨(fun _ h => by cases h), List.Pairwise.nil⟩
theorem Fam.lower (h : Fam W base L) (hb : b ≤ base) : Fam W b L := ⟨fun p hp => Kd.R_lower (h.rows p hp) hb, h.apart⟩
theorem Fam.below (h : Fam W base L) (hb : Below W.heap.size W X) : Fam X base L := ⟨fun p hp => Kd.R_below (h.rows p hp) hb, h.apart⟩
def InFam (L : List IRow) (k : Nat) : Prop := ∃ p ∈ L, some k = p.1.ownBlock
theorem Fam.lt (h : Fam W base L) {k : Nat} (hk : InFam L k) : base ≤ k ∧ k < W.heap.size := by
  obtain ⟨p, hp, e⟩ := hk
  exact ⟨Kd.R_base (h.rows p hp) k e.symm, Kd.R_lt (h.rows p hp) k e.symm⟩
theorem Fam.typed (h : Fam W base L) {k : Nat} (hk : InFam L k) : ∃ cells, W.heap[k]? = some (.cells cells 3 (0, 0)) := by
  obtain ⟨p, hp, e⟩ := hk
  exact Kd.R_typed (h.rows p hp) k e.symm
theorem Fam.keptBy {S : Nat → Prop} (h : Fam W base L) (hk : Kept W X S) (hS : ∀ k, InFam L k → ¬ S k) : Fam X base L :=
  ⟨fun p hp => Kd.R_kept (h.rows p hp) hk (fun k e => hS k ⟨p, hp, e⟩), h.apart⟩
theorem Fam.app (h : Fam W base L) (k : Fam W base M) (hd : ∀ j, InFam L j → ¬ InFam M j) : Fam W base (L ++ M) := by
  refine ⟨fun p hp => (List.mem_append.1 hp).elim (h.rows p) (k.rows p), List.pairwise_append.2 ⟨h.apart, k.apart, fun p hp q hq j e e' => hd j ⟨p, hp, e⟩ ⟨q, hq, e'⟩⟩⟩
theorem InFam.app {k : Nat} : InFam (L ++ M) k ↔ InFam L k ∨ InFam M k := by
  unfold InFam
  constructor
  · rintro ⟨p, hp, e⟩
    exact (List.mem_append.1 hp).elim (fun h => .inl ⟨p, h, e⟩) (fun h => .inr ⟨p, h, e⟩)
  · rintro (⟨p, hp, e⟩ | ⟨p, hp, e⟩)
    · exact ⟨p, List.mem_append_left _ hp, e⟩
    · exact ⟨p, List.mem_append_right _ hp, e⟩
/-- Elder ones, and what was made since. -/
theorem Fam.new (h : Fam W base L) (hb : Below W.heap.size W X) (k : Fam X W.heap.size M) (hw : base ≤ W.heap.size) : Fam X base (L ++ M) :=
  Fam.app (h.below hb) (k.lower hw) (fun j h1 h2 => by have := h.lt h1; have := k.lt h2; omega)
theorem Fam.form (h : Fam W base L) {p : IRow} (hp : p ∈ L) : ∃ A c, p.1 = .slice A p.2.length c := Kd.R_slice (h.rows p hp)
end

/-- The rows of a list of cases. -/
abbrev Hd := Value × Value
def hdV (h : Hd) : List Value := [h.1, h.2]
def flatR : List Hd → List S34 → List IRow
  | h :: hs, c :: cs => (h.1, c.f0) :: (h.2, c.f1) :: flatR hs cs
  | _, _ => []
theorem flatR_app : ∀ {hs hs' : List Hd} {cs cs' : List S34}, hs.length = cs.length → flatR (hs ++ hs') (cs ++ cs') = flatR hs cs ++ flatR hs' cs'
  | [], hs', [], cs', _ => rfl
  | h :: hs, hs', c :: cs, cs', e => by
    simp only [List.cons_append, flatR]
    rw [flatR_app (by simpa using e)]
abbrev rK (n : Nat) : Kd (List Value) := Kd.raw n
structure CasesOwn (W : World) (base : Nat) (v : Value) (hs : List Hd) (cs : List S34) : Prop where
  row : (rK 2).R 34 W base (fun k => some k = v.ownBlock) v (hs.map hdV)
  len : hs.length = cs.length
  fam : Fam W base (flatR hs cs)
section
variable {W X Y : World} {base b : Nat} {v : Value} {hs : List Hd} {cs : List S34}
theorem CasesOwn.nil (W : World) (base : Nat) : CasesOwn W base (.slice none 0 0) [] [] := ⟨Kd.R_nil _ _ _ _ _, rfl, Fam.nil _ _⟩
theorem CasesOwn.below (h : CasesOwn W base v hs cs) (hb : Below W.heap.size W X) : CasesOwn X base v hs cs := ⟨Kd.R_below h.row hb, h.len, h.fam.below hb⟩
theorem CasesOwn.lower (h : CasesOwn W base v hs cs) (hb : b ≤ base) : CasesOwn W b v hs cs := ⟨Kd.R_lower h.row hb, h.len, h.fam.lower hb⟩
theorem CasesOwn.form (h : CasesOwn W base v hs cs) : ∃ A c, v = .slice A cs.length c := by
  obtain ⟨A, c, e⟩ := Kd.R_slice h.row
  exact ⟨A, c, by rw [e, List.length_map, h.len]⟩
theorem flatR_at : ∀ {hs : List Hd} {cs : List S34} (i : Nat) (h1 : i < hs.length) (h2 : i < cs.length), (hs[i].1, cs[i].f0) ∈ flatR hs cs ∧ (hs[i].2, cs[i].f1) ∈ flatR hs cs
  | h :: hs, c :: cs, 0, _, _ => ⟨by simp [flatR], by simp [flatR]⟩
  | h :: hs, c :: cs, i + 1, h1, h2 => by
    obtain ⟨a, b⟩ := flatR_at (hs := hs) (cs := cs) i (by simpa using h1) (by simpa using h2)
    exact ⟨List.mem_cons_of_mem _ (List.mem_cons_of_mem _ a), List.mem_cons_of_mem _ (List.mem_cons_of_mem _ b)⟩
end
end Go.Proofs.YtliimcemjjhmaacGreatDoor
