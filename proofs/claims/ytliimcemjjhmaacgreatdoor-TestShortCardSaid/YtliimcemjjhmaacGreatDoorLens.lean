/- Cases with short lists; what Print answers of them. -/
import Derived.Test.YtliimcemjjhmaacGreatDoorTestPp
namespace Go.Proofs.YtliimcemjjhmaacGreatDoor
open Go.RowKit Go.Proofs.YtliimcemjjhmaacGreatDoorW.PrintWords

def LensOk (cs : List Case) : Prop := ∀ k (h : k < cs.length), cs[k].1.length ≤ 2097152 ∧ cs[k].2.length ≤ 2097152
theorem LensOk.raw {cs : List Case} (h : LensOk cs) : ∀ k (h : k < cs.length), cs[k].1.length ≤ 2097152 ∧ cs[k].2.length ≤ 2097152 := h
theorem LensOk.small {cs : List Case} (h : LensOk cs) : SmallC cs := fun k hk => (h k hk).1
theorem LensOk.big {cs : List Case} (h : LensOk cs) : ∀ k (h : k < cs.length), cs[k].1.length ≤ 1099511627776 ∧ cs[k].2.length ≤ 1099511627776 := fun k hk => by have := h k hk; omega

theorem out_le (cs : List Case) : (printOut cs).2 ≤ 11 := by unfold printOut; (repeat' split) <;> simp

/-- What is printed, by two names. -/
structure OutIs (cs : List Case) (X : ByteArray) (N : Nat) : Prop where
  x : X.data.toList = (printOut cs).1
  n : N = (printOut cs).2
theorem OutIs.get (cs : List Case) : ∃ X N, OutIs cs X N ∧ N ≤ 11 := ⟨⟨(printOut cs).1.toArray⟩, (printOut cs).2, ⟨rfl, rfl⟩, out_le cs⟩
theorem OutIs.of {cs : List Case} {X : ByteArray} {N : Nat} (o : OutIs cs X N) {mk : Nat → Value} {w w' : World} {e : Ending} (h : PrintPost cs mk w e w') : e = .returned (.tuple #[.string X, mk N]) ∧ Below w.heap.size w w' := by
  obtain ⟨⟨x, he, hx⟩, hb⟩ := h
  rw [o.n, str_ext (o.x.trans hx.symm)]
  exact ⟨he, hb⟩
theorem CasesAt.below {w w' : World} {A : Option Addr} {cs : List Case} (h : CasesAt w A cs) (hb : Below w.heap.size w w') : CasesAt w' A cs := fun k hk => by
  obtain ⟨ad, v0, v1, e, h0, h1, hv⟩ := h k hk
  exact ⟨ad, v0, v1, e, (hb.cell (World.block_lt_of_cell? w _ h0)).trans h0, (hb.cell (World.block_lt_of_cell? w _ h1)).trans h1, hv.below hb⟩
theorem choose_list {α : Type} {P : Nat → α → Prop} : ∀ n, (∀ i, i < n → ∃ c, P i c) → ∃ cs : List α, cs.length = n ∧ ∀ i (h : i < cs.length), P i cs[i]
  | 0, _ => ⟨[], rfl, fun i h => by simp at h⟩
  | n + 1, h => by
    obtain ⟨cs, hl, hc⟩ := choose_list n (fun i hi => h i (by omega))
    obtain ⟨c, hP⟩ := h n (by omega)
    refine ⟨cs ++ [c], by simp [hl], fun i hi => ?_⟩
    rw [List.length_append, List.length_singleton] at hi
    rcases Nat.lt_or_ge i cs.length with h' | h'
    · rw [List.getElem_append_left h']; exact hc i h'
    · obtain rfl : i = n := by omega
      rw [List.getElem_append_right (by omega)]; simpa [hl] using hP

end Go.Proofs.YtliimcemjjhmaacGreatDoor
