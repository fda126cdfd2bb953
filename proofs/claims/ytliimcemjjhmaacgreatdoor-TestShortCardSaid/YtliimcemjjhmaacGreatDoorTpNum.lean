/- What Parse's answer has: how many cases, how long their lists are, which error. -/
import Derived.Test.YtliimcemjjhmaacGreatDoorTpPl
namespace Go.Proofs.YtliimcemjjhmaacGreatDoor
open Go.RowKit Go.Proofs.YtliimcemjjhmaacGreatDoor.PTestShort

abbrev LensP (cs : List S34) : Prop := ∀ c ∈ cs, c.f0.length ≤ 2097152 ∧ c.f1.length ≤ 2097152
theorem saidW_len2 : ∀ (l : List Bs) (f : Bool) (p b : List Int) (r : List Int × List Int), saidW l f p b = some r → r.2.length ≤ b.length + l.length
  | [], false, _, _, _, h => by simp [saidW] at h
  | [], true, p, b, r, h => by simp [saidW] at h; subst h; simp
  | w :: l, false, p, b, r, h => by
    simp only [saidW] at h
    split at h
    · have := saidW_len2 l true _ _ r h; simp at this ⊢; omega
    · split at h
      · have := saidW_len2 l true _ _ r h; simp; omega
      · cases h
  | w :: l, true, p, b, r, h => by
    simp only [saidW] at h
    split at h
    · cases h
    · have := saidW_len2 l false _ _ r h; simp; omega
theorem fileL_num : ∀ (ls : List Bs) (acc : List S34) (n : Int), (∀ x ∈ ls, x.length ≤ 1048576) → acc.length ≤ 20000 → LensP acc → ∃ cs line en, fileL ls acc n = (cs, line, ((en : Nat) : Int)) ∧ en ≤ 3 ∧ cs.length ≤ 20000 ∧ LensP cs
  | [], acc, n, _, hl, ha => ⟨acc, 0, 0, rfl, by decide, hl, ha⟩
  | s :: r, acc, n, hx, hl, ha => by
    have hr := fun x hm => hx x (List.mem_cons_of_mem _ hm)
    have no : LensP [] := fun c hc => by cases hc
    rw [fileL]
    split
    · exact fileL_num r acc (n + 1) hr hl ha
    · split
      · exact ⟨[], n, 2, rfl, by decide, by decide, no⟩
      · next pb hsd =>
        split
        · split
          · exact ⟨[], n, 3, rfl, by decide, by decide, no⟩
          · refine fileL_num r _ (n + 1) hr (by simp; omega) (fun c hc => ?_)
            rcases List.mem_append.1 hc with hc | hc
            · exact ha c hc
            · rw [List.mem_singleton] at hc
              subst hc
              have h1 := saidW_len _ _ _ _ _ hsd
              have h2 := saidW_len2 _ _ _ _ _ hsd
              have h3 := fieldsB_len (cutHash s) []
              have h4 : (cutHash s).length ≤ s.length := (List.takeWhile_sublist _).length_le
              have h5 := hx s List.mem_cons_self
              rw [show (wordsLn s).length = (fieldsB (cutHash s) []).length from rfl] at h1 h2
              simp only [List.length_nil] at h1 h2
              exact ⟨by show pb.1.length ≤ _; omega, by show pb.2.length ≤ _; omega⟩
        · exact ⟨[], n, 1, rfl, by decide, by decide, no⟩
theorem parse_num (t : Bs) : ∃ cs line en, parseOut t = (cs, line, ((en : Nat) : Int)) ∧ en ≤ 3 ∧ cs.length ≤ 20000 ∧ LensP cs := by
  unfold parseOut
  by_cases h : 1048576 < t.length
  · rw [if_pos h]; exact ⟨[], 0, 3, rfl, by decide, by decide, fun c hc => by cases hc⟩
  · rw [if_neg h]
    exact fileL_num _ [] 1 (fun x hx => by have := linesB_size t [] x hx; simp at this; omega) (by decide) (fun c hc => by cases hc)
end Go.Proofs.YtliimcemjjhmaacGreatDoor
