/- The lines of a text, one cut at a time. -/
import Derived.Test.YtliimcemjjhmaaaDoorTpSpec2
namespace Go.Proofs.YtliimcemjjhmaaaDoor
open Go.Proofs.YtliimcemjjhmaaaDoor.PTestParses

theorem linesB_cut : ∀ (l cur : Bs), linesB l cur = if (10 : UInt8) ∈ l then dropCR (cur ++ l.takeWhile (· != 10)) :: linesB (l.dropWhile (· != 10)).tail [] else [cur ++ l]
  | [], cur => by simp [linesB]
  | b :: r, cur => by
    rw [linesB]
    by_cases h : b = 10
    · subst h
      simp
    · rw [if_neg h, linesB_cut r (cur ++ [b])]
      by_cases hm : (10 : UInt8) ∈ r
      · rw [if_pos hm, if_pos (List.mem_cons_of_mem _ hm)]
        simp [h]
      · rw [if_neg hm, if_neg (fun h' => (List.mem_cons.1 h').elim (fun e => h e.symm) hm)]
        simp
theorem fileL_end (acc : List S40) (n : Int) : fileL (linesB [] []) acc n = (acc, 0, 0) := by
  simp [linesB, fileL, wordsLn, cutHash, fieldsB]
end Go.Proofs.YtliimcemjjhmaaaDoor
