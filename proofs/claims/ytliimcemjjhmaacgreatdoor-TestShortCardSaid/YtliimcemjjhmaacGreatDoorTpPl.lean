/- strings.TrimSuffix at "\r", in plain words. The lines of a text, one cut at a time. -/
import Derived.Test.YtliimcemjjhmaacGreatDoorTpSpec2
import Derived.Test.YtliimcemjjhmaacGreatDoorTpTrim
namespace Go.Proofs.YtliimcemjjhmaacGreatDoor
section
open Go.RowKit Go.Proofs.YtliimcemjjhmaacGreatDoorW.PrintWords Go.Proofs.YtliimcemjjhmaacGreatDoor.PTestShort

theorem cr_size : (⟨#[13]⟩ : ByteArray).size = 1 := rfl
theorem cr_list : (⟨#[13]⟩ : ByteArray).toList = [13] := by rw [toL]
theorem suffix_f (s : ByteArray) (hs : s.size ≤ 1048576) : stringslite_HasSuffix.f s ⟨#[13]⟩ = some (decide ((toB s).getLast? = some 13)) := by
  unfold stringslite_HasSuffix.f
  rw [cr_size]
  by_cases h : 1 ≤ s.size
  · rw [if_pos (by omega), wrap_at (by omega), if_pos (by omega), if_pos (by omega), show ((s.size : Int) - ((1 : Nat) : Int)).toNat = s.size - 1 by omega, cr_list]
    congr 1
    have e : (s.extract (s.size - 1) s.size).toList = [s[s.size - 1]] := by
      rw [toL, ext_data, drop_at s (s.size - 1) (by omega), drop_end s (s.size - 1 + 1) (by omega)]
    have e2 : (toB s).getLast? = some s[s.size - 1] := by
      rw [List.getLast?_eq_getElem?, len_str]; exact dl_get s (s.size - 1) (by omega)
    rw [e, e2]
    by_cases h13 : s[s.size - 1] = 13
    · simp [h13]
    · simp [h13]
  · rw [if_neg (by omega)]
    have : toB s = [] := List.length_eq_zero_iff.1 (by rw [len_str]; omega)
    rw [this]; rfl
theorem trim_any (s : ByteArray) (hs : s.size ≤ 1048576) (w : World) : Calls Tryz.prog 9 #[.string s, .string ⟨#[13]⟩] w fun e w' => (∃ t, e = .returned (.string t) ∧ toB t = dropCR (toB s)) ∧ Below w.heap.size w w' := by
  have hf : ∃ t, strings_TrimSuffix.f s ⟨#[13]⟩ = some t ∧ toB t = dropCR (toB s) := by
    unfold strings_TrimSuffix.f stringslite_TrimSuffix.f dropCR
    rw [suffix_f s hs, Option.bind_some]
    by_cases h : (toB s).getLast? = some 13
    · have hne : 1 ≤ s.size := by
        rcases Nat.eq_zero_or_pos s.size with h0 | h0
        · have : toB s = [] := List.length_eq_zero_iff.1 (by rw [len_str]; exact h0)
          rw [this] at h; cases h
        · exact h0
      rw [if_pos (decide_eq_true h), cr_size, wrap_at (by omega), if_pos (by omega), if_pos (by omega), Option.bind_some, if_pos h, show ((s.size : Int) - ((1 : Nat) : Int)).toNat = s.size - 1 by omega]
      exact ⟨_, rfl, by rw [show toB (s.extract 0 (s.size - 1)) = (toB s).take (s.size - 1) from ext_take s _, List.dropLast_eq_take, len_str]⟩
    · rw [if_neg (by rw [decide_eq_false h]; decide), Option.bind_some, if_neg h]
      exact ⟨_, rfl, rfl⟩
  obtain ⟨t, h1, h2⟩ := hf
  exact (strings_TrimSuffix.calls s ⟨#[13]⟩ t w h1).mono fun e w' ⟨he, hd⟩ => ⟨⟨t, he, h2⟩, hd.below⟩
end

section
open Go.Proofs.YtliimcemjjhmaacGreatDoor.PTestShort

theorem linesB_cut : ∀ (l cur : Bs), linesB l cur = if (10 : UInt8) ∈ l then dropCR (cur ++ l.takeWhile (· != 10)) :: linesB (l.dropWhile (· != 10)).tail [] else [cur ++ l]
  | [], cur => by simp [linesB]
  | b :: r, cur => by
    rw [linesB]
    by_cases h : b = 10
    · subst h
      simp
    · rw [if_neg h, linesB_cut r (cur ++ [b])]
      by_cases hm : (10 : UInt8) ∈ r
      · rw [if_pos hm, if_pos (List.mem_cons_of_mem _ hm)]
        simp [h]
      · rw [if_neg hm, if_neg (fun h' => (List.mem_cons.1 h').elim (fun e => h e.symm) hm)]
        simp
theorem fileL_end (acc : List S34) (n : Int) : fileL (linesB [] []) acc n = (acc, 0, 0) := by
  simp [linesB, fileL, wordsLn, cutHash, fieldsB]
end
end Go.Proofs.YtliimcemjjhmaacGreatDoor
