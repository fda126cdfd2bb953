/- caesuraref23.pieces, caesuraref4.Bare, caesuraref23.said, scalars: what they compute, in plain words. caesuraref23.said, scalars, caesuraref4.Lines, caesuraref23.Parse: what they compute, in plain words. caesuraref4.Lines, caesuraref23.Parse: what they compute, in plain words. -/
import Derived.Test.YtliimcemjjhmaacGreatDoorTpSpec
namespace Go.Proofs.YtliimcemjjhmaacGreatDoor
section
open Go.RowKit Go.Proofs.YtliimcemjjhmaacGreatDoorW.PrintWords Go.Proofs.YtliimcemjjhmaacGreatDoor.PTestShort

abbrev toB (s : ByteArray) : Bs := s.data.toList
theorem blank_bt (c : UInt8) : blankB c = true ↔ ((c.toNat : Int) = 32 ∨ (c.toNat : Int) = 9) := by
  unfold blankB blankN
  simp only [Bool.or_eq_true, beq_iff_eq]
  omega
theorem nilB {s : ByteArray} : s.toList = ([] : List UInt8) ↔ toB s = [] := by rw [toL]

theorem fieldsB_snoc (c : UInt8) (hc : blankB c = true) : ∀ (x now : Bs), fieldsB (x ++ [c]) now = fieldsB x now
  | [], now => by
    simp only [List.nil_append, fieldsB, hc, if_true]
  | d :: x, now => by
    rw [List.cons_append, fieldsB, fieldsB]
    simp only [fieldsB_snoc c hc x]
theorem fieldsB_now : ∀ (x now : Bs), now ≠ [] → fieldsB x now ≠ []
  | [], now, h => by rw [fieldsB, if_neg h]; simp
  | d :: x, now, h => by
    rw [fieldsB]
    by_cases hb : blankB d = true
    · rw [if_pos hb, if_neg h]; simp
    · rw [if_neg hb]; exact fieldsB_now x _ (by simp)

/-- What Bare hands back. -/
def BareOk (l : Bs) (t : ByteArray) : Prop := fieldsB (toB t) [] = fieldsB l [] ∧ (toB t = [] ↔ fieldsB l [] = []) ∧ (toB t).length ≤ l.length
def sub (s : ByteArray) (a b : Nat) : Bs := ((toB s).drop a).take (b - a)
theorem sub_snoc (s : ByteArray) {a b : Nat} (h : a < b) (hb : b ≤ s.size) : sub s a b = sub s a (b - 1) ++ [s[b - 1]] := by
  unfold sub
  have h1 : ((toB s).drop a)[b - 1 - a]? = some s[b - 1] := by
    rw [List.getElem?_drop, show a + (b - 1 - a) = b - 1 by omega]
    exact dl_get s (b - 1) (by omega)
  rw [show b - a = (b - 1 - a) + 1 by omega, List.take_add_one, h1]; rfl
theorem sub_cons (s : ByteArray) {a b : Nat} (h : a < b) (hb : b ≤ s.size) : sub s a b = s[a] :: sub s (a + 1) b := by
  unfold sub
  rw [drop_at s a (by omega), show b - a = (b - (a + 1)) + 1 by omega, List.take_succ_cons]

theorem takeHash (s : ByteArray) {i : Nat} (h : i < s.size) : (cutHash ((toB s).drop i)).length = if s[i] = 35 then 0 else (cutHash ((toB s).drop (i + 1))).length + 1 := by
  unfold cutHash
  rw [drop_at s i h, List.takeWhile_cons]
  by_cases e : s[i] = 35
  · simp [e]
  · simp [e]
end

section
open Go.RowKit Go.Proofs.YtliimcemjjhmaacGreatDoorW.PrintWords Go.Proofs.YtliimcemjjhmaacGreatDoor.PTestShort

theorem saidW_even : ∀ (l : List Bs) (f : Bool) (p b : List Int), (l.length % 2 = if f = true then 1 else 0) → saidW l f p b = none
  | [], false, _, _, _ => rfl
  | [], true, _, _, h => by simp at h
  | w :: r, false, p, b, h => by
    have h' : r.length % 2 = 1 := by simp only [List.length_cons, Bool.false_eq_true, if_false] at h; omega
    simp only [saidW]
    rw [saidW_even r true _ _ (by simpa using h'), saidW_even r true _ _ (by simpa using h')]
    simp
  | w :: r, true, p, b, h => by
    have h' : r.length % 2 = 0 := by simp only [List.length_cons, if_true] at h; omega
    simp only [saidW]
    cases pointOf w with
    | none => rfl
    | some n => exact saidW_even r false _ _ (by simpa using h')
def saidOut (r : Option (List Int × List Int)) : List Int × List Int × Bool := match r with
  | some pb => (pb.1, pb.2, true)
  | none => ([], [], false)
theorem lit_eq (s : ByteArray) (l : Bs) : s.toList = l ↔ toB s = l := by rw [toL]
theorem fieldsB_len : ∀ (l now : Bs), (fieldsB l now).length ≤ l.length + 1
  | [], now => by rw [fieldsB]; split <;> simp
  | d :: l, now => by
    have h1 := fieldsB_len l []
    have h2 := fieldsB_len l (now ++ [d])
    rw [fieldsB]
    by_cases hb : blankB d = true
    · rw [if_pos hb]
      by_cases hn : now = []
      · rw [if_pos hn, List.length_cons]; omega
      · rw [if_neg hn, List.length_cons, List.length_cons]; omega
    · rw [if_neg hb, List.length_cons]; omega
theorem fieldsB_size : ∀ (l now x : Bs), x ∈ fieldsB l now → x.length ≤ l.length + now.length
  | [], now, x, h => by
    rw [fieldsB] at h
    by_cases hn : now = []
    · rw [if_pos hn] at h; simp at h
    · rw [if_neg hn] at h; simp at h; subst h; omega
  | d :: l, now, x, h => by
    rw [fieldsB] at h
    by_cases hb : blankB d = true
    · rw [if_pos hb] at h
      by_cases hn : now = []
      · rw [if_pos hn] at h
        have := fieldsB_size l [] x h; simp at this ⊢; omega
      · rw [if_neg hn] at h
        rcases List.mem_cons.1 h with rfl | h
        · omega
        · have := fieldsB_size l [] x h; simp at this ⊢; omega
    · rw [if_neg hb] at h
      have := fieldsB_size l (now ++ [d]) x h; simp at this ⊢; omega
end

section
open Go.RowKit Go.Proofs.YtliimcemjjhmaacGreatDoorW.PrintWords Go.Proofs.YtliimcemjjhmaacGreatDoor.PTestShort

theorem sub_nil (s : ByteArray) (a : Nat) : sub s a a = [] := by simp [sub]
theorem dropCR_sub (s : ByteArray) {a b : Nat} (h : a < b) (hb : b ≤ s.size) : dropCR (sub s a b) = if s[b - 1] = 13 then sub s a (b - 1) else sub s a b := by
  unfold dropCR
  rw [sub_snoc s h hb, List.getLast?_append]
  by_cases e : s[b - 1] = 13
  · simp [e]
  · simp [e]
theorem sub_grow (s : ByteArray) {a i : Nat} (h : a ≤ i) (hi : i < s.size) : sub s a (i + 1) = sub s a i ++ [s[i]] := by
  have := sub_snoc s (a := a) (b := i + 1) (by omega) (by omega)
  simpa using this
theorem linesB_len : ∀ (l cur : Bs), (linesB l cur).length ≤ l.length + 1
  | [], _ => by simp [linesB]
  | b :: r, cur => by
    have h1 := linesB_len r []
    have h2 := linesB_len r (cur ++ [b])
    rw [linesB]
    split
    · rw [List.length_cons, List.length_cons]; omega
    · rw [List.length_cons]; omega
theorem dropCR_len (l : Bs) : (dropCR l).length ≤ l.length := by
  unfold dropCR; split <;> simp
theorem linesB_size : ∀ (l cur x : Bs), x ∈ linesB l cur → x.length ≤ l.length + cur.length
  | [], cur, x, h => by simp [linesB] at h; subst h; omega
  | b :: r, cur, x, h => by
    rw [linesB] at h
    split at h
    · rcases List.mem_cons.1 h with rfl | h
      · have := dropCR_len cur; omega
      · have := linesB_size r [] x h; simp at this ⊢; omega
    · have := linesB_size r (cur ++ [b]) x h; simp at this ⊢; omega
theorem saidW_len : ∀ (l : List Bs) (f : Bool) (p b : List Int) (r : List Int × List Int), saidW l f p b = some r → r.1.length ≤ p.length + l.length
  | [], false, _, _, _, h => by simp [saidW] at h
  | [], true, p, b, r, h => by simp [saidW] at h; subst h; simp
  | w :: l, false, p, b, r, h => by
    simp only [saidW] at h
    split at h
    · have := saidW_len l true _ _ r h; simp; omega
    · split at h
      · have := saidW_len l true _ _ r h; simp; omega
      · cases h
  | w :: l, true, p, b, r, h => by
    simp only [saidW] at h
    split at h
    · cases h
    · have := saidW_len l false _ _ r h; simp at this ⊢; omega

end
end Go.Proofs.YtliimcemjjhmaacGreatDoor
