/- strings.FieldsFunc at blanks, by bytes. -/
import Derived.Test.YtliimcemjjhmaacGreatDoorStr
import Derived.Lib.FieldsP
import Derived.Lib.SpaceUEq
import Derived.Lib.MapLaws
namespace Go.Proofs.YtliimcemjjhmaacGreatDoor
open Go.RowKit

def blankN (x : Nat) : Bool := x == 32 || x == 9
def blankB (c : UInt8) : Bool := blankN c.toNat
def fieldsB : List UInt8 → List UInt8 → List (List UInt8)
  | [], now => if now = [] then [] else [now]
  | c :: r, now => if blankB c = true then (if now = [] then fieldsB r [] else now :: fieldsB r []) else fieldsB r (now ++ [c])

theorem fieldsB_app : ∀ (x r now : List UInt8), (∀ c ∈ x, blankB c = false) → fieldsB (x ++ r) now = fieldsB r (now ++ x)
  | [], r, now, _ => by simp
  | c :: x, r, now, h => by
    rw [List.cons_append, fieldsB, if_neg (by rw [h c List.mem_cons_self]; decide), fieldsB_app x r _ (fun d hd => h d (List.mem_cons_of_mem _ hd))]
    simp

theorem get_byte (s : ByteArray) (i : Nat) (h : i < s.size) : s.get! i = s[i] := by
  show s.data[i]! = _
  rw [getElem!_pos s.data i h]; rfl

theorem dec_high (s : ByteArray) (pos : Nat) (h : pos < s.size) (ha : 128 ≤ s[pos].toNat) :
    128 ≤ (Utf8.decode s pos).1 ∧ 1 ≤ (Utf8.decode s pos).2 ∧ pos + (Utf8.decode s pos).2 ≤ s.size ∧ ∀ j (hj : pos + j < s.size), j < (Utf8.decode s pos).2 → 128 ≤ s[pos + j].toNat := by
  have hb := get_byte s pos h
  have e := Lib.decode_at s pos
  have hc := Lib.decodeN_conts (s.size - pos) (s.get! pos).toNat (s.get! (pos + 1)).toNat (s.get! (pos + 2)).toNat (s.get! (pos + 3)).toNat
  have hs := Lib.decodeN_shape (s.size - pos) (s.get! pos).toNat (s.get! (pos + 1)).toNat (s.get! (pos + 2)).toNat (s.get! (pos + 3)).toNat
  rw [← e] at hc hs
  have h1 : 128 ≤ (Utf8.decode s pos).1 ∧ 1 ≤ (Utf8.decode s pos).2 := by
    rcases hs with ⟨h0, _⟩ | ⟨_, _, _, h5, h6⟩ | ⟨_, _, _, _, h5, _, h6⟩ | ⟨_, _, _, _, _, h5, _, h6⟩ | h6
    · rw [hb] at h0; omega
    · rw [h6]; exact ⟨h5, (by decide : 1 ≤ 2)⟩
    · rw [h6]; exact ⟨by show 128 ≤ _; omega, (by decide : 1 ≤ 3)⟩
    · rw [h6]; exact ⟨by show 128 ≤ _; omega, (by decide : 1 ≤ 4)⟩
    · rw [h6]; decide
  obtain ⟨c1, c2, c3, c4⟩ := hc
  generalize Utf8.decode s pos = d at *
  refine ⟨h1.1, h1.2, ?_, fun j hj hjd => ?_⟩
  · have : d.2 = 1 ∨ d.2 = 2 ∨ d.2 = 3 ∨ d.2 = 4 := by omega
    rcases this with h | h | h | h
    · omega
    · have := c1 (by omega); omega
    · have := c2 (by omega); omega
    · have := c3 (by omega); omega
  · have : j = 0 ∨ j = 1 ∨ j = 2 ∨ j = 3 := by omega
    rcases this with rfl | rfl | rfl | rfl
    · exact ha
    · have := (c1 (by omega)).1; rw [get_byte s _ hj] at this; omega
    · have := (c2 (by omega)).1; rw [get_byte s _ hj] at this; omega
    · have := (c3 (by omega)).1; rw [get_byte s _ hj] at this; omega

def nowOf (s : ByteArray) (pos : Nat) : Option Nat → List UInt8
  | none => []
  | some a => (s.data.toList.drop a).take (pos - a)
theorem take_more {l : List UInt8} {a p k : Nat} (h : a ≤ p) : (l.drop a).take (p + k - a) = (l.drop a).take (p - a) ++ (l.drop p).take k := by
  rw [show p + k - a = (p - a) + k from by omega, List.take_add, List.drop_drop, show a + (p - a) = p from by omega]

theorem spans_eq (s : ByteArray) : ∀ (n f pos : Nat) (st : Option Nat) (acc : List (Nat × Nat)), s.size - pos ≤ n → s.size - pos ≤ f → (∀ a, st = some a → a < pos ∧ a < s.size) →
    (Lib.closeSpans s (Lib.spansFromP blankN s f pos st acc)).map (fun x => (s.extract x.1 x.2).data.toList) = acc.map (fun x => (s.extract x.1 x.2).data.toList) ++ fieldsB (s.data.toList.drop pos) (nowOf s pos st) := by
  intro n
  induction n with
  | zero =>
    intro f pos st acc hn hf hst
    rw [Lib.spansFromP_end _ _ _ _ _ _ (by omega), drop_end s pos (by omega)]
    cases st with
    | none => simp [Lib.closeSpans, fieldsB, nowOf]
    | some a =>
      have := hst a rfl
      have e : nowOf s pos (some a) = s.data.toList.drop a := by
        show (s.data.toList.drop a).take (pos - a) = _
        exact List.take_of_length_le (by rw [List.length_drop, len_str]; omega)
      have hne : s.data.toList.drop a ≠ [] := by
        intro e; have := congrArg List.length e; rw [List.length_drop, len_str] at this; simp at this; omega
      rw [e, fieldsB, if_neg hne]
      simp [Lib.closeSpans]
      exact List.take_of_length_le (by rw [List.length_drop, len_str]; omega)
  | succ n ih =>
    intro f pos st acc hn hf hst
    rcases Nat.lt_or_ge pos s.size with hlt | hge
    · obtain ⟨f, rfl⟩ : ∃ g, f = g + 1 := ⟨f - 1, by omega⟩
      unfold Lib.spansFromP
      rw [if_pos hlt]
      rcases Nat.lt_or_ge s[pos].toNat 128 with h128 | h128
      · have hd : Utf8.decode s pos = (s[pos].toNat, 1) := decode_ascii s pos hlt h128
        rw [hd]
        simp only
        cases hb : blankN s[pos].toNat with
        | true =>
          rw [if_pos rfl, drop_at s pos hlt, fieldsB, if_pos (show blankB s[pos] = true from hb)]
          cases st with
          | none =>
            simp only
            rw [ih f (pos + 1) none acc (by omega) (by omega) (fun a h => by cases h)]
            simp [nowOf]
          | some a =>
            have := hst a rfl
            simp only
            rw [ih f (pos + 1) none _ (by omega) (by omega) (fun a h => by cases h)]
            have hne : nowOf s pos (some a) ≠ [] := by
              intro e
              have := congrArg List.length (show (s.data.toList.drop a).take (pos - a) = [] from e)
              rw [List.length_take, List.length_drop, len_str] at this; simp at this; omega
            rw [if_neg hne, List.map_append]
            simp [nowOf]
        | false =>
          rw [if_neg (by decide), drop_at s pos hlt, fieldsB, if_neg (by rw [show blankB s[pos] = false from hb]; decide)]
          cases st with
          | none =>
            simp only
            rw [ih f (pos + 1) (some pos) acc (by omega) (by omega) (fun a h => by injection h with h; omega)]
            have : nowOf s (pos + 1) (some pos) = [s[pos]] := by
              show (s.data.toList.drop pos).take (pos + 1 - pos) = _
              rw [drop_at s pos hlt, show pos + 1 - pos = 1 from by omega]; rfl
            rw [this]; rfl
          | some a =>
            have := hst a rfl
            simp only
            rw [ih f (pos + 1) (some a) acc (by omega) (by omega) (fun b h => by injection h with h; omega)]
            have : nowOf s (pos + 1) (some a) = nowOf s pos (some a) ++ [s[pos]] := by
              show (s.data.toList.drop a).take (pos + 1 - a) = (s.data.toList.drop a).take (pos - a) ++ _
              rw [take_more (by omega), drop_at s pos hlt]; rfl
            rw [this]
      · obtain ⟨h1, h2, h3, h4⟩ := dec_high s pos hlt h128
        generalize Utf8.decode s pos = d at *
        have hb : blankN d.1 = false := by unfold blankN; simp; omega
        have hx : s.data.toList.drop pos = (s.data.toList.drop pos).take d.2 ++ s.data.toList.drop (pos + d.2) := by
          rw [← List.drop_drop]; exact (List.take_append_drop _ _).symm
        have hall : ∀ c ∈ (s.data.toList.drop pos).take d.2, blankB c = false := by
          intro c hc
          obtain ⟨j, hj, rfl⟩ := List.getElem_of_mem hc
          rw [List.length_take, List.length_drop, len_str] at hj
          have := h4 j (by omega) (by omega)
          rw [List.getElem_take, List.getElem_drop]
          have e : s.data.toList[pos + j]'(by rw [len_str]; omega) = s[pos + j] := by simp; rfl
          rw [e]; unfold blankB blankN; simp; omega
        rw [hb, if_neg (by decide)]
        rw [hx, fieldsB_app _ _ _ hall]
        cases st with
        | none =>
          simp only
          rw [ih f (pos + d.2) (some pos) acc (by omega) (by omega) (fun a h => by injection h with h; omega)]
          have : nowOf s (pos + d.2) (some pos) = (s.data.toList.drop pos).take d.2 := by
            show (s.data.toList.drop pos).take (pos + d.2 - pos) = _
            rw [show pos + d.2 - pos = d.2 from by omega]
          rw [this]; rfl
        | some a =>
          have := hst a rfl
          simp only
          rw [ih f (pos + d.2) (some a) acc (by omega) (by omega) (fun b h => by injection h with h; omega)]
          have : nowOf s (pos + d.2) (some a) = nowOf s pos (some a) ++ (s.data.toList.drop pos).take d.2 := take_more (by omega)
          rw [this]
    · exact ih f pos st acc (by omega) hf hst

theorem fields_eq (s : ByteArray) : (Lib.goFieldsP blankN s).map (fun x => x.data.toList) = fieldsB s.data.toList [] := by
  have := spans_eq s s.size s.size 0 none [] (by omega) (by omega) (fun a h => by cases h)
  rw [List.drop_zero] at this
  unfold Lib.goFieldsP Lib.spansOfP
  rw [List.map_map]
  exact this
end Go.Proofs.YtliimcemjjhmaacGreatDoor
