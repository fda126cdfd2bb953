/- Small lemmas on strings, endings and worlds. -/
import Derived.WalkKit
import Derived.Lib.IndexBytes
import Derived.Lib.Builder
import Derived.Deep.Draws
import Derived.Lib.Hide
namespace Go.Proofs.YtliimcemjjhmaacGreatDoor
open Go.RowKit

theorem ret_int {k : IntKind} {a b : Int} (h : a = b) : Ending.returned (.int k a) = .returned (.int k b) := by rw [h]
theorem ret_bool {a b : Bool} (h : a = b) : Ending.returned (.bool a) = .returned (.bool b) := by rw [h]
theorem ret_int2 {k k' : IntKind} {a b c d : Int} (h : a = b) (h' : c = d) : Ending.returned (.tuple #[.int k a, .int k' c]) = .returned (.tuple #[.int k b, .int k' d]) := by rw [h, h']
theorem list2 (s : ByteArray) (h : 2 ≤ s.size) : ∃ x r, s.data.toList = x :: s[1] :: r := by
  obtain ⟨⟨l⟩⟩ := s
  match l, h with
  | x :: y :: r, _ => exact ⟨x, r, rfl⟩
theorem list4 (s : ByteArray) (h : 4 ≤ s.size) : ∃ x r, s.data.toList = x :: s[1] :: s[2] :: s[3] :: r := by
  obtain ⟨⟨l⟩⟩ := s
  match l, h with
  | x :: y :: z :: t :: r, _ => exact ⟨x, r, rfl⟩
theorem len_str (s : ByteArray) : s.data.toList.length = s.size := by rw [Array.length_toList]; rfl
theorem drop_at (s : ByteArray) (k : Nat) (h : k < s.size) : s.data.toList.drop k = s[k] :: s.data.toList.drop (k + 1) := by
  rw [List.drop_eq_getElem_cons (by simpa using h)]; rfl
theorem take_at (s : ByteArray) (k : Nat) (h : k < s.size) : s.data.toList.take (k + 1) = s.data.toList.take k ++ [s[k]] := by
  rw [List.take_succ_eq_append_getElem (by simpa using h)]; rfl
theorem drop_end (s : ByteArray) (k : Nat) (h : s.size ≤ k) : s.data.toList.drop k = [] := List.drop_eq_nil_of_le (by rw [len_str]; exact h)
theorem ext_data (s : ByteArray) (k : Nat) : (s.extract k s.size).data.toList = s.data.toList.drop k := Lib.extract_to_end s k
theorem ext_take (s : ByteArray) (k : Nat) : (s.extract 0 k).data.toList = s.data.toList.take k := by rw [Lib.extract_data]; simp
theorem ext_sub (s : ByteArray) (a b : Nat) : (s.extract a b).data.toList = (s.data.toList.drop a).take (b - a) := Lib.extract_data s a b
theorem str_ext {s t : ByteArray} (h : s.data.toList = t.data.toList) : s = t := by
  obtain ⟨⟨l⟩⟩ := s; obtain ⟨⟨m⟩⟩ := t; simp at h; subst h; rfl
theorem str_mk (s : ByteArray) : (⟨s.data.toList.toArray⟩ : ByteArray) = s := str_ext rfl
theorem toL (s : ByteArray) : s.toList = s.data.toList := ByteArray.toList_eq s
theorem str_nil {s : ByteArray} (h : s.size = 0) : s.toList = [] := by rw [toL]; exact List.length_eq_zero_iff.1 (by rw [len_str]; exact h)
theorem str_ne {s : ByteArray} (h : 0 < s.size) : s.toList ≠ [] := by
  intro e; rw [toL] at e; have := len_str s; rw [e] at this; simp at this; omega
theorem str_emp {s : ByteArray} (h : 0 < s.size) : s.toList.isEmpty = false := by
  cases e : s.toList with
  | nil => exact absurd e (str_ne h)
  | cons => rfl
theorem ext_get (s : ByteArray) (k : Nat) (hk : k < s.size) (h : 0 < (s.extract k s.size).size) : (s.extract k s.size)[0] = s[k] := by
  have e := ext_data s k
  rw [drop_at s k hk] at e
  have : (s.extract k s.size).data.toList[0]? = some s[k] := by rw [e]; rfl
  have h2 : (s.extract k s.size).data.toList[0]? = some (s.extract k s.size)[0] := by
    rw [Array.getElem?_toList]
    exact Array.getElem?_eq_getElem (by exact h)
  rw [h2] at this
  exact Option.some.inj this
theorem app_data (x y : ByteArray) : (x ++ y).data.toList = x.data.toList ++ y.data.toList := by simp
theorem app_size (x y : ByteArray) : (x ++ y).size = x.size + y.size := by rw [← len_str, app_data, List.length_append, len_str, len_str]
theorem byte_lt (u : UInt8) : (u.toNat : Int) < 256 := by have := u.toNat_lt; omega
theorem beqI_true {a b : Int} (h : a = b) : (a == b) = true := beq_iff_eq.2 h
theorem beqI_false {a b : Int} (h : a ≠ b) : (a == b) = false := beq_eq_false_iff_ne.2 h
theorem bneI_true {a b : Int} (h : a ≠ b) : (a != b) = true := bne_iff_ne.2 h
theorem bneI_false {a b : Int} (h : a = b) : (a != b) = false := by simp [h]

theorem below_drewN {B : Nat} {w W : World} (h : Below B w W) (n : Nat) : Below B w (W.drewN n) := ⟨h.os, h.tape, h.output, h.size, h.block⟩
theorem below_of_drewN (w : World) (n B : Nat) : Below B w (w.drewN n) := ⟨rfl, rfl, rfl, Nat.le_refl _, fun _ _ => rfl⟩
theorem alloc_cell {w : World} {a : Addr} {v : Value} (h : w.cell? a = some v) (o : Obj) : (w.alloc o).cell? a = some v :=
  (((Below.refl w.heap.size w).alloc (Nat.le_refl _) o).cell (World.block_lt_of_cell? w a h)).trans h
theorem below_step {w W W' : World} (h : Below w.heap.size w W) (k : Below W.heap.size W W') : Below w.heap.size w W' := h.trans (k.mono h.size)
end Go.Proofs.YtliimcemjjhmaacGreatDoor
