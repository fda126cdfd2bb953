/- strings.Cut at a separator of one byte, every string. -/
import Derived.Test.YtliimcemjjhmaacGreatDoorShelf
import Derived.Test.YtliimcemjjhmaacGreatDoorStr
import Derived.BigQuiet
namespace Go.Proofs.YtliimcemjjhmaacGreatDoor
open Go.RowKit

theorem indexByte_no {l : List UInt8} {c : UInt8} (h : c ∉ l) : Lib.indexByte l c = -1 := by
  induction l with
  | nil => rfl
  | cons b l ih =>
    have hb : ¬ b = c := fun e => h (by simp [e])
    have := ih (fun hm => h (List.mem_cons_of_mem _ hm))
    simp [Lib.indexByte, hb, this]
theorem indexByte_yes {l : List UInt8} {c : UInt8} (h : c ∈ l) : Lib.indexByte l c = ((l.takeWhile (· != c)).length : Int) := by
  induction l with
  | nil => cases h
  | cons b l ih =>
    by_cases hb : b = c
    · subst hb; simp [Lib.indexByte]
    · have hm : c ∈ l := by
        rcases List.mem_cons.1 h with e | e
        · exact absurd e.symm hb
        · exact e
      have e := ih hm
      have hn : ¬ Lib.indexByte l c = -1 := by rw [e]; omega
      have e1 : Lib.indexByte (b :: l) c = Lib.indexByte l c + 1 := by
        show (if (b == c) = true then (0 : Int) else if (Lib.indexByte l c == -1) = true then -1 else Lib.indexByte l c + 1) = _
        rw [if_neg (by simpa using hb), if_neg (by simpa using hn)]
      rw [e1, e]
      simp [hb]
theorem takeWhile_lt {l : List UInt8} {c : UInt8} (h : c ∈ l) : (l.takeWhile (· != c)).length < l.length := by
  induction l with
  | nil => cases h
  | cons b l ih =>
    by_cases hb : b = c
    · subst hb; simp
    · have hm : c ∈ l := by
        rcases List.mem_cons.1 h with e | e
        · exact absurd e.symm hb
        · exact e
      have := ih hm
      simp [hb]; omega
theorem take_takeWhile (l : List UInt8) (p : UInt8 → Bool) : l.take (l.takeWhile p).length = l.takeWhile p := by
  induction l with
  | nil => rfl
  | cons b l ih => by_cases h : p b <;> simp [h, ih]
theorem drop_takeWhile (l : List UInt8) (p : UInt8 → Bool) : l.drop (l.takeWhile p).length = l.dropWhile p := by
  induction l with
  | nil => rfl
  | cons b l ih => by_cases h : p b <;> simp [h, ih]
theorem takeWhile_all {l : List UInt8} {c : UInt8} (h : c ∉ l) : l.takeWhile (· != c) = l := by
  induction l with
  | nil => rfl
  | cons b l ih =>
    have hb : ¬ b = c := fun e => h (by simp [e])
    simp [hb, ih (fun hm => h (List.mem_cons_of_mem _ hm))]
theorem dropWhile_none {l : List UInt8} {c : UInt8} (h : c ∉ l) : l.dropWhile (· != c) = [] := by
  induction l with
  | nil => rfl
  | cons b l ih =>
    have hb : ¬ b = c := fun e => h (by simp [e])
    simp [hb, ih (fun hm => h (List.mem_cons_of_mem _ hm))]

def memB (c : UInt8) (l : List UInt8) : Bool := decide (c ∈ l)
def CutPost (l : List UInt8) (c : UInt8) (w : World) (e : Ending) (w' : World) : Prop :=
  (∃ n, w' = w.drewN n) ∧ ∃ x y : ByteArray, e = .returned (.tuple #[.string x, .string y, .bool (memB c l)]) ∧ x.data.toList = l.takeWhile (· != c) ∧ y.data.toList = (l.dropWhile (· != c)).tail

theorem CutPost.yes {l : List UInt8} {c : UInt8} {w : World} {n : Nat} {x y : ByteArray} (h : c ∈ l) (hx : x.data.toList = l.takeWhile (· != c)) (hy : y.data.toList = (l.dropWhile (· != c)).tail) :
    CutPost l c w (.returned (.tuple #[.string x, .string y, .bool true])) (w.drewN n) := ⟨⟨n, rfl⟩, x, y, by rw [memB, decide_eq_true h], hx, hy⟩
theorem CutPost.no {l : List UInt8} {c : UInt8} {w : World} {x y : ByteArray} (h : c ∉ l) (hx : x.data.toList = l) (hy : y.data.toList = []) :
    CutPost l c w (.returned (.tuple #[.string x, .string y, .bool false])) w := ⟨⟨0, rfl⟩, x, y, by rw [memB, decide_eq_false h], by rw [takeWhile_all h, hx], by rw [dropWhile_none h, hy]; rfl⟩

set_option maxHeartbeats 1000000 in
theorem slcut_any (s : ByteArray) (c : UInt8) (w : World) (hs : s.size ≤ 140737488351232) :
    Calls Tryz.prog 18 #[.string s, .string ⟨#[c]⟩] w (CutPost s.data.toList c w) := by
  by_cases h : c ∈ s.data.toList
  · have e := indexByte_yes h
    have hlt := takeWhile_lt h
    rw [len_str] at hlt
    have hx := Lib.hid (take_takeWhile s.data.toList (· != c))
    have hy := Lib.hid (drop_takeWhile s.data.toList (· != c))
    generalize hn : (s.data.toList.takeWhile (· != c)).length = n at e hlt hx hy
    have H := Lib.hid h
    have HE := Lib.hid e
    clear h e hn
    go_enter Tryz.func18, Tryz.ntmps18
    go_wp2_with (go_at_call 36; refine (Tryz.stringslite_Index_one s c _).mono ?_; rintro e w' ⟨rfl, rfl⟩; rw [HE.out])
    go_quiet (fail)
    go_wp2
    go_ret3
    refine CutPost.yes H.out ?_ ?_
    · rw [ext_take, hx.out]
    · rw [ext_data, ← hy.out, List.tail_drop]
  · have e := indexByte_no h
    have H := Lib.hid h
    have HE := Lib.hid e
    clear h e
    go_enter Tryz.func18, Tryz.ntmps18
    go_wp2_with (go_at_call 36; refine (Tryz.stringslite_Index_one s c _).mono ?_; rintro e w' ⟨rfl, rfl⟩; rw [HE.out])
    go_ret3
    exact CutPost.no H.out rfl rfl

set_option maxHeartbeats 1000000 in
theorem cut_any (s : ByteArray) (c : UInt8) (w : World) (hs : s.size ≤ 140737488351232) :
    Calls Tryz.prog 8 #[.string s, .string ⟨#[c]⟩] w (CutPost s.data.toList c w) := by
  go_enter Tryz.func8, Tryz.ntmps8
  go_wp2_with (go_at_call 18; refine (slcut_any s c _ hs).mono ?_; rintro e w' ⟨⟨n, rfl⟩, x, y, rfl, hx, hy⟩; have HX := Lib.hid hx; have HY := Lib.hid hy; clear hx hy)
  go_ret3
  exact ⟨⟨n, rfl⟩, x, y, rfl, HX.out, HY.out⟩
end Go.Proofs.YtliimcemjjhmaacGreatDoor
