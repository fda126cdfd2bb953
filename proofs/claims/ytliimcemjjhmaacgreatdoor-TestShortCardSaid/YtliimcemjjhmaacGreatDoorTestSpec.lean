/- The line of a case: as words joined, and as it is grown. slices.Index, slices.Contains over ints. strings.Join over strings that the call owns. -/
import Derived.Test.YtliimcemjjhmaacGreatDoorTestM
import Derived.Lib.Join
import Derived.Deep.QuietTactic
import Derived.Test.YtliimcemjjhmaacGreatDoorStr
import Derived.Test.YtliimcemjjhmaacGreatDoorWWords
import Derived.Test.YtliimcemjjhmaacGreatDoorShelf
namespace Go.Proofs.YtliimcemjjhmaacGreatDoor
section
open Go.RowKit

def hasI (l : List Int) (z : Int) : Bool := l.contains z
theorem hasI_take {ll : List Int} {k : Nat} {z : Int} (h : k < ll.length) : hasI (ll.take (k + 1)) z = (hasI (ll.take k) z || z == ll[k]) := by
  unfold hasI; rw [Bool.eq_iff_iff, Bool.or_eq_true, List.contains_iff_mem, List.contains_iff_mem, beq_iff_eq, List.take_succ_eq_append_getElem h, List.mem_append, List.mem_singleton]
def markL (b : Bool) : List UInt8 := [195, if b then 183 else 151]
def hexZ (z : Int) : List UInt8 := hexL 8 z.toNat []
def wordsT (pl br : List Int) : Nat → List (List UInt8)
  | 0 => []
  | i + 1 => wordsT pl br i ++ markL (hasI br i) :: (if i < pl.length then [hexZ (pl.getD i 0)] else [])
def textT (pl br : List Int) : Nat → List UInt8
  | 0 => []
  | i + 1 => textT pl br i ++ markL (hasI br i) ++ (if i < pl.length then [32] ++ hexZ (pl.getD i 0) ++ [32] else [])
def lineT (pl br : List Int) : List UInt8 := textT pl br (pl.length + 1)

theorem join_snoc {x y : List UInt8} {xs : List (List UInt8)} {sep : List UInt8} : Lib.join (xs ++ [x, y]) sep = Lib.join (xs ++ [x]) sep ++ sep ++ y := by
  cases xs with
  | nil => simp [Lib.join_cons, Lib.joinTail]
  | cons a r => simp [Lib.join_cons, Lib.joinTail]
theorem join_words (pl br : List Int) : ∀ i, i ≤ pl.length → ∀ m, Lib.join (wordsT pl br i ++ [m]) [32] = textT pl br i ++ m := by
  intro i
  induction i with
  | zero => intro _ m; simp [wordsT, textT, Lib.join_one]
  | succ i ih =>
    intro h m
    have e : wordsT pl br (i + 1) ++ [m] = (wordsT pl br i ++ [markL (hasI br i)]) ++ [hexZ (pl.getD i 0), m] := by
      rw [wordsT, if_pos (by omega)]; simp
    rw [e, join_snoc]
    have e2 : (wordsT pl br i ++ [markL (hasI br i)]) ++ [hexZ (pl.getD i 0)] = wordsT pl br i ++ [markL (hasI br i), hexZ (pl.getD i 0)] := by simp
    rw [e2, join_snoc, ih (by omega), textT, if_pos (by omega)]
    simp [List.append_assoc]
theorem join_line (pl br : List Int) : Lib.join (wordsT pl br (pl.length + 1)) [32] = lineT pl br := by
  rw [wordsT, if_neg (by omega), join_words pl br _ (Nat.le_refl _), lineT, textT, if_neg (by omega)]; simp

theorem hexL_len : ∀ f m s, (hexL f m s).length ≤ f + s.length := by
  intro f
  induction f with
  | zero => intro m s; simp [hexL]
  | succ f ih =>
    intro m s
    rw [hexL]
    split
    · omega
    · exact Nat.le_trans (ih _ _) (by simp; omega)
theorem textT_len (pl br : List Int) : ∀ i, (textT pl br i).length ≤ 12 * i := by
  intro i
  induction i with
  | zero => simp [textT]
  | succ i ih =>
    have := hexL_len 8 (pl.getD i 0).toNat []
    rw [textT]
    split
    · simp [markL, hexZ] at this ⊢; omega
    · simp [markL] at this ⊢; omega
theorem lineT_len (pl br : List Int) : (lineT pl br).length ≤ 12 * (pl.length + 1) := textT_len _ _ _
theorem wordsT_len (pl br : List Int) : ∀ i, (wordsT pl br i).length ≤ 2 * i := by
  intro i
  induction i with
  | zero => simp [wordsT]
  | succ i ih => rw [wordsT]; split <;> simp <;> omega

/-- Of a case that may be: in their order, from 0 on. -/
theorem brOk_at {P : Nat} {br : List Int} {n : Nat} (h : brOk P br n = true) : ∀ k, k < n → okAt P br k = true := by
  induction n with
  | zero => intro k hk; omega
  | succ n ih =>
    intro k hk
    rw [brOk, Bool.and_eq_true] at h
    rcases Nat.lt_or_ge k n with h' | h'
    · exact ih h.1 k h'
    · rw [show k = n from by omega]; exact h.2
theorem brOk_lt {P : Nat} {br : List Int} (h : brOk P br br.length = true) : ∀ b, b < br.length → ∀ a, a < b → br.getD a 0 < br.getD b 0 := by
  intro b
  induction b with
  | zero => intro _ a ha; omega
  | succ b ih =>
    intro hb a ha
    have hk := brOk_at h (b + 1) hb
    unfold okAt at hk
    have : br.getD b 0 < br.getD (b + 1) 0 := by simp at hk; simpa using hk.2
    rcases Nat.lt_or_ge a b with h' | h'
    · have := ih (by omega) a h'; omega
    · rw [show a = b from by omega]; exact this
def KAt (br : List Int) (i k : Nat) : Prop := k ≤ br.length ∧ (∀ j, j < k → br.getD j 0 < (i : Int)) ∧ ∀ j, k ≤ j → j < br.length → (i : Int) ≤ br.getD j 0
theorem KAt.zero {P : Nat} {br : List Int} (h : brOk P br br.length = true) : KAt br 0 0 := by
  refine ⟨Nat.zero_le _, fun j hj => by omega, fun j _ hj => ?_⟩
  have := brOk_at h j hj
  unfold okAt at this
  simp at this
  simpa using this.1.1
theorem KAt.yes {P : Nat} {br : List Int} {i k : Nat} (h : brOk P br br.length = true) (hk : KAt br i k) (hl : k < br.length) (he : br.getD k 0 = (i : Int)) : hasI br i = true ∧ KAt br (i + 1) (k + 1) := by
  refine ⟨?_, hl, fun j hj => ?_, fun j hj hlt => ?_⟩
  · rw [hasI, List.contains_iff_mem]
    rw [getD_at hl] at he
    rw [← he]; exact List.getElem_mem hl
  · rcases Nat.lt_or_ge j k with h' | h'
    · have := hk.2.1 j h'; omega
    · rw [show j = k from by omega]; omega
  · have := brOk_lt h j hlt k (by omega); omega
theorem KAt.no {br : List Int} {i k : Nat} (hk : KAt br i k) (hn : ¬ (k < br.length ∧ br.getD k 0 = (i : Int))) (hs : ∀ b, b < br.length → ∀ a, a < b → br.getD a 0 < br.getD b 0) : hasI br i = false ∧ KAt br (i + 1) k := by
  have hne : ∀ j, j < br.length → br.getD j 0 ≠ (i : Int) := by
    intro j hj he
    rcases Nat.lt_or_ge j k with h' | h'
    · have := hk.2.1 j h'; omega
    · rcases Nat.lt_or_ge k j with h2 | h2
      · have := hs j hj k h2; have := hk.2.2 k (Nat.le_refl _) (by omega); omega
      · exact hn ⟨by omega, by rw [show k = j from by omega]; exact he⟩
  refine ⟨?_, hk.1, fun j hj => ?_, fun j hj hlt => ?_⟩
  · rw [Bool.eq_false_iff]
    intro hc
    rw [hasI, List.contains_iff_mem] at hc
    obtain ⟨j, hj, he⟩ := List.getElem_of_mem hc
    exact hne j hj (by rw [getD_at hj]; exact he)
  · have := hk.2.1 j hj; omega
  · have := hk.2.2 j hj hlt; have := hne j hlt; omega
end

section
open Go.RowKit

set_option maxHeartbeats 1000000 in
theorem indexInt_any (A : Option Addr) (c : Nat) (ll : List Int) (z : Int) (w : World) (hl : ll.length ≤ 1099511627776) (h : IntsAt w A ll) :
    Calls Tryz.prog 44 #[.slice A ll.length c, .int .i64 z] w fun e w' => (∃ q : Int, e = .returned (.int .i64 q) ∧ (decide (0 ≤ q) = hasI ll z)) ∧ w = w' := by
  have HI := Lib.hid h
  clear h
  go_enter Tryz.func44, Tryz.ntmps44
  go_wp2_with fail
  go_loop [8] (fun i => ∃ k : Nat, i = .int .i64 k ∧ k ≤ ll.length ∧ Hid (hasI (ll.take k) z = false)) (fun i => ll.length - (intOf i).toNat)
  case atStart => exact ⟨0, rfl, Nat.zero_le _, Lib.hid rfl⟩
  case round =>
    obtain ⟨k, rfl, hk, ht⟩ := hrel
    by_cases hlt : k < ll.length
    · have d1 : decide (k < ll.length) = true := decide_eq_true hlt
      obtain ⟨ad, rfl, hc⟩ := HI.out k hlt
      by_cases he : z = ll[k]
      · have b1 : (z == ll[k]) = true := beqI_true he
        have hF : Hid (hasI ll z = true) := Lib.hid (by rw [hasI, List.contains_iff_mem, he]; exact List.getElem_mem hlt)
        clear he
        go_wp2_with fail
        go_ret
        exact ⟨⟨(k : Int), rfl, by rw [hF.out]; simp⟩, rfl⟩
      · have b1 : (z == ll[k]) = false := beqI_false he
        have hs2 : Hid (hasI (ll.take (k + 1)) z = false) := Lib.hid (by rw [hasI_take hlt, ht.out, b1]; rfl)
        clear he
        go_wp2_with fail
        go_round
        case rel => exact ⟨k + 1, by go_num, hlt, hs2⟩
        case measure => simp [intOf]; omega
    · have d1 : decide (k < ll.length) = false := decide_eq_false hlt
      have hT : Hid (hasI ll z = false) := Lib.hid (by have := ht.out; rwa [List.take_of_length_le (by omega)] at this)
      go_wp2_with fail
      go_ret
      exact ⟨⟨-1, rfl, by rw [hT.out]; rfl⟩, rfl⟩

theorem containsInt_any (A : Option Addr) (c : Nat) (ll : List Int) (z : Int) (w : World) (hl : ll.length ≤ 1099511627776) (h : IntsAt w A ll) :
    Calls Tryz.prog 31 #[.slice A ll.length c, .int .i64 z] w fun e w' => e = .returned (.bool (hasI ll z)) ∧ w = w' := by
  have HI := Lib.hid h
  clear h
  go_enter Tryz.func31, Tryz.ntmps31
  go_wp2_with (go_at_call 44; with_reducible refine (indexInt_any A c ll z _ hl HI.out).mono ?_; rintro e w1 ⟨⟨q, rfl, hz⟩, rfl⟩; have HZ := Lib.hid hz; clear hz)
  go_ret
  exact ⟨ret_bool HZ.out, rfl⟩
end

section
open Go.RowKit Go.Proofs.YtliimcemjjhmaacGreatDoorW.PrintWords

theorem strInfo : (Tryz.prog.info? 9).map (fun i => (i.zero, i.size, i.bytes)) = some (some (.string ⟨#[]⟩), 1, 16) := by kernel_rfl
abbrev OwnStrs (w : World) (base : Nat) (v : Value) (l : List ByteArray) : Prop := Kd.R Kd.string 9 w base (fun _ => True) v l
def bytesL (l : List ByteArray) : List (List UInt8) := l.map fun s => s.data.toList

theorem join_any (sep : ByteArray) (base : Nat) (v : Value) (x : List ByteArray) (w : World) (h : OwnStrs w base v x) (hx : x.length ≤ 140737488355328) (hl : (Lib.join (bytesL x) sep.data.toList).length ≤ 140737488355328) :
    Calls Tryz.prog 16 #[v, .string sep] w fun e w' => (∃ y : ByteArray, e = .returned (.string y) ∧ y.data.toList = Lib.join (bytesL x) sep.data.toList) ∧ Below w.heap.size w w' := by
  rcases Nat.eq_zero_or_pos x.length with h0 | h0
  · obtain ⟨A, c, rfl⟩ := Kd.R_slice h
    obtain rfl := List.length_eq_zero_iff.1 h0
    exact (Tryz.strings_Join_none A c sep w).mono fun e w' ⟨he, hw⟩ => ⟨⟨_, he, rfl⟩, hw ▸ Below.refl _ _⟩
  · obtain ⟨g, cap, rfl, hb, hg, _⟩ := Kd.R_form h h0
    obtain ⟨_, _, e1, hcap, _⟩ := Kd.R_reads h
    injection e1 with _ _ e3
    refine (Tryz.strings_Join g 0 cap x sep w (fun j y hy => ?_) hg hx (e3 ▸ hcap) hl).mono fun e w' ⟨he, hw⟩ => ⟨⟨_, he, rfl⟩, hw⟩
    obtain ⟨hj, hy⟩ := List.getElem?_eq_some_iff.1 hy
    have := (Kd.R_celln (ByteArray.empty) h (j : Int) (by omega) (by omega)).1
    rw [Int.toNat_natCast, rdOf, Int.toNat_natCast, List.getD_eq_getElem?_getD, List.getElem?_eq_getElem hj] at this
    rw [Nat.zero_add, this]; simp [hy]
end
end Go.Proofs.YtliimcemjjhmaacGreatDoor
