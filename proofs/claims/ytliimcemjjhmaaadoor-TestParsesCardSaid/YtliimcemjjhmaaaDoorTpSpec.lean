/- caesuraref23.Parse and what it calls: what they compute, in plain words (lists of bytes). -/
import Derived.Test.YtliimcemjjhmaaaDoorTpRefb
import Derived.Test.YtliimcemjjhmaaaDoorFldSpec
namespace Go.Proofs.YtliimcemjjhmaaaDoor
open Go.RowKit Go.Proofs.YtliimcemjjhmaaaDoorW.PrintWords Go.Proofs.YtliimcemjjhmaaaDoor.PTestParses

abbrev Bs := List UInt8
def hexI (c : UInt8) : Int := if 48 ≤ c.toNat ∧ c.toNat ≤ 57 then c.toNat - 48 else if 65 ≤ c.toNat ∧ c.toNat ≤ 70 then c.toNat - 55 else if 97 ≤ c.toNat ∧ c.toNat ≤ 102 then c.toNat - 87 else -1
def hexB (c : UInt8) : Bool := decide (0 ≤ hexI c)
def valH (l : Bs) : Int := l.foldl (fun n c => 16 * n + hexI c) 0
def pointOf (w : Bs) : Option Int := if 4 ≤ w.length ∧ w.length ≤ 6 ∧ w.all hexB = true then some (valH w) else none
def saidW : List Bs → Bool → List Int → List Int → Option (List Int × List Int)
  | [], false, _, _ => none
  | [], true, p, b => some (p, b)
  | w :: r, false, p, b => if w = [195, 183] then saidW r true p (b ++ [(p.length : Int)]) else if w = [195, 151] then saidW r true p b else none
  | w :: r, true, p, b => match pointOf w with
    | none => none
    | some n => saidW r false (p ++ [n]) b
def scalarB (n : Int) : Bool := decide (0 ≤ n ∧ n ≤ 1114111 ∧ (n < 55296 ∨ 57343 < n))
def dropCR (l : Bs) : Bs := if l.getLast? = some 13 then l.dropLast else l
def linesB : Bs → Bs → List Bs
  | [], cur => [cur]
  | b :: r, cur => if b = 10 then dropCR cur :: linesB r [] else linesB r (cur ++ [b])
def cutHash (l : Bs) : Bs := l.takeWhile (· != 35)
def wordsLn (l : Bs) : List Bs := fieldsB (cutHash l) []
abbrev TOut := List S40 × Int × Int
def fileL : List Bs → List S40 → Int → TOut
  | [], acc, _ => (acc, 0, 0)
  | s :: r, acc, n => if wordsLn s = [] then fileL r acc (n + 1) else match saidW (wordsLn s) false [] [] with
    | none => ([], n, 2)
    | some pb => if pb.1.all scalarB = true then (if 20000 ≤ acc.length then ([], n, 3) else fileL r (acc ++ [⟨pb.1, pb.2⟩]) (n + 1)) else ([], n, 1)
def parseOut (l : Bs) : TOut := if 1048576 < l.length then ([], 0, 3) else fileL (linesB l []) [] 1

theorem hexI_lt (c : UInt8) : -1 ≤ hexI c ∧ hexI c ≤ 15 := by unfold hexI; (repeat' split) <;> omega
theorem valH_snoc (l : Bs) (c : UInt8) : valH (l ++ [c]) = 16 * valH l + hexI c := by simp [valH, List.foldl_append]
theorem bt_nat (s : ByteArray) (i : Nat) (h : i < s.size) : bt s (i : Int) = (s[i].toNat : Int) := by simp [bt, h]
theorem dl_get (s : ByteArray) (i : Nat) (h : i < s.size) : s.data.toList[i]? = some s[i] := by
  rw [List.getElem?_eq_getElem (by rw [len_str]; exact h)]; rfl
theorem wrap_at {n : Int} (h : -9223372036854775808 ≤ n ∧ n ≤ 9223372036854775807) : wrap64 n = n := by unfold wrap64; omega

theorem digit_f (k : Nat) (c : UInt8) (hk : 2 ≤ k) : caesuraref4_digit.f k (c.toNat : Int) = some (hexI c) := by
  obtain ⟨k, rfl⟩ : ∃ j, k = j + 2 := ⟨k - 2, by omega⟩
  have hc := c.toNat_lt
  unfold hexI
  generalize c.toNat = n at hc
  simp only [caesuraref4_digit.f, caesuraref4_digit.j0, caesuraref4_digit.j1, ge_iff_le, decide_eq_true_eq, Bool.false_eq_true, if_false]
  (repeat' split) <;> first | rfl | (exfalso; omega) | (unfold wrap64; apply congrArg some; omega)

/-- What Point says of a word that is wholly a point; of another it doesn't say that. -/
def PointOk (s : ByteArray) (r : Int × Int) : Prop := match pointOf s.data.toList with
  | some v => r = (v, (s.size : Int))
  | none => r.2 = 0 ∨ r.2 ≠ (s.size : Int)
theorem valH_go : ∀ (l : Bs) (x : Int), (∀ c ∈ l, 0 ≤ hexI c) → 0 ≤ x → 0 ≤ l.foldl (fun n c => 16 * n + hexI c) x ∧ l.foldl (fun n c => 16 * n + hexI c) x < (x + 1) * 16 ^ l.length
  | [], x, _, hx => by simp; omega
  | c :: r, x, h, hx => by
    have h1 := h c List.mem_cons_self
    have h2 := hexI_lt c
    obtain ⟨h3, h4⟩ := valH_go r (16 * x + hexI c) (fun d hd => h d (List.mem_cons_of_mem _ hd)) (by omega)
    refine ⟨h3, Int.lt_of_lt_of_le h4 ?_⟩
    rw [List.length_cons, Int.pow_succ, Int.mul_comm (16 ^ r.length) 16, ← Int.mul_assoc]
    exact Int.mul_le_mul_of_nonneg_right (by omega) (Int.le_of_lt (Int.pow_pos (by decide)))
theorem valH_bound (l : Bs) (h : ∀ c ∈ l, 0 ≤ hexI c) : 0 ≤ valH l ∧ valH l < 16 ^ l.length := by
  have := valH_go l 0 h (by omega)
  simpa [valH] using this
theorem pointOf_none_of {l : Bs} (h : ¬ (l.all hexB = true)) : pointOf l = none := by unfold pointOf; rw [if_neg (fun h' => h h'.2.2)]
theorem point_l0 (s : ByteArray) (hs : s.size ≤ 1048576) : ∀ (n i k : Nat) (x : Int), s.size - i ≤ n → i ≤ s.size → 2 * n + 6 ≤ k → (∀ c ∈ s.data.toList.take i, 0 ≤ hexI c) → x = valH (s.data.toList.take (min i 7)) →
    ∃ r, caesuraref4_Point.l0 k s x (i : Int) = some r ∧ PointOk s r := by
  intro n
  induction n with
  | zero =>
    intro i k x hn hi hk hall hx
    obtain rfl : i = s.size := by omega
    obtain ⟨k, rfl⟩ : ∃ j, k = j + 2 := ⟨k - 2, by omega⟩
    have hl : s.data.toList.take s.size = s.data.toList := by rw [← len_str]; exact List.take_length
    rw [hl] at hall
    have hall' : s.data.toList.all hexB = true := List.all_eq_true.2 (fun c hc => decide_eq_true (hall c hc))
    simp only [caesuraref4_Point.l0, caesuraref4_Point.j1, Int.lt_irrefl, if_false, Bool.false_eq_true]
    unfold PointOk pointOf
    rw [len_str]
    by_cases h4 : s.size < 4
    · rw [if_pos (by omega)]
      exact ⟨_, rfl, by rw [if_neg (by omega)]; exact .inl rfl⟩
    · rw [if_neg (by omega)]
      by_cases h6 : s.size > 6
      · rw [if_pos (by omega)]
        exact ⟨_, rfl, by rw [if_neg (by omega)]; exact .inl rfl⟩
      · rw [if_neg (by omega)]
        refine ⟨_, rfl, ?_⟩
        rw [if_pos ⟨by omega, by omega, hall'⟩, hx, show min s.size 7 = s.size by omega, hl]
  | succ n ih =>
    intro i k x hn hi hk hall hx
    by_cases he : i = s.size
    · exact (by
        obtain ⟨r, h1, h2⟩ := ih i (k) x (by omega) hi (by omega) hall hx
        exact ⟨r, h1, h2⟩)
    · have hlt : i < s.size := by omega
      obtain ⟨k, rfl⟩ : ∃ j, k = j + 2 := ⟨k - 2, by omega⟩
      have hd1 := digit_f (k + 1) s[i] (by omega)
      have hd2 := digit_f k s[i] (by omega)
      rw [caesuraref4_Point.l0, if_pos (by omega), if_pos (by omega), bt_nat s i hlt, hd1, Option.bind_some, caesuraref4_Point.j1]
      by_cases hh : 0 ≤ hexI s[i]
      · rw [if_pos (decide_eq_true hh)]
        have hall2 : ∀ c ∈ s.data.toList.take (i + 1), 0 ≤ hexI c := by
          intro c hc
          rw [take_at s i hlt] at hc
          rcases List.mem_append.1 hc with hc | hc
          · exact hall c hc
          · simp at hc; subst hc; exact hh
        by_cases h7 : i < 7
        · have hb := valH_bound (s.data.toList.take i) hall
          rw [show min i 7 = i by omega] at hx
          rw [← hx, List.length_take, len_str, show min i s.size = i by omega] at hb
          have hp : (16 : Int) ^ i ≤ 16 ^ 6 := by
            have : i ≤ 6 := by omega
            match i, this with
            | 0, _ | 1, _ | 2, _ | 3, _ | 4, _ | 5, _ | 6, _ => decide
          have hp6 : (16 : Int) ^ 6 = 16777216 := by decide
          have hx15 := hexI_lt s[i]
          rw [if_pos (by omega), if_pos (by omega), if_pos (by omega), bt_nat s i hlt, hd2, Option.bind_some, wrap_at (n := 16 * x) (by omega), wrap_at (n := 16 * x + hexI s[i]) (by omega), wrap_at (n := (i : Int) + 1) (by omega)]
          exact ih (i + 1) k _ (by omega) (by omega) (by omega) hall2 (by rw [show min (i + 1) 7 = i + 1 by omega, take_at s i hlt, valH_snoc, ← hx])
        · rw [if_neg (by omega), wrap_at (n := (i : Int) + 1) (by omega)]
          exact ih (i + 1) k _ (by omega) (by omega) (by omega) hall2 (by rw [hx]; congr 2; omega)
      · rw [if_neg (by rw [decide_eq_false hh]; decide)]
        have hno : pointOf s.data.toList = none := pointOf_none_of (fun ha => hh (of_decide_eq_true (List.all_eq_true.1 ha s[i] (List.mem_of_getElem? (dl_get s i hlt)))))
        unfold PointOk
        rw [hno]
        by_cases h4 : i < 4
        · rw [if_pos (by omega)]; exact ⟨_, rfl, .inl rfl⟩
        · rw [if_neg (by omega)]
          by_cases h6 : i > 6
          · rw [if_pos (by omega)]; exact ⟨_, rfl, .inl rfl⟩
          · rw [if_neg (by omega)]; exact ⟨_, rfl, .inr (by show (i : Int) ≠ _; omega)⟩
theorem point_f (s : ByteArray) (hs : s.size ≤ 1048576) (k : Nat) (hk : 2 * s.size + 6 ≤ k) : ∃ r, caesuraref4_Point.f k s = some r ∧ PointOk s r :=
  point_l0 s hs s.size 0 k 0 (by omega) (by omega) hk (by simp) (by simp [valH])
end Go.Proofs.YtliimcemjjhmaaaDoor
