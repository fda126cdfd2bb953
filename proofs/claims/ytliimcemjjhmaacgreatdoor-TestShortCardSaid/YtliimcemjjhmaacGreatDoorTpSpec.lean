/- caesuraref23.Parse and what it calls: what they compute, in plain words (lists of bytes). -/
import Derived.Test.YtliimcemjjhmaacGreatDoorPTestShortx0
import Derived.Test.YtliimcemjjhmaacGreatDoorWWords
import Derived.Test.YtliimcemjjhmaacGreatDoorFldSpec
namespace Go.Proofs.YtliimcemjjhmaacGreatDoor
open Go.RowKit Go.Proofs.YtliimcemjjhmaacGreatDoorW.PrintWords Go.Proofs.YtliimcemjjhmaacGreatDoor.PTestShort

abbrev Bs := List UInt8
def hexI (c : UInt8) : Int := if 48 ≤ c.toNat ∧ c.toNat ≤ 57 then c.toNat - 48 else if 65 ≤ c.toNat ∧ c.toNat ≤ 70 then c.toNat - 55 else if 97 ≤ c.toNat ∧ c.toNat ≤ 102 then c.toNat - 87 else -1
def hexB (c : UInt8) : Bool := decide (0 ≤ hexI c)
def valH (l : Bs) : Int := l.foldl (fun n c => 16 * n + hexI c) 0
def pointOf (w : Bs) : Option Int := if 4 ≤ w.length ∧ w.length ≤ 6 ∧ w.all hexB = true then some (valH w) else none
def saidW : List Bs → Bool → List Int → List Int → Option (List Int × List Int)
  | [], false, _, _ => none
  | [], true, p, b => some (p, b)
  | w :: r, false, p, b => if w = [195, 183] then saidW r true p (b ++ [(p.length : Int)]) else if w = [195, 151] then saidW r true p b else none
  | w :: r, true, p, b => match pointOf w with
    | none => none
    | some n => saidW r false (p ++ [n]) b
def scalarB (n : Int) : Bool := decide (0 ≤ n ∧ n ≤ 1114111 ∧ (n < 55296 ∨ 57343 < n))
def dropCR (l : Bs) : Bs := if l.getLast? = some 13 then l.dropLast else l
def linesB : Bs → Bs → List Bs
  | [], cur => [cur]
  | b :: r, cur => if b = 10 then dropCR cur :: linesB r [] else linesB r (cur ++ [b])
def cutHash (l : Bs) : Bs := l.takeWhile (· != 35)
def wordsLn (l : Bs) : List Bs := fieldsB (cutHash l) []
abbrev TOut := List S34 × Int × Int
def fileL : List Bs → List S34 → Int → TOut
  | [], acc, _ => (acc, 0, 0)
  | s :: r, acc, n => if wordsLn s = [] then fileL r acc (n + 1) else match saidW (wordsLn s) false [] [] with
    | none => ([], n, 2)
    | some pb => if pb.1.all scalarB = true then (if 20000 ≤ acc.length then ([], n, 3) else fileL r (acc ++ [⟨pb.1, pb.2⟩]) (n + 1)) else ([], n, 1)
def parseOut (l : Bs) : TOut := if 1048576 < l.length then ([], 0, 3) else fileL (linesB l []) [] 1

theorem hexI_lt (c : UInt8) : -1 ≤ hexI c ∧ hexI c ≤ 15 := by unfold hexI; (repeat' split) <;> omega
theorem valH_snoc (l : Bs) (c : UInt8) : valH (l ++ [c]) = 16 * valH l + hexI c := by simp [valH, List.foldl_append]
theorem bt_nat (s : ByteArray) (i : Nat) (h : i < s.size) : bt s (i : Int) = (s[i].toNat : Int) := by simp [bt, h]
theorem dl_get (s : ByteArray) (i : Nat) (h : i < s.size) : s.data.toList[i]? = some s[i] := by
  rw [List.getElem?_eq_getElem (by rw [len_str]; exact h)]; rfl
theorem wrap_at {n : Int} (h : -9223372036854775808 ≤ n ∧ n ≤ 9223372036854775807) : wrap64 n = n := by unfold wrap64; omega

/-- What Point says of a word that is wholly a point; of another it doesn't say that. -/
def PointOk (s : ByteArray) (r : Int × Int) : Prop := match pointOf s.data.toList with
  | some v => r = (v, (s.size : Int))
  | none => r.2 = 0 ∨ r.2 ≠ (s.size : Int)
theorem valH_go : ∀ (l : Bs) (x : Int), (∀ c ∈ l, 0 ≤ hexI c) → 0 ≤ x → 0 ≤ l.foldl (fun n c => 16 * n + hexI c) x ∧ l.foldl (fun n c => 16 * n + hexI c) x < (x + 1) * 16 ^ l.length
  | [], x, _, hx => by simp; omega
  | c :: r, x, h, hx => by
    have h1 := h c List.mem_cons_self
    have h2 := hexI_lt c
    obtain ⟨h3, h4⟩ := valH_go r (16 * x + hexI c) (fun d hd => h d (List.mem_cons_of_mem _ hd)) (by omega)
    refine ⟨h3, Int.lt_of_lt_of_le h4 ?_⟩
    rw [List.length_cons, Int.pow_succ, Int.mul_comm (16 ^ r.length) 16, ← Int.mul_assoc]
    exact Int.mul_le_mul_of_nonneg_right (by omega) (Int.le_of_lt (Int.pow_pos (by decide)))
theorem valH_bound (l : Bs) (h : ∀ c ∈ l, 0 ≤ hexI c) : 0 ≤ valH l ∧ valH l < 16 ^ l.length := by
  have := valH_go l 0 h (by omega)
  simpa [valH] using this
theorem pointOf_none_of {l : Bs} (h : ¬ (l.all hexB = true)) : pointOf l = none := by unfold pointOf; rw [if_neg (fun h' => h h'.2.2)]
end Go.Proofs.YtliimcemjjhmaacGreatDoor
