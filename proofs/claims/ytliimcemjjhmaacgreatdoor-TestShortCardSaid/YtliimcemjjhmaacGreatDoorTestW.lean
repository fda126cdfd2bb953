/- testfile and caesuraref23: what a point may be; the walks of the small functions. digits, Hex: a number in capital digits, four at least. testfile.digits: as Hex. -/
import Derived.Test.YtliimcemjjhmaacGreatDoorStr
import Derived.Test.YtliimcemjjhmaacGreatDoorSent
import Derived.BigQuiet
import Derived.WalkSpells
import Derived.Outline
import Derived.Laws.Bits64b
namespace Go.Proofs.YtliimcemjjhmaacGreatDoor
section
open Go.RowKit

def scal (n : Int) : Bool := decide (0 ≤ n) && decide (n ≤ 1114111) && (decide (n < 55296) || decide (57343 < n))

theorem scalar_any (n : Int) (w : World) : Calls Tryz.prog 30 #[.int .i64 n] w fun e w' => e = .returned (.bool (scal n)) ∧ w = w' := by
  by_cases h0 : 0 ≤ n
  · have c0 : decide (0 ≤ n) = true := decide_eq_true h0
    by_cases h1 : n ≤ 1114111
    · have c1 : decide (n ≤ 1114111) = true := decide_eq_true h1
      by_cases h2 : n < 55296
      · have c2 : decide (n < 55296) = true := decide_eq_true h2
        have HF : Hid (scal n = true) := Lib.hid (by simp [scal, h0, h1, h2])
        clear h0 h1 h2
        go_enter Tryz.func30, Tryz.ntmps30
        go_wp2
        go_ret
        exact ⟨ret_bool HF.out.symm, rfl⟩
      · have c2 : decide (n < 55296) = false := decide_eq_false h2
        by_cases h3 : 57343 < n
        · have c3 : decide (57343 < n) = true := decide_eq_true h3
          have HF : Hid (scal n = true) := Lib.hid (by simp [scal, h0, h1, h3])
          clear h0 h1 h2 h3
          go_enter Tryz.func30, Tryz.ntmps30
          go_wp2
          go_ret
          exact ⟨ret_bool HF.out.symm, rfl⟩
        · have c3 : decide (57343 < n) = false := decide_eq_false h3
          have HF : Hid (scal n = false) := Lib.hid (by simp [scal]; omega)
          clear h0 h1 h2 h3
          go_enter Tryz.func30, Tryz.ntmps30
          go_wp2
          go_ret
          exact ⟨ret_bool HF.out.symm, rfl⟩
    · have c1 : decide (n ≤ 1114111) = false := decide_eq_false h1
      have HF : Hid (scal n = false) := Lib.hid (by simp [scal]; omega)
      clear h0 h1
      go_enter Tryz.func30, Tryz.ntmps30
      go_wp2
      go_ret
      exact ⟨ret_bool HF.out.symm, rfl⟩
  · have c0 : decide (0 ≤ n) = false := decide_eq_false h0
    have HF : Hid (scal n = false) := Lib.hid (by simp [scal]; omega)
    clear h0
    go_enter Tryz.func30, Tryz.ntmps30
    go_wp2
    go_ret
    exact ⟨ret_bool HF.out.symm, rfl⟩

theorem bad_any (n : Int) (w : World) : Calls Tryz.prog 29 #[.int .i64 n] w fun e w' => e = .returned (.bool (!scal n)) ∧ w = w' := by
  go_enter Tryz.func29, Tryz.ntmps29
  go_wp2_with (go_at_call 30; with_reducible refine (scalar_any n _).mono ?_; rintro e w1 ⟨rfl, rfl⟩)
  go_ret
  exact ⟨rfl, rfl⟩

/-- A row of ints, read. -/
def IntsAt (w : World) (A : Option Addr) (ll : List Int) : Prop := ∀ k (h : k < ll.length), ∃ ad, A = some ad ∧ w.cell? (ad.add k) = some (.int .i64 ll[k])

theorem all_take {ll : List Int} {k : Nat} (h : k < ll.length) : (ll.take (k + 1)).all scal = ((ll.take k).all scal && scal ll[k]) := by
  rw [List.take_succ_eq_append_getElem h, List.all_append]; simp
theorem all_false {ll : List Int} {k : Nat} (h : k < ll.length) (hs : scal ll[k] = false) : ll.all scal = false := by
  rw [List.all_eq_false]; exact ⟨_, List.getElem_mem h, by simp [hs]⟩

set_option maxHeartbeats 1000000 in
theorem indexBad_any (A : Option Addr) (c : Nat) (ll : List Int) (w : World) (hl : ll.length ≤ 1099511627776) (h : IntsAt w A ll) :
    Calls Tryz.prog 43 #[.slice A ll.length c, .func (.func 29) #[] #[]] w fun e w' => (∃ z : Int, e = .returned (.int .i64 z) ∧ (decide (0 ≤ z) = !ll.all scal)) ∧ w = w' := by
  have HI := Lib.hid h
  clear h
  go_enter Tryz.func43, Tryz.ntmps43
  go_wp2_with fail
  go_loop [8] (fun i => ∃ k : Nat, i = .int .i64 k ∧ k ≤ ll.length ∧ Hid ((ll.take k).all scal = true)) (fun i => ll.length - (intOf i).toNat)
  case atStart => exact ⟨0, rfl, Nat.zero_le _, Lib.hid rfl⟩
  case round =>
    obtain ⟨k, rfl, hk, ht⟩ := hrel
    by_cases hlt : k < ll.length
    · have d1 : decide (k < ll.length) = true := decide_eq_true hlt
      obtain ⟨ad, rfl, hc⟩ := HI.out k hlt
      cases hs : scal ll[k] with
      | true =>
        have hs2 : Hid ((ll.take (k + 1)).all scal = true) := Lib.hid (by rw [all_take hlt, ht.out, hs]; rfl)
        go_wp2_with (go_at_call 29; with_reducible refine (bad_any ll[k] _).mono ?_; rintro e w1 ⟨rfl, rfl⟩; rw [hs])
        go_round
        case rel => exact ⟨k + 1, by go_num, hlt, hs2⟩
        case measure => simp [intOf]; omega
      | false =>
        have hF : Hid (ll.all scal = false) := Lib.hid (all_false hlt hs)
        go_wp2_with (go_at_call 29; with_reducible refine (bad_any ll[k] _).mono ?_; rintro e w1 ⟨rfl, rfl⟩; rw [hs])
        go_ret
        exact ⟨⟨(k : Int), rfl, by rw [hF.out]; simp⟩, rfl⟩
    · have d1 : decide (k < ll.length) = false := decide_eq_false hlt
      have hT : Hid (ll.all scal = true) := Lib.hid (by have := ht.out; rwa [List.take_of_length_le (by omega)] at this)
      go_wp2_with fail
      go_ret
      exact ⟨⟨-1, rfl, by rw [hT.out]; rfl⟩, rfl⟩

theorem containsBad_any (A : Option Addr) (c : Nat) (ll : List Int) (w : World) (hl : ll.length ≤ 1099511627776) (h : IntsAt w A ll) :
    Calls Tryz.prog 28 #[.slice A ll.length c, .func (.func 29) #[] #[]] w fun e w' => e = .returned (.bool (!ll.all scal)) ∧ w = w' := by
  have HI := Lib.hid h
  clear h
  go_enter Tryz.func28, Tryz.ntmps28
  go_wp2_with (go_at_call 43; with_reducible refine (indexBad_any A c ll _ hl HI.out).mono ?_; rintro e w1 ⟨⟨z, rfl, hz⟩, rfl⟩; have HZ := Lib.hid hz; clear hz)
  go_ret
  exact ⟨ret_bool HZ.out, rfl⟩
end

section
open Go.RowKit

def hexU (n : Nat) : UInt8 := if n < 10 then UInt8.ofNat (48 + n) else UInt8.ofNat (55 + n)
def hexL : Nat → Nat → List UInt8 → List UInt8
  | 0, _, s => s
  | f + 1, m, s => if m = 0 ∧ 4 ≤ s.length then s else hexL f (m / 16) (hexU (m % 16) :: s)
theorem cutU (n : Nat) (h : n < 16) : (⟨#[48, 49, 50, 51, 52, 53, 54, 55, 56, 57, 65, 66, 67, 68, 69, 70]⟩ : ByteArray).extract n (n + 1) = ⟨#[hexU n]⟩ := by
  obtain rfl | rfl | rfl | rfl | rfl | rfl | rfl | rfl | rfl | rfl | rfl | rfl | rfl | rfl | rfl | rfl : n = 0 ∨ n = 1 ∨ n = 2 ∨ n = 3 ∨ n = 4 ∨ n = 5 ∨ n = 6 ∨ n = 7 ∨ n = 8 ∨ n = 9 ∨ n = 10 ∨ n = 11 ∨ n = 12 ∨ n = 13 ∨ n = 14 ∨ n = 15 := by omega
  all_goals rfl

def HexR (n f m : Nat) (x : ByteArray) : Prop := hexL f m x.data.toList = hexL 8 n [] ∧ f + x.size = 8 ∧ m < 16 ^ f
theorem HexR.next {n f m : Nat} {x : ByteArray} (h : HexR n f m x) (hc : ¬ (m = 0 ∧ 4 ≤ x.size)) : ∃ f', f = f' + 1 ∧ HexR n f' (m / 16) ((⟨#[hexU (m % 16)]⟩ : ByteArray) ++ x) := by
  obtain ⟨h1, h2, h3⟩ := h
  cases f with
  | zero => exact absurd ⟨by simpa using h3, by omega⟩ hc
  | succ f =>
    refine ⟨f, rfl, ?_, by rw [app_size]; show f + (1 + x.size) = 8; omega, by rw [Nat.pow_succ] at h3; omega⟩
    rw [hexL, if_neg (by rw [len_str]; exact hc)] at h1
    rw [app_data]; exact h1
theorem HexR.done {n f m : Nat} {x : ByteArray} (h : HexR n f m x) (hc : m = 0 ∧ 4 ≤ x.size) : x.data.toList = hexL 8 n [] := by
  obtain ⟨h1, _, _⟩ := h
  cases f with
  | zero => exact h1
  | succ f => rw [hexL, if_pos (by rw [len_str]; exact hc)] at h1; exact h1
end

section
open Go.RowKit

theorem and15I (m : Nat) (h : m ≤ 1114111) : bits BinOp.and IntKind.i64 (m : Int) 15 = ((m % 16 : Nat) : Int) := by
  have h1 : (BitVec.ofInt 64 (m : Int)).toNat = m := by
    rw [BitVec.ofInt_natCast, BitVec.toNat_ofNat]; exact Nat.mod_eq_of_lt (by omega)
  have h2 : (BitVec.ofInt 64 ((15 : Nat) : Int)).toNat = 15 := by
    rw [BitVec.ofInt_natCast, BitVec.toNat_ofNat]
  show IntKind.i64.wrap ((BitVec.ofInt 64 (m : Int) &&& BitVec.ofInt 64 ((15 : Nat) : Int)).toNat : Int) = _
  rw [BitVec.toNat_and, h1, h2, show (15 : Nat) = 2 ^ 4 - 1 from rfl, Nat.and_two_pow_sub_one_eq_mod]
  unfold IntKind.wrap; simp [IntKind.bits, IntKind.signed]; omega

set_option maxHeartbeats 2000000 in
theorem digits_any (n : Nat) (hn : n ≤ 1114111) (w : World) : Calls Tryz.prog 32 #[.int .i64 (n : Int)] w fun e w' => (∃ x : ByteArray, e = .returned (.string x) ∧ x.data.toList = hexL 8 n []) ∧ w = w' := by
  go_enter Tryz.func32, Tryz.ntmps32
  go_wp2_with fail
  go_loop [0, 3] (fun a s => ∃ (f m : Nat) (x : ByteArray), a = .int .i64 m ∧ s = .string x ∧ m ≤ n ∧ Hid (HexR n f m x)) (fun _ s => match s with | .string x => 8 - x.size | _ => 0)
  case atStart => exact ⟨8, n, _, rfl, rfl, Nat.le_refl _, Lib.hid ⟨rfl, rfl, by omega⟩⟩
  case round =>
    obtain ⟨f, m, x, rfl, rfl, hm, hR⟩ := hrel
    have hx8 : x.size ≤ 8 := by have := hR.out.2.1; omega
    by_cases hc : m = 0 ∧ 4 ≤ x.size
    · have hD := Lib.hid (hR.out.done hc)
      obtain ⟨rfl, h4⟩ := hc
      have d2 : decide ((x.size : Int) < 4) = false := decide_eq_false (by omega)
      go_wp2_with fail
      go_ret
      exact ⟨⟨x, rfl, hD.out⟩, rfl⟩
    · obtain ⟨f', rfl, hN⟩ := hR.out.next hc
      have HN := Lib.hid hN
      have hx7 : x.size < 8 := by have := hR.out.2.1; omega
      have hand := and15I m (by omega)
      have hcut := cutU (m % 16) (Nat.mod_lt _ (by decide))
      have hsz : ((⟨#[48, 49, 50, 51, 52, 53, 54, 55, 56, 57, 65, 66, 67, 68, 69, 70]⟩ : ByteArray).extract (m % 16) (m % 16 + 1)).size = 1 := by rw [hcut]; rfl
      have HC := Lib.hid hcut
      have hle : m / 16 ≤ n := by omega
      clear hcut
      by_cases h0 : 0 < m
      · have d1 : decide (0 < m) = true := decide_eq_true h0
        clear hc hN
        go_wp2_with fail
        go_round
        case rel => exact ⟨f', m / 16, _, by go_num, rfl, hle, Lib.hid (by rw [HC.out]; exact HN.out)⟩
        case measure => simp only [app_size, hsz]; omega
      · have d1 : decide (0 < m) = false := decide_eq_false h0
        have d2 : decide ((x.size : Int) < 4) = true := decide_eq_true (by omega)
        clear hc hN
        go_wp2_with fail
        go_round
        case rel => exact ⟨f', m / 16, _, by go_num, rfl, hle, Lib.hid (by rw [HC.out]; exact HN.out)⟩
        case measure => simp only [app_size, hsz]; omega
end
end Go.Proofs.YtliimcemjjhmaacGreatDoor
