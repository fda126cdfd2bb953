/- testfile and caesuraref23: what a point may be; the walks of the small functions. -/
import Derived.Test.YtpgaimpppehpcabDoorStr
import Derived.Test.YtpgaimpppehpcabDoorSent
import Derived.BigQuiet
import Derived.WalkSpells
import Derived.Outline
namespace Go.Proofs.YtpgaimpppehpcabDoor
open Go.RowKit

def scal (n : Int) : Bool := decide (0 ≤ n) && decide (n ≤ 1114111) && (decide (n < 55296) || decide (57343 < n))

theorem scalar_any (n : Int) (w : World) : Calls Tryd.prog 23 #[.int .i64 n] w fun e w' => e = .returned (.bool (scal n)) ∧ w = w' := by
  by_cases h0 : 0 ≤ n
  · have c0 : decide (0 ≤ n) = true := decide_eq_true h0
    by_cases h1 : n ≤ 1114111
    · have c1 : decide (n ≤ 1114111) = true := decide_eq_true h1
      by_cases h2 : n < 55296
      · have c2 : decide (n < 55296) = true := decide_eq_true h2
        have HF : Hid (scal n = true) := Lib.hid (by simp [scal, h0, h1, h2])
        clear h0 h1 h2
        go_enter Tryd.func23, Tryd.ntmps23
        go_wp2
        go_ret
        exact ⟨ret_bool HF.out.symm, rfl⟩
      · have c2 : decide (n < 55296) = false := decide_eq_false h2
        by_cases h3 : 57343 < n
        · have c3 : decide (57343 < n) = true := decide_eq_true h3
          have HF : Hid (scal n = true) := Lib.hid (by simp [scal, h0, h1, h3])
          clear h0 h1 h2 h3
          go_enter Tryd.func23, Tryd.ntmps23
          go_wp2
          go_ret
          exact ⟨ret_bool HF.out.symm, rfl⟩
        · have c3 : decide (57343 < n) = false := decide_eq_false h3
          have HF : Hid (scal n = false) := Lib.hid (by simp [scal]; omega)
          clear h0 h1 h2 h3
          go_enter Tryd.func23, Tryd.ntmps23
          go_wp2
          go_ret
          exact ⟨ret_bool HF.out.symm, rfl⟩
    · have c1 : decide (n ≤ 1114111) = false := decide_eq_false h1
      have HF : Hid (scal n = false) := Lib.hid (by simp [scal]; omega)
      clear h0 h1
      go_enter Tryd.func23, Tryd.ntmps23
      go_wp2
      go_ret
      exact ⟨ret_bool HF.out.symm, rfl⟩
  · have c0 : decide (0 ≤ n) = false := decide_eq_false h0
    have HF : Hid (scal n = false) := Lib.hid (by simp [scal]; omega)
    clear h0
    go_enter Tryd.func23, Tryd.ntmps23
    go_wp2
    go_ret
    exact ⟨ret_bool HF.out.symm, rfl⟩

theorem Scalar_any (n : Int) (w : World) : Calls Tryd.prog 36 #[.int .i64 n] w fun e w' => e = .returned (.bool (scal n)) ∧ w = w' := by
  by_cases h0 : 0 ≤ n
  · have c0 : decide (0 ≤ n) = true := decide_eq_true h0
    by_cases h1 : n ≤ 1114111
    · have c1 : decide (n ≤ 1114111) = true := decide_eq_true h1
      by_cases h2 : n < 55296
      · have c2 : decide (n < 55296) = true := decide_eq_true h2
        have HF : Hid (scal n = true) := Lib.hid (by simp [scal, h0, h1, h2])
        clear h0 h1 h2
        go_enter Tryd.func36, Tryd.ntmps36
        go_wp2
        go_ret
        exact ⟨ret_bool HF.out.symm, rfl⟩
      · have c2 : decide (n < 55296) = false := decide_eq_false h2
        by_cases h3 : 57343 < n
        · have c3 : decide (57343 < n) = true := decide_eq_true h3
          have HF : Hid (scal n = true) := Lib.hid (by simp [scal, h0, h1, h3])
          clear h0 h1 h2 h3
          go_enter Tryd.func36, Tryd.ntmps36
          go_wp2
          go_ret
          exact ⟨ret_bool HF.out.symm, rfl⟩
        · have c3 : decide (57343 < n) = false := decide_eq_false h3
          have HF : Hid (scal n = false) := Lib.hid (by simp [scal]; omega)
          clear h0 h1 h2 h3
          go_enter Tryd.func36, Tryd.ntmps36
          go_wp2
          go_ret
          exact ⟨ret_bool HF.out.symm, rfl⟩
    · have c1 : decide (n ≤ 1114111) = false := decide_eq_false h1
      have HF : Hid (scal n = false) := Lib.hid (by simp [scal]; omega)
      clear h0 h1
      go_enter Tryd.func36, Tryd.ntmps36
      go_wp2
      go_ret
      exact ⟨ret_bool HF.out.symm, rfl⟩
  · have c0 : decide (0 ≤ n) = false := decide_eq_false h0
    have HF : Hid (scal n = false) := Lib.hid (by simp [scal]; omega)
    clear h0
    go_enter Tryd.func36, Tryd.ntmps36
    go_wp2
    go_ret
    exact ⟨ret_bool HF.out.symm, rfl⟩

theorem bad_any (n : Int) (w : World) : Calls Tryd.prog 22 #[.int .i64 n] w fun e w' => e = .returned (.bool (!scal n)) ∧ w = w' := by
  go_enter Tryd.func22, Tryd.ntmps22
  go_wp2_with (go_at_call 23; with_reducible refine (scalar_any n _).mono ?_; rintro e w1 ⟨rfl, rfl⟩)
  go_ret
  exact ⟨rfl, rfl⟩

/-- A row of ints, read. -/
def IntsAt (w : World) (A : Option Addr) (ll : List Int) : Prop := ∀ k (h : k < ll.length), ∃ ad, A = some ad ∧ w.cell? (ad.add k) = some (.int .i64 ll[k])

theorem all_take {ll : List Int} {k : Nat} (h : k < ll.length) : (ll.take (k + 1)).all scal = ((ll.take k).all scal && scal ll[k]) := by
  rw [List.take_succ_eq_append_getElem h, List.all_append]; simp
theorem all_false {ll : List Int} {k : Nat} (h : k < ll.length) (hs : scal ll[k] = false) : ll.all scal = false := by
  rw [List.all_eq_false]; exact ⟨_, List.getElem_mem h, by simp [hs]⟩

set_option maxHeartbeats 1000000 in
theorem indexBad_any (A : Option Addr) (c : Nat) (ll : List Int) (w : World) (hl : ll.length ≤ 1099511627776) (h : IntsAt w A ll) :
    Calls Tryd.prog 32 #[.slice A ll.length c, .func (.func 22) #[] #[]] w fun e w' => (∃ z : Int, e = .returned (.int .i64 z) ∧ (decide (0 ≤ z) = !ll.all scal)) ∧ w = w' := by
  have HI := Lib.hid h
  clear h
  go_enter Tryd.func32, Tryd.ntmps32
  go_wp2_with fail
  go_loop [8] (fun i => ∃ k : Nat, i = .int .i64 k ∧ k ≤ ll.length ∧ Hid ((ll.take k).all scal = true)) (fun i => ll.length - (intOf i).toNat)
  case atStart => exact ⟨0, rfl, Nat.zero_le _, Lib.hid rfl⟩
  case round =>
    obtain ⟨k, rfl, hk, ht⟩ := hrel
    by_cases hlt : k < ll.length
    · have d1 : decide (k < ll.length) = true := decide_eq_true hlt
      obtain ⟨ad, rfl, hc⟩ := HI.out k hlt
      cases hs : scal ll[k] with
      | true =>
        have hs2 : Hid ((ll.take (k + 1)).all scal = true) := Lib.hid (by rw [all_take hlt, ht.out, hs]; rfl)
        go_wp2_with (go_at_call 22; with_reducible refine (bad_any ll[k] _).mono ?_; rintro e w1 ⟨rfl, rfl⟩; rw [hs])
        go_round
        case rel => exact ⟨k + 1, by go_num, hlt, hs2⟩
        case measure => simp [intOf]; omega
      | false =>
        have hF : Hid (ll.all scal = false) := Lib.hid (all_false hlt hs)
        go_wp2_with (go_at_call 22; with_reducible refine (bad_any ll[k] _).mono ?_; rintro e w1 ⟨rfl, rfl⟩; rw [hs])
        go_ret
        exact ⟨⟨(k : Int), rfl, by rw [hF.out]; simp⟩, rfl⟩
    · have d1 : decide (k < ll.length) = false := decide_eq_false hlt
      have hT : Hid (ll.all scal = true) := Lib.hid (by have := ht.out; rwa [List.take_of_length_le (by omega)] at this)
      go_wp2_with fail
      go_ret
      exact ⟨⟨-1, rfl, by rw [hT.out]; rfl⟩, rfl⟩

theorem containsBad_any (A : Option Addr) (c : Nat) (ll : List Int) (w : World) (hl : ll.length ≤ 1099511627776) (h : IntsAt w A ll) :
    Calls Tryd.prog 21 #[.slice A ll.length c, .func (.func 22) #[] #[]] w fun e w' => e = .returned (.bool (!ll.all scal)) ∧ w = w' := by
  have HI := Lib.hid h
  clear h
  go_enter Tryd.func21, Tryd.ntmps21
  go_wp2_with (go_at_call 32; with_reducible refine (indexBad_any A c ll _ hl HI.out).mono ?_; rintro e w1 ⟨⟨z, rfl, hz⟩, rfl⟩; have HZ := Lib.hid hz; clear hz)
  go_ret
  exact ⟨ret_bool HZ.out, rfl⟩

set_option maxHeartbeats 1000000 in
theorem scalars_any (A : Option Addr) (c : Nat) (ll : List Int) (w : World) (hl : ll.length ≤ 1099511627776) (h : IntsAt w A ll) :
    Calls Tryd.prog 30 #[.slice A ll.length c] w fun e w' => e = .returned (.bool (ll.all scal)) ∧ w = w' := by
  have HI := Lib.hid h
  clear h
  go_enter Tryd.func30, Tryd.ntmps30
  go_wp2_with fail
  go_loop [3] (fun i => ∃ k : Nat, i = .int .i64 k ∧ k ≤ ll.length ∧ Hid ((ll.take k).all scal = true)) (fun i => ll.length - (intOf i).toNat)
  case atStart => exact ⟨0, rfl, Nat.zero_le _, Lib.hid rfl⟩
  case round =>
    obtain ⟨k, rfl, hk, ht⟩ := hrel
    by_cases hlt : k < ll.length
    · have d1 : decide (k < ll.length) = true := decide_eq_true hlt
      obtain ⟨ad, rfl, hc⟩ := HI.out k hlt
      cases hs : scal ll[k] with
      | true =>
        have hs2 : Hid ((ll.take (k + 1)).all scal = true) := Lib.hid (by rw [all_take hlt, ht.out, hs]; rfl)
        go_wp2_with (go_at_call 36; with_reducible refine (Scalar_any ll[k] _).mono ?_; rintro e w1 ⟨rfl, rfl⟩; rw [hs])
        go_round
        case rel => exact ⟨k + 1, by go_num, hlt, hs2⟩
        case measure => simp [intOf]; omega
      | false =>
        have hF : Hid (ll.all scal = false) := Lib.hid (all_false hlt hs)
        go_wp2_with (go_at_call 36; with_reducible refine (Scalar_any ll[k] _).mono ?_; rintro e w1 ⟨rfl, rfl⟩; rw [hs])
        go_ret
        exact ⟨ret_bool hF.out.symm, rfl⟩
    · have d1 : decide (k < ll.length) = false := decide_eq_false hlt
      have hT : Hid (ll.all scal = true) := Lib.hid (by have := ht.out; rwa [List.take_of_length_le (by omega)] at this)
      go_wp2_with fail
      go_ret
      exact ⟨ret_bool hT.out.symm, rfl⟩
end Go.Proofs.YtpgaimpppehpcabDoor
