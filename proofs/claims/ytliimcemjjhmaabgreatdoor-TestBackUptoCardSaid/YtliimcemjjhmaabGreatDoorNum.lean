/- caesurakit.Num of each sentinel. -/
import Derived.Test.YtliimcemjjhmaabGreatDoorSent
namespace Go.Proofs.YtliimcemjjhmaabGreatDoor
open Go.RowKit

theorem errMem : ∀ n, 1 ≤ n → n ≤ 11 → n ∈ errList := by
  intro n h0 h1
  have : ∀ m : Fin 11, (m.val + 1) ∈ errList := by decide
  have h := this ⟨n - 1, by omega⟩
  rwa [show n - 1 + 1 = n from by omega] at h

set_option maxHeartbeats 1000000 in
theorem num_more (a : Nat → Addr) (n : Nat) (h0 : 8 ≤ n) (h1 : n ≤ 11) (w : World) (hs : Sent a w) :
    Calls Tryz.prog 14 #[errV a n] w fun e w' => e = .returned (.int .i64 n) ∧ w' = w := by
  have c8 : w.cell? ⟨7, 0, none⟩ = some (.iface 132 (.pointer (some (a 8)))) := hs.cell 8 (by decide); have c9 : w.cell? ⟨8, 0, none⟩ = some (.iface 132 (.pointer (some (a 9)))) := hs.cell 9 (by decide); have c10 : w.cell? ⟨9, 0, none⟩ = some (.iface 132 (.pointer (some (a 10)))) := hs.cell 10 (by decide); have c11 : w.cell? ⟨10, 0, none⟩ = some (.iface 132 (.pointer (some (a 11)))) := hs.cell 11 (by decide)
  have hn := errMem n (by omega) h1
  have e8 := hs.eql n 8 hn (by decide); have e9 := hs.eql n 9 hn (by decide)
  have e10 := hs.eql n 10 hn (by decide); have e11 := hs.eql n 11 hn (by decide)
  clear hs hn
  obtain rfl | rfl | rfl | rfl : n = 8 ∨ n = 9 ∨ n = 10 ∨ n = 11 := by omega
  all_goals
    simp only [Nat.reduceBEq] at e8 e9 e10 e11
    unfold errV
    go_enter Tryz.func14, Tryz.ntmps14
    go_wp2
    go_ret
    exact ⟨rfl, rfl⟩

set_option maxHeartbeats 4000000 in
theorem num_any (a : Nat → Addr) (n : Nat) (h1 : n ≤ 11) (w : World) (hs : Sent a w) :
    Calls Tryz.prog 6 #[errV a n] w fun e w' => e = .returned (.int .i64 n) ∧ w' = w := by
  by_cases h8 : 8 ≤ n
  · have c1 : w.cell? ⟨1, 0, none⟩ = some (.iface 132 (.pointer (some (a 1)))) := hs.cell 1 (by decide); have c2 : w.cell? ⟨2, 0, none⟩ = some (.iface 132 (.pointer (some (a 2)))) := hs.cell 2 (by decide); have c3 : w.cell? ⟨0, 0, none⟩ = some (.iface 132 (.pointer (some (a 3)))) := hs.cell 3 (by decide); have c4 : w.cell? ⟨3, 0, none⟩ = some (.iface 132 (.pointer (some (a 4)))) := hs.cell 4 (by decide)
    have c5 : w.cell? ⟨4, 0, none⟩ = some (.iface 132 (.pointer (some (a 5)))) := hs.cell 5 (by decide); have c6 : w.cell? ⟨5, 0, none⟩ = some (.iface 132 (.pointer (some (a 6)))) := hs.cell 6 (by decide); have c7 : w.cell? ⟨6, 0, none⟩ = some (.iface 132 (.pointer (some (a 7)))) := hs.cell 7 (by decide)
    have hn := errMem n (by omega) h1
    have e1 := hs.eql n 1 hn (by decide); have e2 := hs.eql n 2 hn (by decide)
    have e3 := hs.eql n 3 hn (by decide); have e4 := hs.eql n 4 hn (by decide)
    have e5 := hs.eql n 5 hn (by decide); have e6 := hs.eql n 6 hn (by decide)
    have e7 := hs.eql n 7 hn (by decide)
    have hm := num_more a n h8 h1 w hs
    obtain ⟨m, rfl⟩ : ∃ m, n = m + 1 := ⟨n - 1, by omega⟩
    have f1 : (m + 1 == 1) = false := by simp; omega
    have f2 : (m + 1 == 2) = false := by simp; omega
    have f3 : (m + 1 == 3) = false := by simp; omega
    have f4 : (m + 1 == 4) = false := by simp; omega
    have f5 : (m + 1 == 5) = false := by simp; omega
    have f6 : (m + 1 == 6) = false := by simp; omega
    have f7 : (m + 1 == 7) = false := by simp; omega
    rw [f1] at e1; rw [f2] at e2; rw [f3] at e3; rw [f4] at e4; rw [f5] at e5; rw [f6] at e6; rw [f7] at e7
    clear hn f1 f2 f3 f4 f5 f6 f7
    have HS := Lib.hid hs; clear hs
    have HM := Lib.hid hm; clear hm
    unfold errV
    go_enter Tryz.func6, Tryz.ntmps6
    go_wp2_with (go_at_call 14; refine HM.out.mono ?_; rintro e w' ⟨rfl, rfl⟩)
    go_ret
    exact ⟨rfl, rfl⟩
  · have c1 : w.cell? ⟨1, 0, none⟩ = some (.iface 132 (.pointer (some (a 1)))) := hs.cell 1 (by decide); have c2 : w.cell? ⟨2, 0, none⟩ = some (.iface 132 (.pointer (some (a 2)))) := hs.cell 2 (by decide); have c3 : w.cell? ⟨0, 0, none⟩ = some (.iface 132 (.pointer (some (a 3)))) := hs.cell 3 (by decide); have c4 : w.cell? ⟨3, 0, none⟩ = some (.iface 132 (.pointer (some (a 4)))) := hs.cell 4 (by decide)
    have c5 : w.cell? ⟨4, 0, none⟩ = some (.iface 132 (.pointer (some (a 5)))) := hs.cell 5 (by decide); have c6 : w.cell? ⟨5, 0, none⟩ = some (.iface 132 (.pointer (some (a 6)))) := hs.cell 6 (by decide); have c7 : w.cell? ⟨6, 0, none⟩ = some (.iface 132 (.pointer (some (a 7)))) := hs.cell 7 (by decide)
    cases n with
    | zero =>
      clear hs
      unfold errV
      go_enter Tryz.func6, Tryz.ntmps6
      go_wp2
      go_ret
      exact ⟨rfl, rfl⟩
    | succ m =>
      have hn := errMem (m + 1) (by omega) h1
      have e1 := hs.eql (m + 1) 1 hn (by decide); have e2 := hs.eql (m + 1) 2 hn (by decide)
      have e3 := hs.eql (m + 1) 3 hn (by decide); have e4 := hs.eql (m + 1) 4 hn (by decide)
      have e5 := hs.eql (m + 1) 5 hn (by decide); have e6 := hs.eql (m + 1) 6 hn (by decide)
      have e7 := hs.eql (m + 1) 7 hn (by decide)
      clear hs hn
      obtain rfl | rfl | rfl | rfl | rfl | rfl | rfl : m = 0 ∨ m = 1 ∨ m = 2 ∨ m = 3 ∨ m = 4 ∨ m = 5 ∨ m = 6 := by omega
      all_goals
        simp only [Nat.reduceAdd, Nat.reduceBEq] at e1 e2 e3 e4 e5 e6 e7
        unfold errV
        go_enter Tryz.func6, Tryz.ntmps6
        go_wp2
        go_ret
        exact ⟨rfl, rfl⟩
end Go.Proofs.YtliimcemjjhmaabGreatDoor
