/- caesuraref0.SameStrings: the walk. -/
import Derived.Test.YtpgaimpppehpcaeDoorWordLemmas
import Derived.BigQuiet
import Derived.Outline
namespace Go.Proofs.YtpgaimpppehpcaeDoor
open Go.RowKit Go.Proofs.YtpgaimpppehpcaeDoorW.PrintWords

abbrev ReadStrs (w : World) (A : Option Addr) (l : List ByteArray) : Prop := Kd.C Kd.string w A l.length l

theorem readStr {w : World} {A : Option Addr} {l : List ByteArray} (h : ReadStrs w A l) (k : Nat) (hk : k < l.length) : ∃ ad, A = some ad ∧ w.cell? (ad.add k) = some (.string l[k]) := by
  obtain ⟨ad, e, hc⟩ := (Kd.reads_of_C (d := ByteArray.empty) h).at_ (k : Int) (by omega) (by omega)
  refine ⟨ad, e, ?_⟩
  rw [Int.toNat_natCast] at hc
  rw [hc, rdOf, Int.toNat_natCast, List.getD_eq_getElem?_getD, List.getElem?_eq_getElem hk]; rfl

theorem take_succ_bytes {x : List ByteArray} {k : Nat} (h : k < x.length) : (bytesL x).take (k + 1) = (bytesL x).take k ++ [x[k].data.toList] := by
  rw [List.take_succ_eq_append_getElem (by simpa [bytesL] using h)]; simp [bytesL]

set_option maxHeartbeats 2000000 in
theorem sameStrings_any (A B : Option Addr) (c d : Nat) (x y : List ByteArray) (w : World) (hx : ReadStrs w A x) (hy : ReadStrs w B y) (hlx : x.length ≤ 9223372036854775807) (hly : y.length ≤ 9223372036854775807) :
    Calls Tryd.prog 6 #[.slice A x.length c, .slice B y.length d] w fun e w' => e = .returned (.bool (decide (bytesL x = bytesL y))) ∧ ∃ n, w' = w.drewN n := by
  have HX := Lib.hid hx
  have HY := Lib.hid hy
  clear hx hy
  by_cases hl : x.length = y.length
  · have b0 : ((x.length : Int) != (y.length : Int)) = false := bneI_false (by omega)
    have hle : x.length ≤ y.length := by omega
    have HL := Lib.hid hl
    clear hl
    go_enter Tryd.func6, Tryd.ntmps6
    go_wp2
    go_loopw [5] (fun i wr => ∃ k : Nat, i = .int .i64 k ∧ k ≤ x.length ∧ Hid ((bytesL x).take k = (bytesL y).take k) ∧ ∃ n, wr = w.drewN n) (fun i _ => x.length - (intOf i).toNat)
    case atStart => exact ⟨0, rfl, by omega, Lib.hid rfl, 0, rfl⟩
    case round =>
      obtain ⟨k, rfl, hk, ht, n, rfl⟩ := hrel
      by_cases hlt : k < x.length
      · have hlt2 : k < y.length := by omega
        obtain ⟨ad, rfl, hc⟩ := readStr HX.out k hlt
        obtain ⟨bd, rfl, hd⟩ := readStr HY.out k hlt2
        have c0 : decide ((k : Int) < x.length) = true := decide_eq_true (by omega)
        by_cases he : x[k].data.toList = y[k].data.toList
        · have hbe : (x[k].toList == y[k].toList) = true := by rw [toL, toL]; simpa using he
          have HE := Lib.hid he
          clear he
          go_wp2
          go_quiet (fail)
          go_wp2
          go_roundw
          case rel => exact ⟨k + 1, by go_num, hlt, Lib.hid (by rw [take_succ_bytes hlt, take_succ_bytes hlt2, ht.out, HE.out]), ⟨_, rfl⟩⟩
          case measure => simp [intOf]; omega
        · have hbe : (x[k].toList == y[k].toList) = false := by rw [toL, toL]; simpa using he
          have HF : Hid (bytesL x ≠ bytesL y) := Lib.hid (fun e => he (by
            have e2 : (bytesL x)[k]? = (bytesL y)[k]? := by rw [e]
            simpa [bytesL, hlt, hlt2] using e2))
          clear he
          go_wp2
          go_quiet (fail)
          go_wp2
          go_ret
          exact ⟨ret_bool (decide_eq_false HF.out).symm, _, World.drewN_drewN _ _ _⟩
      · have c0 : decide ((k : Int) < x.length) = false := decide_eq_false (by omega)
        have HF : Hid (bytesL x = bytesL y) := Lib.hid (by
          have h1 : (bytesL x).take k = bytesL x := List.take_of_length_le (by simp [bytesL]; omega)
          have h2 : (bytesL y).take k = bytesL y := List.take_of_length_le (by have := HL.out; simp [bytesL]; omega)
          rw [← h1, ← h2, ht.out])
        go_wp2
        go_ret
        exact ⟨ret_bool (decide_eq_true HF.out).symm, _, rfl⟩
  · have b0 : ((x.length : Int) != (y.length : Int)) = true := bneI_true (by omega)
    have HF : Hid (bytesL x ≠ bytesL y) := Lib.hid (fun e => hl (by have := congrArg List.length e; simpa [bytesL] using this))
    clear hl
    go_enter Tryd.func6, Tryd.ntmps6
    go_wp2
    go_ret
    exact ⟨ret_bool (decide_eq_false HF.out).symm, 0, rfl⟩
end Go.Proofs.YtpgaimpppehpcaeDoor
