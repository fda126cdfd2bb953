/- desk.plain: the walk. -/
import Derived.Test.YtpgaimpppehpcafDoorDeskW2
import Derived.Test.YtpgaimpppehpcafDoorCut
namespace Go.Proofs.YtpgaimpppehpcafDoor
open Go.RowKit

def PlainPost (a : Nat → Addr) (l : List UInt8) (w : World) (e : Ending) (w' : World) : Prop := (∃ n, w' = w.drewN n) ∧
  match Dw.plainS l with
  | some (wd, rest) => ∃ x y : ByteArray, e = .returned (.tuple #[.string x, .string y, .nilIface]) ∧ x.data.toList = wd ∧ y.data.toList = rest
  | none => e = .returned (.tuple #[.string ⟨#[]⟩, .string ⟨#[]⟩, errV a 2])

theorem PlainPost.none {a : Nat → Addr} {l : List UInt8} {w : World} {n m : Nat} (h : Dw.plainS l = none) : PlainPost a l w (.returned (.tuple #[.string ⟨#[]⟩, .string ⟨#[]⟩, .iface 72 (.pointer (some (a 2)))])) ((w.drewN n).drewN m) := by
  refine ⟨⟨n + m, by rw [World.drewN_drewN]⟩, ?_⟩; rw [h]; rfl
theorem PlainPost.some {a : Nat → Addr} {l wd rest : List UInt8} {w : World} {n m : Nat} {x y : ByteArray} (h : Dw.plainS l = some (wd, rest)) (hx : x.data.toList = wd) (hy : y.data.toList = rest) : PlainPost a l w (.returned (.tuple #[.string x, .string y, .nilIface])) ((w.drewN n).drewN m) := by
  refine ⟨⟨n + m, by rw [World.drewN_drewN]⟩, ?_⟩; rw [h]; exact ⟨x, y, rfl, hx, hy⟩

theorem okc_no {c : UInt8} (h : c.toNat < 33 ∨ 126 < c.toNat ∨ c.toNat = 34) : Dw.okc c = false := by
  simp [Dw.okc]; omega
theorem okc_yes {c : UInt8} (h : 33 ≤ c.toNat ∧ c.toNat ≤ 126 ∧ c.toNat ≠ 34) : Dw.okc c = true := by
  simp [Dw.okc]; omega
theorem all_bad {l : List UInt8} {x : ByteArray} {k : Nat} (hx : x.data.toList = l) (hk : k < x.size) (h : Dw.okc x[k] = false) : l.all Dw.okc = false := by
  subst hx
  rw [List.all_eq_false]
  exact ⟨x[k], List.mem_of_getElem? (i := k) (by rw [Array.getElem?_toList]; exact Array.getElem?_eq_getElem hk), by rw [h]; decide⟩

set_option maxHeartbeats 2000000 in
theorem plain_any (a : Nat → Addr) (s : ByteArray) (w : World) (hs : s.size ≤ 140737488351232) (hsent : Sent a w) :
    Calls Tryd.prog 11 #[.string s] w (PlainPost a s.data.toList w) := by
  have HS := Lib.hid hsent
  clear hsent
  go_enter Tryd.func11, Tryd.ntmps11
  go_wp2_with (go_at_call 19; refine (cut_any s 32 _ hs).mono ?_; rintro e w' ⟨⟨n, rfl⟩, x, y, rfl, hx, hy⟩; have HX := Lib.hid hx; clear hx hy)
  have hxs : x.size ≤ s.size := by
    rw [← len_str x, ← len_str s, HX.out]; exact (List.takeWhile_sublist _).length_le
  have hg1 : w.cell? ⟨0, 0, none⟩ = some (.iface 72 (.pointer (some (a 2)))) := HS.out.cell 2 (by decide)
  go_loop [17] (fun i => ∃ k : Nat, k ≤ x.size ∧ i = .int .i64 k ∧ Hid ((x.data.toList.take k).all Dw.okc = true)) (fun i => x.size - (intOf i).toNat)
  case atStart => exact ⟨0, by omega, rfl, Lib.hid rfl⟩
  case round =>
    obtain ⟨k, hk, rfl, hall⟩ := hrel
    by_cases hlt : k < x.size
    · by_cases hbad : x[k].toNat < 33 ∨ 126 < x[k].toNat ∨ x[k].toNat = 34
      · have HB := Lib.hid (okc_no hbad)
        have hfin : ∀ m, PlainPost a s.data.toList w (.returned (.tuple #[.string ⟨#[]⟩, .string ⟨#[]⟩, .iface 72 (.pointer (some (a 2)))])) ((w.drewN n).drewN m) := fun m =>
          PlainPost.none (by unfold Dw.plainS; rw [show s.data.toList.takeWhile Dw.nb = s.data.toList.takeWhile (· != 32) from rfl, all_bad HX.out hlt HB.out]; rfl)
        have HF := Lib.hid hfin
        clear hfin
        by_cases h1 : x[k].toNat < 33
        · have c1 : decide ((x[k].toNat : Int) < 33) = true := decide_eq_true (by omega)
          clear hbad h1
          go_wp2
          go_quiet (fail)
          go_wp2
          go_ret3
          exact HF.out _
        · have c1 : decide ((x[k].toNat : Int) < 33) = false := decide_eq_false (by omega)
          by_cases h2 : 126 < x[k].toNat
          · have c2 : decide (126 < (x[k].toNat : Int)) = true := decide_eq_true (by omega)
            clear hbad h1 h2
            go_wp2
            go_quiet (fail)
            go_wp2
            go_ret3
            exact HF.out _
          · have c2 : decide (126 < (x[k].toNat : Int)) = false := decide_eq_false (by omega)
            have c3 : ((x[k].toNat : Int) == 34) = true := beqI_true (by omega)
            clear hbad h1 h2
            go_wp2
            go_quiet (fail)
            go_wp2
            go_ret3
            exact HF.out _
      · have c1 : decide ((x[k].toNat : Int) < 33) = false := decide_eq_false (by omega)
        have c2 : decide (126 < (x[k].toNat : Int)) = false := decide_eq_false (by omega)
        have c3 : ((x[k].toNat : Int) == 34) = false := beqI_false (by omega)
        have HB := Lib.hid (okc_yes (c := x[k]) (by omega))
        clear hbad
        go_wp2
        go_round
        case rel => exact ⟨k + 1, hlt, by go_num, Lib.hid (by rw [take_at x k hlt, List.all_append, hall.out]; simp [HB.out])⟩
        case measure => simp [intOf]; omega
    · have hke : k = x.size := by omega
      subst hke
      have hfull : x.data.toList.take x.size = x.data.toList := List.take_of_length_le (by rw [len_str]; omega)
      have HL := Lib.hid hfull
      clear hfull
      go_wp2
      go_quiet (fail)
      go_wp2
      go_ret3
      have hall' := hall.out
      rw [HL.out] at hall'
      refine PlainPost.some (wd := s.data.toList.takeWhile Dw.nb) (rest := s.data.toList.dropWhile Dw.nb) ?_ HX.out ?_
      · unfold Dw.plainS; rw [show s.data.toList.takeWhile Dw.nb = x.data.toList from HX.out.symm, hall']; rfl
      · rw [ext_data, ← drop_takeWhile, ← len_str x, HX.out]; rfl
end Go.Proofs.YtpgaimpppehpcafDoor
