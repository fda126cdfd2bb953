/- The reference's words: the walks of hex, escaped. -/
import Derived.Test.YtpgaimpppehpcaeDoorDeskSpec
import Derived.Test.YtpgaimpppehpcaeDoorStr
import Derived.Test.YtpgaimpppehpcaeDoorProg
import Derived.WalkKit
import Derived.KernelRfl
import Derived.Below
import Derived.Lib.ConvBytes
import Derived.Laws.BytesArg
import Derived.WalkSpells
import Derived.Outline
namespace Go.Proofs.YtpgaimpppehpcaeDoor
open Go.RowKit

set_option maxHeartbeats 400000 in
theorem rhex_any (u : UInt8) (w : World) :
    Calls Tryd.prog 29 #[.int .u8 (u.toNat : Int)] w fun e w' => e = .returned (.int .i64 (Dw.hexa u.toNat)) ∧ w' = w := by
  have h0 : (0 : Int) ≤ u.toNat := by omega
  have h1 : (u.toNat : Int) < 256 := by have := u.toNat_lt; omega
  generalize (u.toNat : Int) = c at *
  go_enter Tryd.func29, Tryd.ntmps29
  go_wp2
  all_goals
    go_ret
    refine ⟨ret_int ?_, rfl⟩
    unfold Dw.hexa
    repeat' split
    all_goals omega

def EscPost (l : List UInt8) (at_ : Nat) (w : World) (e : Ending) (w' : World) : Prop := Below w.heap.size w w' ∧
  match Dw.esc l with
  | some (b, n) => ∃ x : ByteArray, e = .returned (.tuple #[.string x, .int .i64 ((at_ : Int) + n)]) ∧ x.data.toList = [b]
  | none => e = .returned (.tuple #[.string ⟨#[]⟩, .int .i64 (-1)])
theorem EscPost.none {l : List UInt8} {k : Nat} {w w' : World} (h : Dw.esc l = none) (hb : Below w.heap.size w w') : EscPost l k w (.returned (.tuple #[.string ⟨#[]⟩, .int .i64 (-1)])) w' := by
  refine ⟨hb, ?_⟩; rw [h]
theorem EscPost.some {l : List UInt8} {k n : Nat} {b : UInt8} {w w' : World} {x : ByteArray} {i : Int} (h : Dw.esc l = some (b, n)) (hb : Below w.heap.size w w') (hx : x.data.toList = [b]) (hi : i = (k : Int) + n) : EscPost l k w (.returned (.tuple #[.string x, .int .i64 i])) w' := by
  refine ⟨hb, ?_⟩; rw [h]; exact ⟨x, by rw [hi], hx⟩

theorem esc_self {x c : UInt8} {r : List UInt8} (h : c.toNat = 34 ∨ c.toNat = 92) : Dw.esc (x :: c :: r) = some (c, 2) := by simp [Dw.esc, h]
theorem esc_nl {x c : UInt8} {r : List UInt8} (h : c.toNat = 110) : Dw.esc (x :: c :: r) = some (10, 2) := by simp [Dw.esc, h]
theorem esc_hex {x c a b : UInt8} {r : List UInt8} (h : c.toNat = 120) (ha : 0 ≤ Dw.hexa a.toNat) (hb : 0 ≤ Dw.hexa b.toNat) : Dw.esc (x :: c :: a :: b :: r) = some (UInt8.ofNat (16 * Dw.hexa a.toNat + Dw.hexa b.toNat).toNat, 4) := by
  simp [Dw.esc, h, ha, hb]
theorem esc_hexbad {x c a b : UInt8} {r : List UInt8} (h : c.toNat = 120) (hh : Dw.hexa a.toNat < 0 ∨ Dw.hexa b.toNat < 0) : Dw.esc (x :: c :: a :: b :: r) = none := by
  have : ¬ (0 ≤ Dw.hexa a.toNat ∧ 0 ≤ Dw.hexa b.toNat) := by omega
  simp [Dw.esc, h, this]
theorem esc_short {l : List UInt8} (h : l.length < 2) : Dw.esc l = none := by
  match l, h with
  | [], _ => rfl
  | [_], _ => rfl
theorem esc_short4 {x c : UInt8} {r : List UInt8} (h : c.toNat ≠ 34 ∧ c.toNat ≠ 92 ∧ c.toNat ≠ 110) (hr : r.length < 2) : Dw.esc (x :: c :: r) = none := by
  match r, hr with
  | [], _ => simp [Dw.esc, h]
  | [_], _ => simp [Dw.esc, h]
theorem esc_other {x c : UInt8} {r : List UInt8} (h : c.toNat ≠ 34 ∧ c.toNat ≠ 92 ∧ c.toNat ≠ 110 ∧ c.toNat ≠ 120) : Dw.esc (x :: c :: r) = none := by
  simp [Dw.esc, h]

/-- 'string([]byte{b})', the byte in a new block. -/
theorem conv_one (w : World) (b : Int) : (convert 47 9 (.slice (some ⟨w.heap.size, 0, none⟩) 1 1)).run Tryd.prog (w.alloc (.cells #[.int .u8 b] 5)) = .ok (.string (strOfNums [b])) (w.alloc (.cells #[.int .u8 b] 5)) :=
  run_convert_bytes_arg (w.alloc (.cells #[.int .u8 b] 5)) 47 5 Tryd.underlying47 Tryd.underlying5 w.heap.size 0 1 1 [b] rfl (fun i hi => by
    obtain rfl : i = 0 := by omega
    exact World.cell?_alloc_at _ _ _ _ rfl) 9 Tryd.underlying9

theorem drop2 (s : ByteArray) (k : Nat) (h : k + 1 < s.size) : s.data.toList.drop k = s[k] :: s[k + 1] :: s.data.toList.drop (k + 2) := by
  rw [drop_at s k (by omega), drop_at s (k + 1) h]

set_option maxHeartbeats 2000000 in
theorem escaped_any (s : ByteArray) (k : Nat) (hk : k < s.size) (hs : s.size ≤ 140737488351232) (w : World) :
    Calls Tryd.prog 22 #[.string s, .int .i64 (k : Int)] w (EscPost (s.data.toList.drop k) k w) := by
  by_cases h2 : k + 1 < s.size
  · have hd := Lib.hid (drop2 s k h2)
    by_cases h34 : s[k + 1].toNat = 34 ∨ s[k + 1].toNat = 92
    · have H := Lib.hid h34
      have hsub : (s.extract (k + 1) (k + 2)).data.toList = [s[k + 1]] := by
        rw [ext_sub, drop_at s (k + 1) h2, show k + 2 - (k + 1) = 1 from by omega]; rfl
      have HSUB := Lib.hid hsub
      clear hsub
      rcases h34 with h | h
      · have b1 : ((s[k + 1].toNat : Int) == 34) = true := beqI_true (by omega)
        clear h
        go_enter Tryd.func22, Tryd.ntmps22
        go_wp2
        go_ret2
        exact EscPost.some (by rw [hd.out]; exact esc_self H.out) (Below.refl _ _) HSUB.out (by omega)
      · have b1 : ((s[k + 1].toNat : Int) == 34) = false := beqI_false (by omega)
        have b2 : ((s[k + 1].toNat : Int) == 92) = true := beqI_true (by omega)
        clear h
        go_enter Tryd.func22, Tryd.ntmps22
        go_wp2
        go_ret2
        exact EscPost.some (by rw [hd.out]; exact esc_self H.out) (Below.refl _ _) HSUB.out (by omega)
    · have b1 : ((s[k + 1].toNat : Int) == 34) = false := beqI_false (by omega)
      have b2 : ((s[k + 1].toNat : Int) == 92) = false := beqI_false (by omega)
      by_cases h110 : s[k + 1].toNat = 110
      · have b3 : ((s[k + 1].toNat : Int) == 110) = true := beqI_true (by omega)
        have H := Lib.hid h110
        clear h110 h34
        go_enter Tryd.func22, Tryd.ntmps22
        go_wp2
        go_ret2
        exact EscPost.some (by rw [hd.out]; exact esc_nl H.out) (Below.refl _ _) rfl (by omega)
      · have b3 : ((s[k + 1].toNat : Int) == 110) = false := beqI_false (by omega)
        by_cases h120 : s[k + 1].toNat = 120
        · have b4 : ((s[k + 1].toNat : Int) != 120) = false := bneI_false (by omega)
          by_cases h4 : k + 3 < s.size
          · have hd4 : s.data.toList.drop k = s[k] :: s[k + 1] :: s[k + 2] :: s[k + 3] :: s.data.toList.drop (k + 4) := by rw [drop2 s k h2, drop2 s (k + 2) h4]
            have HD := Lib.hid hd4
            have H := Lib.hid h120
            clear hd4 h120 h110 h34
            have hr2 := Dw.hexa_range s[k + 2].toNat
            have hr3 := Dw.hexa_range s[k + 3].toNat
            go_enter Tryd.func22, Tryd.ntmps22
            go_wp2_with (go_at_call 29; refine (rhex_any _ _).mono ?_; rintro e w' ⟨rfl, rfl⟩)
            · go_ret2
              exact EscPost.none (by rw [HD.out]; exact esc_hexbad H.out (by omega)) (Below.refl _ _)
            · rename_i wq _ _
              have hw2 : IntKind.u8.wrap (Dw.hexa s[k + 2].toNat * 16 + Dw.hexa s[k + 3].toNat) = Dw.hexa s[k + 2].toNat * 16 + Dw.hexa s[k + 3].toNat := by
                unfold IntKind.wrap; simp [IntKind.bits, IntKind.signed]; omega
              rw [conv_one]
              go_wp2
              go_ret2
              refine EscPost.some (by rw [HD.out]; exact esc_hex H.out (by omega) (by omega)) ((Below.refl _ _).alloc (Nat.le_refl _) _) ?_ (by omega)
              rw [strOfNums_data]
              simp [Int.mul_comm]
            · go_ret2
              exact EscPost.none (by rw [HD.out]; exact esc_hexbad H.out (by omega)) (Below.refl _ _)
          · have hr : (s.data.toList.drop (k + 2)).length < 2 := by rw [List.length_drop, len_str]; omega
            have HR := Lib.hid hr
            have HE : Hid (Dw.esc (s.data.toList.drop k) = none) := Lib.hid (by rw [hd.out]; exact esc_short4 ⟨by omega, by omega, h110⟩ hr)
            clear hr h120 h110 h34
            go_enter Tryd.func22, Tryd.ntmps22
            go_wp2
            go_ret2
            exact EscPost.none HE.out (Below.refl _ _)
        · have b4 : ((s[k + 1].toNat : Int) != 120) = true := bneI_true (by omega)
          have HE : Hid (Dw.esc (s.data.toList.drop k) = none) := Lib.hid (by rw [hd.out]; exact esc_other ⟨by omega, by omega, h110, h120⟩)
          clear h120 h110 h34
          go_enter Tryd.func22, Tryd.ntmps22
          go_wp2
          go_ret2
          exact EscPost.none HE.out (Below.refl _ _)
  · have HE : Hid (Dw.esc (s.data.toList.drop k) = none) := Lib.hid (esc_short (by rw [List.length_drop, len_str]; omega))
    go_enter Tryd.func22, Tryd.ntmps22
    go_wp2
    go_ret2
    exact EscPost.none HE.out (Below.refl _ _)
end Go.Proofs.YtpgaimpppehpcaeDoor
