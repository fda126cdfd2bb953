/- desk.quoted: the walk. -/
import Derived.Test.YtpgaimpppehpcafDoorDeskW
import Derived.Test.YtpgaimpppehpcafDoorQuoLemmas
namespace Go.Proofs.YtpgaimpppehpcafDoor
open Go.RowKit

def QuoPost (a : Nat → Addr) (l : List UInt8) (w : World) (e : Ending) (w' : World) : Prop := Below w.heap.size w w' ∧
  match Dw.quo l with
  | some (wd, rest) => ∃ x y : ByteArray, e = .returned (.tuple #[.string x, .string y, .nilIface]) ∧ x.data.toList = wd ∧ y.data.toList = rest
  | none => e = .returned (.tuple #[.string ⟨#[]⟩, .string ⟨#[]⟩, errV a 2])

theorem QuoPost.none {a : Nat → Addr} {l : List UInt8} {w w' : World} (h : Dw.quo l = none) (hb : Below w.heap.size w w') : QuoPost a l w (.returned (.tuple #[.string ⟨#[]⟩, .string ⟨#[]⟩, .iface 72 (.pointer (some (a 2)))])) w' := by
  refine ⟨hb, ?_⟩; rw [h]; rfl
theorem QuoPost.some {a : Nat → Addr} {l wd rest : List UInt8} {w w' : World} {x y : ByteArray} (h : Dw.quo l = some (wd, rest)) (hb : Below w.heap.size w w') (hx : x.data.toList = wd) (hy : y.data.toList = rest) : QuoPost a l w (.returned (.tuple #[.string x, .string y, .nilIface])) w' := by
  refine ⟨hb, ?_⟩; rw [h]; exact ⟨x, y, rfl, hx, hy⟩

set_option maxHeartbeats 4000000 in
theorem quoted_any (a : Nat → Addr) (s : ByteArray) (w : World) (hs : s.size ≤ 140737488351232) (h1 : 1 ≤ s.size) (hsent : Sent a w) :
    Calls Tryd.prog 12 #[.string s] w (QuoPost a (s.data.toList.drop 1) w) := by
  have HS := Lib.hid hsent
  clear hsent
  go_enter Tryd.func12, Tryd.ntmps12
  go_wp2
  go_loopw [6] (fun i wr => ∃ (k : Nat) (acc : List UInt8), 1 ≤ k ∧ k ≤ s.size ∧ i = .int .i64 k ∧ Hid (IsBuf w.heap.size w.heap.size (Lib.byteCells acc) wr) ∧ Hid (Below w.heap.size w wr) ∧ acc.length + 1 ≤ k ∧ Hid ((Dw.quo (s.data.toList.drop k)).map (fun x => (acc ++ x.1, x.2)) = Dw.quo (s.data.toList.drop 1))) (fun i _ => s.size - (intOf i).toNat)
  case atStart => exact ⟨1, [], by omega, h1, rfl, Lib.hid (Lib.IsBuilderF.of (Lib.fresh_isBuilder 32 5 w)), Lib.hid ((Below.refl _ w).alloc (Nat.le_refl _) _), by simp, Lib.hid (by simp)⟩
  case round =>
    obtain ⟨k, acc, hk1, hk, rfl, hI, hB, hal, hq⟩ := hrel
    have hg1 : wr.cell? ⟨0, 0, none⟩ = some (.iface 72 (.pointer (some (a 2)))) := (HS.out.below hB.out).cell 2 (by decide)
    by_cases hlt : k < s.size
    · have hd := Lib.hid (drop_at s k hlt)
      rcases (show s[k].toNat = 34 ∨ s[k].toNat = 92 ∨ (s[k].toNat < 32 ∨ 126 < s[k].toNat) ∨ (32 ≤ s[k].toNat ∧ s[k].toNat ≤ 126 ∧ s[k].toNat ≠ 34 ∧ s[k].toNat ≠ 92) from by omega) with h | h | h | h
      · have b34 : ((s[k].toNat : Int) == 34) = true := by rw [h]; rfl
        have H := Lib.hid h
        clear h
        by_cases hend : k + 1 = s.size
        · have hnil : (s.extract (k + 1) s.size).toList = [] := str_nil (by simp; omega)
          go_wp2_with (go_at_call 9; refine (Tryd.Builder_String_any_k w.heap.size w.heap.size acc _ hI.out (hB.out).size).mono ?_; rintro e w' ⟨rfl, _, hb, _⟩)
          go_ret3
          refine QuoPost.some (wd := acc) (rest := s.data.toList.drop (k + 1)) ?_ (hB.out.trans hb) (by simp) (by rw [drop_end _ _ (by omega)]; rfl)
          rw [← hq.out, hd.out, quo_end H.out (.inl (drop_end _ _ (by omega)))]; simp
        · have hlt2 : k + 1 < s.size := by omega
          have hne : (s.extract (k + 1) s.size).toList.isEmpty = false := str_emp (by simp; omega)
          have hne2 : ¬ (s.extract (k + 1) s.size).toList = [] := str_ne (by simp; omega)
          have hpos : 0 < s.size - (k + 1) := by omega
          have hget := ext_get s (k + 1) hlt2
          have hhd : (s.data.toList.drop (k + 1)).headD 0 = s[k + 1] := by rw [drop_at s (k + 1) hlt2]; rfl
          have hnn : s.data.toList.drop (k + 1) ≠ [] := by rw [drop_at s (k + 1) hlt2]; simp
          have HH := Lib.hid hhd
          have HN := Lib.hid hnn
          clear hhd hnn
          by_cases h32 : s[k + 1].toNat = 32
          · have b32 : ((s[k + 1].toNat : Int) != 32) = false := bneI_false (by omega)
            have H32 := Lib.hid h32
            clear h32
            go_wp2_with (go_at_call 9; refine (Tryd.Builder_String_any_k w.heap.size w.heap.size acc _ hI.out (hB.out).size).mono ?_; rintro e w' ⟨rfl, _, hb, _⟩)
            go_ret3
            refine QuoPost.some (wd := acc) (rest := s.data.toList.drop (k + 1)) ?_ (hB.out.trans hb) (by simp) (ext_data _ _)
            rw [← hq.out, hd.out, quo_end H.out (.inr (by rw [HH.out]; exact H32.out))]; simp
          · have b32 : ((s[k + 1].toNat : Int) != 32) = true := bneI_true (by omega)
            have H32 := Lib.hid h32
            clear h32
            go_wp2
            go_quiet (fail)
            go_wp2
            go_ret3
            refine QuoPost.none ?_ (below_drewN hB.out _)
            rw [← hq.out, hd.out, quo_endbad H.out (by rw [HH.out]; exact fun e => e.elim HN.out H32.out)]; rfl
      · have b34 : ((s[k].toNat : Int) == 34) = false := beqI_false (by omega)
        have b92 : ((s[k].toNat : Int) == 92) = true := by rw [h]; rfl
        have H := Lib.hid h
        clear h
        cases hesc : Dw.esc (s.data.toList.drop k) with
        | none =>
          have he : Dw.escR (List.take (s.size - k) (List.drop k s.data.toList)) = (0, 0) := by rw [List.take_of_length_le (by simp), Dw.escR, hesc]
          have HE := Lib.hid hesc
          clear hesc
          go_wp2_with (go_at_call 20; refine (escape_any _ _).mono ?_; rintro e w' ⟨rfl, nd, rfl⟩)
          go_quiet (fail)
          go_wp2
          go_ret3
          refine QuoPost.none ?_ (below_drewN (below_drewN hB.out _) _)
          rw [← hq.out]
          have := HE.out
          rw [hd.out] at this ⊢
          rw [quo_escbad H.out this]; rfl
        | some bn =>
          obtain ⟨b, n⟩ := bn
          have hn := Dw.esc_n hesc
          have hlen : (s.data.toList.drop k).length = s.size - k := by rw [List.length_drop, len_str]
          have hn2 : k + n ≤ s.size := by omega
          have hn1 : 2 ≤ n := hn.1
          have hn0 : ((n : Int) == 0) = false := beqI_false (by omega)
          have he : Dw.escR (List.take (s.size - k) (List.drop k s.data.toList)) = ((b.toNat : Int), (n : Int)) := by rw [List.take_of_length_le (by simp), Dw.escR, hesc]
          have HE := Lib.hid hesc
          clear hesc hn hlen
          go_wp2_with (first | (go_at_call 20; refine (escape_any _ _).mono ?_; rintro e w' ⟨rfl, nd, rfl⟩) | (go_at_call 7; refine (writeByte_any w.heap.size w.heap.size (Lib.byteCells acc) b.toNat _ (hI.out.drewN nd) (by rw [Lib.byteCells_length]; omega) (hB.out).size).mono ?_; rintro e w' ⟨rfl, hi, hb, _⟩))
          go_roundw
          case rel =>
            refine ⟨k + n, acc ++ [b], by omega, hn2, by go_num, Lib.hid (by rw [Lib.byteCells_append]; exact hi), Lib.hid ((below_drewN hB.out nd).trans hb), by simp; omega, Lib.hid ?_⟩
            rw [← hq.out]
            have := HE.out
            rw [hd.out] at this ⊢
            rw [quo_esc H.out this, map_acc, List.drop_drop, show k + 1 + (n - 1) = k + n from by omega]
          case measure => simp [intOf]; omega
      · have b34 : ((s[k].toNat : Int) == 34) = false := beqI_false (by omega)
        have b92 : ((s[k].toNat : Int) == 92) = false := beqI_false (by omega)
        have H := Lib.hid h
        rcases h with h | h
        · have hc : decide ((s[k].toNat : Int) < 32) = true := decide_eq_true (by omega)
          clear h
          go_wp2
          go_quiet (fail)
          go_wp2
          go_ret3
          refine QuoPost.none ?_ (below_drewN hB.out _)
          rw [← hq.out, hd.out, quo_bad H.out]; rfl
        · have hc : decide ((s[k].toNat : Int) < 32) = false := decide_eq_false (by omega)
          have hc2 : decide (126 < (s[k].toNat : Int)) = true := decide_eq_true (by omega)
          clear h
          go_wp2
          go_quiet (fail)
          go_wp2
          go_ret3
          refine QuoPost.none ?_ (below_drewN hB.out _)
          rw [← hq.out, hd.out, quo_bad H.out]; rfl
      · have b34 : ((s[k].toNat : Int) == 34) = false := beqI_false (by omega)
        have b92 : ((s[k].toNat : Int) == 92) = false := beqI_false (by omega)
        have hc : decide ((s[k].toNat : Int) < 32) = false := decide_eq_false (by omega)
        have hc2 : decide (126 < (s[k].toNat : Int)) = false := decide_eq_false (by omega)
        have H := Lib.hid h
        clear h
        go_wp2_with (go_at_call 7; refine (writeByte_any w.heap.size w.heap.size (Lib.byteCells acc) s[k].toNat _ hI.out (by rw [Lib.byteCells_length]; omega) (hB.out).size).mono ?_; rintro e w' ⟨rfl, hi, hb, _⟩)
        go_roundw
        case rel =>
          refine ⟨k + 1, acc ++ [s[k]], by omega, hlt, by go_num, Lib.hid (by rw [Lib.byteCells_append]; exact hi), Lib.hid (hB.out.trans hb), by simp; omega, Lib.hid ?_⟩
          rw [← hq.out, hd.out, quo_good H.out, map_acc]
        case measure => simp [intOf]; omega
    · go_wp2
      go_quiet (fail)
      go_wp2
      go_ret3
      refine QuoPost.none ?_ (below_drewN hB.out _)
      rw [← hq.out, drop_end _ _ (by omega), Dw.quo]; rfl
end Go.Proofs.YtpgaimpppehpcafDoor
