/- The law DeskQuote: the walk. -/
import Derived.Test.YtpgaimpppehpcafDoorDeskW4
import Derived.Test.YtpgaimpppehpcafDoorRefQ
namespace Go.Proofs.YtpgaimpppehpcafDoor
open Go.RowKit Go.Proofs.YtpgaimpppehpcafDoorW.PrintWords

theorem quote_le (l : List UInt8) : (Dw.quote l).length ≤ 4 * l.length + 2 := by
  unfold Dw.quote
  split
  · omega
  · have := flatMap_le l
    simp only [List.length_cons, List.length_append, List.length_nil]; omega

theorem bytesL_one {x : List ByteArray} {s : ByteArray} (h : bytesL x = [s.data.toList]) : x = [s] := by
  have hl : x.length = 1 := by have := congrArg List.length h; simpa [bytesL] using this
  obtain ⟨t, rfl⟩ := List.length_eq_one_iff.1 hl
  simp only [bytesL, List.map_cons, List.map_nil, List.cons.injEq, and_true] at h
  rw [str_ext h]
theorem bytesL_three {x : List ByteArray} {s : ByteArray} (h : bytesL x = [[97], s.data.toList, s.data.toList]) : x = [{ data := #[97] }, s, s] := by
  have hl : x.length = 3 := by have := congrArg List.length h; simpa [bytesL] using this
  obtain ⟨t, u, v, rfl⟩ : ∃ t u v, x = [t, u, v] := by
    cases x with
    | nil => simp at hl
    | cons t x => cases x with
      | nil => simp at hl
      | cons u x => cases x with
        | nil => simp at hl
        | cons v x => cases x with
          | nil => exact ⟨t, u, v, rfl⟩
          | cons _ _ => simp at hl
  simp only [bytesL, List.map_cons, List.map_nil, List.cons.injEq, and_true] at h
  rw [str_ext (s := t) (t := { data := #[97] }) h.1, str_ext h.2.1, str_ext h.2.2]

theorem words1 {a : Nat → Addr} {l : List UInt8} {s : ByteArray} {w w' : World} {e : Ending} (h : WordsPost a l w e w') (hq : Dw.words l = some [s.data.toList]) : ∃ (A : Addr) (c : Nat), e = .returned (.tuple #[.slice (some A) 1 c, .nilIface]) ∧ ReadStrs w' (some A) [s] ∧ Below w.heap.size w w' := by
  obtain ⟨hb, h⟩ := h
  rw [hq] at h
  obtain ⟨v, x, rfl, ho, hx, _⟩ := h
  obtain rfl := bytesL_one hx
  obtain ⟨A, c, rfl, _, hr⟩ := Kd.R_reads ho
  obtain ⟨ad, rfl, _⟩ := readStr hr 0 (by simp)
  exact ⟨ad, c, rfl, hr, hb⟩
theorem words3 {a : Nat → Addr} {l : List UInt8} {s : ByteArray} {w w' : World} {e : Ending} (h : WordsPost a l w e w') (hq : Dw.words l = some [[97], s.data.toList, s.data.toList]) : ∃ (A : Addr) (c : Nat), e = .returned (.tuple #[.slice (some A) 3 c, .nilIface]) ∧ ReadStrs w' (some A) [{ data := #[97] }, s, s] ∧ Below w.heap.size w w' := by
  obtain ⟨hb, h⟩ := h
  rw [hq] at h
  obtain ⟨v, x, rfl, ho, hx, _⟩ := h
  obtain rfl := bytesL_three hx
  obtain ⟨A, c, rfl, _, hr⟩ := Kd.R_reads ho
  obtain ⟨ad, rfl, _⟩ := readStr hr 0 (by simp)
  exact ⟨ad, c, rfl, hr, hb⟩

theorem cellAt {w : World} {A : Addr} {l : List ByteArray} (h : ReadStrs w (some A) l) (k : Nat) (hk : k < l.length) : w.cell? (A.add k) = some (.string l[k]) := by
  obtain ⟨ad, e, hc⟩ := readStr h k hk
  obtain rfl := Option.some.inj e
  exact hc

set_option maxHeartbeats 4000000 in
set_option maxRecDepth 100000 in
theorem deskQuote_walk (a : Nat → Addr) (s : ByteArray) (w : World) (hs : s.size ≤ 1073741824) (hsent : Sent a w) :
    Calls Tryd.prog 3 #[.string s] w fun e w' => e = .returned (.bool true) ∧ Below w.heap.size w w' := by
  have HS := Lib.hid hsent
  clear hsent
  go_enter Tryd.func3, Tryd.ntmps3
  go_wp2_with (go_at_call 4; refine (Quote_any s _ (by omega)).mono ?_; rintro e w1 ⟨⟨q, rfl, hq⟩, hb⟩; have HQ := Lib.hid hq; have HB1 := Lib.hid hb; clear hb hq)
  have hqs : q.size ≤ 4 * s.size + 2 := by
    have := quote_le s.data.toList
    rw [← HQ.out, len_str, len_str] at this; exact this
  have hz1 : ByteArray.size { data := #[32, 32, 97, 32] } = 4 := rfl
  have hz2 : ByteArray.size { data := #[32, 32] } = 2 := rfl
  have hc1 : (ByteArray.size { data := #[32, 32, 97, 32] }) + q.size ≤ 4294967306 := by rw [hz1]; omega
  have hc2 : (({ data := #[32, 32, 97, 32] } : ByteArray) ++ q).size + (ByteArray.size { data := #[32, 32] }) ≤ 4294967308 := by rw [app_size, hz1, hz2]; omega
  have hc3 : (({ data := #[32, 32, 97, 32] } : ByteArray) ++ q ++ { data := #[32, 32] }).size + q.size ≤ 8589934612 := by rw [app_size, app_size, hz1, hz2]; omega
  clear hz1 hz2
  have HW1 : Hid (Dw.words q.data.toList = some [s.data.toList]) := Lib.hid (by rw [HQ.out, words_one])
  have HW3 : Hid (Dw.words (({ data := #[32, 32, 97, 32] } : ByteArray) ++ q ++ { data := #[32, 32] } ++ q).data.toList = some [[97], s.data.toList, s.data.toList]) := Lib.hid (by
    rw [app_data, app_data, app_data, HQ.out]; exact words_three _)
  go_wp2_with fail
  refine (Words_any a q _ (by omega) (HS.out.below HB1.out)).mono ?_
  intro e w2 hp
  obtain ⟨A1, d1, rfl, hr1, hb⟩ := words1 hp HW1.out
  have HR1 := Lib.hid hr1
  have HB2 := Lib.hid (below_step HB1.out hb)
  clear hp hr1 hb
  go_wp2_with fail
  refine (Words_any a _ _ ?hsz (HS.out.below HB2.out)).mono ?_
  case hsz => rw [app_size]; omega
  intro e w3 hp
  obtain ⟨A2, d2, rfl, hr2, hb⟩ := words3 hp HW3.out
  have c1 := cellAt (Kd.C_below HR1.out hb) 0 (by simp)
  have e0 := cellAt hr2 0 (by simp)
  have e1 := cellAt hr2 1 (by simp)
  have e2 := cellAt hr2 2 (by simp)
  simp only [List.getElem_cons_zero, List.getElem_cons_succ, Addr.add_zero'] at c1 e0 e1 e2
  rw [show A2.add 1 = ⟨A2.block, A2.off + 1, none⟩ from rfl] at e1
  rw [show A2.add 2 = ⟨A2.block, A2.off + 2, none⟩ from rfl] at e2
  have hse : (s.toList == s.toList) = true := by simp
  have HB3 := Lib.hid (below_step HB2.out hb)
  clear hp hr2 hb
  go_wp2_with fail
  refine (rQuote_any s _ (by omega)).mono ?_
  rintro e w4 ⟨⟨t, rfl, ht⟩, n, rfl⟩
  obtain rfl : t = q := str_ext (by rw [ht, HQ.out])
  clear ht
  go_wp2_with fail
  go_ret
  exact ⟨rfl, below_drewN HB3.out _⟩
end Go.Proofs.YtpgaimpppehpcafDoor
