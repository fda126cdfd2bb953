/- The reference's words: the walks of quoted, plain. -/
import Derived.Test.YtpgaimpppehpcaeDoorRefW
import Derived.Test.YtpgaimpppehpcaeDoorQuoLemmas
namespace Go.Proofs.YtpgaimpppehpcaeDoor
open Go.RowKit

def RQuoPost (s : ByteArray) (k : Nat) (w : World) (e : Ending) (w' : World) : Prop := Below w.heap.size w w' ∧
  match Dw.quo (s.data.toList.drop (k + 1)) with
  | some (wd, rest) => ∃ (x : ByteArray) (n : Nat), e = .returned (.tuple #[.string x, .int .i64 (n : Int)]) ∧ x.data.toList = wd ∧ n ≤ s.size ∧ s.data.toList.drop n = rest
  | none => e = .returned (.tuple #[.string ⟨#[]⟩, .int .i64 (-1)])
theorem RQuoPost.none {s : ByteArray} {k : Nat} {w w' : World} (h : Dw.quo (s.data.toList.drop (k + 1)) = none) (hb : Below w.heap.size w w') : RQuoPost s k w (.returned (.tuple #[.string ⟨#[]⟩, .int .i64 (-1)])) w' := by
  refine ⟨hb, ?_⟩; rw [h]
theorem RQuoPost.some {s : ByteArray} {k n : Nat} {wd rest : List UInt8} {w w' : World} {x : ByteArray} {i : Int} (h : Dw.quo (s.data.toList.drop (k + 1)) = some (wd, rest)) (hb : Below w.heap.size w w') (hx : x.data.toList = wd) (hi : i = (n : Int)) (hn : n ≤ s.size) (hr : s.data.toList.drop n = rest) : RQuoPost s k w (.returned (.tuple #[.string x, .int .i64 i])) w' := by
  refine ⟨hb, ?_⟩; rw [h]; exact ⟨x, n, by rw [hi], hx, hn, hr⟩

theorem of_esc {l : List UInt8} {k : Nat} {w w' : World} {e : Ending} (h : EscPost l k w e w') {b : UInt8} {n : Nat} (hq : Dw.esc l = some (b, n)) : ∃ x : ByteArray, e = .returned (.tuple #[.string x, .int .i64 ((k : Int) + n)]) ∧ x.data.toList = [b] ∧ Below w.heap.size w w' := by
  obtain ⟨hb, h⟩ := h; rw [hq] at h; obtain ⟨x, he, hx⟩ := h; exact ⟨x, he, hx, hb⟩
theorem of_escbad {l : List UInt8} {k : Nat} {w w' : World} {e : Ending} (h : EscPost l k w e w') (hq : Dw.esc l = none) : e = .returned (.tuple #[.string ⟨#[]⟩, .int .i64 (-1)]) ∧ Below w.heap.size w w' := by
  obtain ⟨hb, h⟩ := h; rw [hq] at h; exact ⟨h, hb⟩

set_option maxHeartbeats 4000000 in
theorem rquoted_any (s : ByteArray) (k0 : Nat) (hk0 : k0 < s.size) (w : World) (hs : s.size ≤ 140737488351232) :
    Calls Tryd.prog 11 #[.string s, .int .i64 (k0 : Int)] w (RQuoPost s k0 w) := by
  go_enter Tryd.func11, Tryd.ntmps11
  go_wp2
  go_loopw [6, 7] (fun v i wr => ∃ (k : Nat) (x : ByteArray), k0 + 1 ≤ k ∧ k ≤ s.size ∧ i = .int .i64 k ∧ v = .string x ∧ x.size ≤ k ∧ Hid (Below w.heap.size w wr) ∧ Hid ((Dw.quo (s.data.toList.drop k)).map (fun y => (x.data.toList ++ y.1, y.2)) = Dw.quo (s.data.toList.drop (k0 + 1)))) (fun _ i _ => s.size - (intOf i).toNat)
  case atStart => exact ⟨k0 + 1, ⟨#[]⟩, by omega, hk0, by go_num, rfl, Nat.zero_le _, Lib.hid (Below.refl _ _), Lib.hid (by simp)⟩
  case round =>
    obtain ⟨k, x, hk1, hk, rfl, rfl, hxk, hB, hq⟩ := hrel
    by_cases hlt : k < s.size
    · have hd := Lib.hid (drop_at s k hlt)
      rcases (show s[k].toNat = 34 ∨ s[k].toNat = 92 ∨ (s[k].toNat < 32 ∨ 126 < s[k].toNat) ∨ (32 ≤ s[k].toNat ∧ s[k].toNat ≤ 126 ∧ s[k].toNat ≠ 34 ∧ s[k].toNat ≠ 92) from by omega) with h | h | h | h
      · have b34 : ((s[k].toNat : Int) == 34) = true := by rw [h]; rfl
        have H := Lib.hid h
        clear h
        by_cases hend : k + 1 = s.size
        · have c1 : decide ((k : Int) + 1 < s.size) = false := decide_eq_false (by omega)
          have HF : Hid (Dw.quo (s.data.toList.drop (k0 + 1)) = some (x.data.toList, s.data.toList.drop (k + 1))) := Lib.hid (by rw [← hq.out, hd.out, quo_end H.out (.inl (drop_end _ _ (by omega)))]; simp)
          go_wp2
          go_ret2
          exact RQuoPost.some (n := k + 1) HF.out hB.out rfl (by omega) (by omega) rfl
        · have hlt2 : k + 1 < s.size := by omega
          have c1 : decide ((k : Int) + 1 < s.size) = true := decide_eq_true (by omega)
          have hhd : (s.data.toList.drop (k + 1)).headD 0 = s[k + 1] := by rw [drop_at s (k + 1) hlt2]; rfl
          have hnn : s.data.toList.drop (k + 1) ≠ [] := by rw [drop_at s (k + 1) hlt2]; simp
          have HH := Lib.hid hhd
          have HN := Lib.hid hnn
          clear hhd hnn
          by_cases h32 : s[k + 1].toNat = 32
          · have b32 : ((s[k + 1].toNat : Int) != 32) = false := bneI_false (by omega)
            have HF : Hid (Dw.quo (s.data.toList.drop (k0 + 1)) = some (x.data.toList, s.data.toList.drop (k + 1))) := Lib.hid (by rw [← hq.out, hd.out, quo_end H.out (.inr (by rw [HH.out]; exact h32))]; simp)
            clear h32
            go_wp2
            go_ret2
            exact RQuoPost.some (n := k + 1) HF.out hB.out rfl (by omega) (by omega) rfl
          · have b32 : ((s[k + 1].toNat : Int) != 32) = true := bneI_true (by omega)
            have HF : Hid (Dw.quo (s.data.toList.drop (k0 + 1)) = none) := Lib.hid (by rw [← hq.out, hd.out, quo_endbad H.out (by rw [HH.out]; exact fun e => e.elim HN.out h32)]; rfl)
            clear h32
            go_wp2
            go_ret2
            exact RQuoPost.none HF.out hB.out
      · have b34 : ((s[k].toNat : Int) == 34) = false := beqI_false (by omega)
        have b92 : ((s[k].toNat : Int) == 92) = true := by rw [h]; rfl
        have H := Lib.hid h
        clear h
        cases hesc : Dw.esc (s.data.toList.drop k) with
        | none =>
          have HE := Lib.hid hesc
          have HF : Hid (Dw.quo (s.data.toList.drop (k0 + 1)) = none) := Lib.hid (by rw [← hq.out, hd.out, quo_escbad H.out (by rw [← hd.out]; exact hesc)]; rfl)
          clear hesc
          go_wp2_with (go_at_call 22; refine (escaped_any s k hlt hs _).mono ?_; intro e w' hp; obtain ⟨rfl, hb⟩ := of_escbad hp HE.out; clear hp)
          go_ret2
          exact RQuoPost.none HF.out (below_step hB.out hb)
        | some bn =>
          obtain ⟨b, n⟩ := bn
          have hn := Dw.esc_n hesc
          have hlen : (s.data.toList.drop k).length = s.size - k := by rw [List.length_drop, len_str]
          have hn2 : k + n ≤ s.size := by omega
          have hn1 : 2 ≤ n := hn.1
          have HE := Lib.hid hesc
          clear hesc hn hlen
          go_wp2_with (go_at_call 22; refine (escaped_any s k hlt hs _).mono ?_; intro e w' hp; obtain ⟨y, rfl, hy, hb⟩ := of_esc hp HE.out; have hyl : y.size = 1 := (by rw [← len_str, hy]; rfl); have hyl2 : x.size + y.size ≤ k + 1 := (by omega); have HY := Lib.hid hy; clear hp hy hyl)
          go_roundw
          case rel =>
            refine ⟨k + n, x ++ y, by omega, hn2, by go_num, rfl, by rw [app_size]; omega, Lib.hid (below_step hB.out hb), Lib.hid ?_⟩
            rw [← hq.out]
            have := HE.out
            rw [hd.out] at this ⊢
            rw [quo_esc H.out this, map_acc, List.drop_drop, show k + 1 + (n - 1) = k + n from by omega, app_data, HY.out]
          case measure => simp [intOf]; omega
      · have b34 : ((s[k].toNat : Int) == 34) = false := beqI_false (by omega)
        have b92 : ((s[k].toNat : Int) == 92) = false := beqI_false (by omega)
        have HF : Hid (Dw.quo (s.data.toList.drop (k0 + 1)) = none) := Lib.hid (by rw [← hq.out, hd.out, quo_bad h]; rfl)
        rcases h with h | h
        · have hc : decide ((s[k].toNat : Int) < 32) = true := decide_eq_true (by omega)
          clear h
          go_wp2
          go_ret2
          exact RQuoPost.none HF.out hB.out
        · have hc : decide ((s[k].toNat : Int) < 32) = false := decide_eq_false (by omega)
          have hc2 : decide (126 < (s[k].toNat : Int)) = true := decide_eq_true (by omega)
          clear h
          go_wp2
          go_ret2
          exact RQuoPost.none HF.out hB.out
      · have b34 : ((s[k].toNat : Int) == 34) = false := beqI_false (by omega)
        have b92 : ((s[k].toNat : Int) == 92) = false := beqI_false (by omega)
        have hc : decide ((s[k].toNat : Int) < 32) = false := decide_eq_false (by omega)
        have hc2 : decide (126 < (s[k].toNat : Int)) = false := decide_eq_false (by omega)
        have hes : (s.extract k (k + 1)).data.toList = [s[k]] := by rw [ext_sub, drop_at s k hlt, show k + 1 - k = 1 from by omega]; rfl
        have hez : (s.extract k (k + 1)).size = 1 := by rw [← len_str, hes]; rfl
        have hey : x.size + (s.extract k (k + 1)).size ≤ k + 1 := by omega
        have HES := Lib.hid hes
        have H := Lib.hid h
        clear h hes hez
        go_wp2
        go_roundw
        case rel =>
          refine ⟨k + 1, x ++ s.extract k (k + 1), by omega, hlt, by go_num, rfl, by rw [app_size]; omega, hB, Lib.hid ?_⟩
          rw [← hq.out, hd.out, quo_good H.out, map_acc, app_data, HES.out]
        case measure => simp [intOf]; omega
    · have HF : Hid (Dw.quo (s.data.toList.drop (k0 + 1)) = none) := Lib.hid (by rw [← hq.out, drop_end _ _ (by omega), Dw.quo]; rfl)
      go_wp2
      go_ret2
      exact RQuoPost.none HF.out hB.out

/-! ### plain -/
def RPlainPost (s : ByteArray) (k : Nat) (w : World) (e : Ending) (w' : World) : Prop := w = w' ∧
  match Dw.plainS (s.data.toList.drop k) with
  | some (wd, rest) => ∃ (x : ByteArray) (n : Nat), e = .returned (.tuple #[.string x, .int .i64 (n : Int)]) ∧ x.data.toList = wd ∧ n ≤ s.size ∧ s.data.toList.drop n = rest
  | none => e = .returned (.tuple #[.string ⟨#[]⟩, .int .i64 (-1)])
theorem RPlainPost.none {s : ByteArray} {k : Nat} {w : World} (h : Dw.plainS (s.data.toList.drop k) = none) : RPlainPost s k w (.returned (.tuple #[.string ⟨#[]⟩, .int .i64 (-1)])) w := by
  refine ⟨rfl, ?_⟩; rw [h]
theorem RPlainPost.some {s : ByteArray} {k n : Nat} {wd rest : List UInt8} {w : World} {x : ByteArray} {i : Int} (h : Dw.plainS (s.data.toList.drop k) = some (wd, rest)) (hx : x.data.toList = wd) (hi : i = (n : Int)) (hn : n ≤ s.size) (hr : s.data.toList.drop n = rest) : RPlainPost s k w (.returned (.tuple #[.string x, .int .i64 i])) w := by
  refine ⟨rfl, ?_⟩; rw [h]; exact ⟨x, n, by rw [hi], hx, hn, hr⟩

theorem okc_no' {c : UInt8} (h : c.toNat < 33 ∨ 126 < c.toNat ∨ c.toNat = 34) : Dw.okc c = false := by
  simp [Dw.okc]; omega
theorem okc_yes' {c : UInt8} (h : 33 ≤ c.toNat ∧ c.toNat ≤ 126 ∧ c.toNat ≠ 34) : Dw.okc c = true := by
  simp [Dw.okc]; omega

/-- The head of a list that is not blank: one step of 'plainS', the ok bytes ahead. -/
theorem plain_stop (l acc r : List UInt8) (ha : acc.all (fun c => Dw.okc c && Dw.nb c) = true) (hl : l = acc ++ r) (hr : r = [] ∨ ∃ c t, r = c :: t ∧ c.toNat = 32) : Dw.plainS l = some (acc, r) := by
  subst hl
  have hnb : ∀ c ∈ acc, Dw.nb c = true := fun c hc => by have := List.all_eq_true.1 ha c hc; simp at this; exact this.2
  have hok : acc.all Dw.okc = true := List.all_eq_true.2 fun c hc => by have := List.all_eq_true.1 ha c hc; simp at this; exact this.1
  have ht : (acc ++ r).takeWhile Dw.nb = acc := by
    rw [List.takeWhile_append_of_pos hnb]
    rcases hr with rfl | ⟨c, t, rfl, hc⟩
    · simp
    · have : ¬ Dw.nb c = true := fun e => (Dw.nb_iff c).1 e hc
      simp [this]
  have hd : (acc ++ r).dropWhile Dw.nb = r := by
    rw [List.dropWhile_append_of_pos hnb]
    rcases hr with rfl | ⟨c, t, rfl, hc⟩
    · simp
    · have : ¬ Dw.nb c = true := fun e => (Dw.nb_iff c).1 e hc
      simp [this]
  unfold Dw.plainS
  rw [ht, hd, if_pos hok]
theorem plain_bad (l acc t : List UInt8) (c : UInt8) (ha : acc.all (fun c => Dw.okc c && Dw.nb c) = true) (hl : l = acc ++ c :: t) (hc : c.toNat ≠ 32) (hb : Dw.okc c = false) : Dw.plainS l = none := by
  subst hl
  have hnb : ∀ c ∈ acc, Dw.nb c = true := fun c hc => by have := List.all_eq_true.1 ha c hc; simp at this; exact this.2
  unfold Dw.plainS
  rw [List.takeWhile_append_of_pos hnb, List.takeWhile_cons, if_pos ((Dw.nb_iff c).2 hc)]
  rw [if_neg]
  simp [hb]

set_option maxHeartbeats 2000000 in
theorem rplain_any (s : ByteArray) (k0 : Nat) (hk0 : k0 ≤ s.size) (w : World) (hs : s.size ≤ 140737488351232) :
    Calls Tryd.prog 12 #[.string s, .int .i64 (k0 : Int)] w (RPlainPost s k0 w) := by
  go_enter Tryd.func12, Tryd.ntmps12
  go_wp2
  go_loop [6] (fun i => ∃ (k : Nat) (acc : List UInt8), k0 ≤ k ∧ k ≤ s.size ∧ i = .int .i64 k ∧ Hid (acc.all (fun c => Dw.okc c && Dw.nb c) = true) ∧ Hid (s.data.toList.drop k0 = acc ++ s.data.toList.drop k) ∧ Hid (acc = (s.data.toList.drop k0).take (k - k0))) (fun i => s.size - (intOf i).toNat)
  case atStart => exact ⟨k0, [], by omega, hk0, rfl, Lib.hid rfl, Lib.hid rfl, Lib.hid (by simp)⟩
  case round =>
    obtain ⟨k, acc, hk1, hk, rfl, ha, hl, hacc⟩ := hrel
    have HX : Hid ((s.extract k0 k).data.toList = acc) := Lib.hid (by rw [ext_sub, hacc.out])
    by_cases hlt : k < s.size
    · have hd := Lib.hid (drop_at s k hlt)
      have c0 : decide ((k : Int) < s.size) = true := decide_eq_true (by omega)
      by_cases h32 : s[k].toNat = 32
      · have b32 : ((s[k].toNat : Int) != 32) = false := bneI_false (by omega)
        have HF : Hid (Dw.plainS (s.data.toList.drop k0) = some (acc, s.data.toList.drop k)) := Lib.hid (plain_stop _ _ _ ha.out hl.out (.inr ⟨_, _, hd.out, h32⟩))
        clear h32
        go_wp2
        go_ret2
        exact RPlainPost.some HF.out HX.out rfl hk rfl
      · have b32 : ((s[k].toNat : Int) != 32) = true := bneI_true (by omega)
        have hl2 : s.data.toList.drop k0 = acc ++ s[k] :: s.data.toList.drop (k + 1) := by rw [hl.out, hd.out]
        by_cases hbad : s[k].toNat < 33 ∨ 126 < s[k].toNat ∨ s[k].toNat = 34
        · have HF : Hid (Dw.plainS (s.data.toList.drop k0) = none) := Lib.hid (plain_bad _ _ _ _ ha.out hl2 h32 (okc_no' hbad))
          clear hl2
          by_cases h1 : s[k].toNat < 33
          · have c1 : decide ((s[k].toNat : Int) < 33) = true := decide_eq_true (by omega)
            clear hbad h1 h32
            go_wp2
            go_ret2
            exact RPlainPost.none HF.out
          · have c1 : decide ((s[k].toNat : Int) < 33) = false := decide_eq_false (by omega)
            by_cases h2 : 126 < s[k].toNat
            · have c2 : decide (126 < (s[k].toNat : Int)) = true := decide_eq_true (by omega)
              clear hbad h1 h2 h32
              go_wp2
              go_ret2
              exact RPlainPost.none HF.out
            · have c2 : decide (126 < (s[k].toNat : Int)) = false := decide_eq_false (by omega)
              have c3 : ((s[k].toNat : Int) == 34) = true := beqI_true (by omega)
              clear hbad h1 h2 h32
              go_wp2
              go_ret2
              exact RPlainPost.none HF.out
        · have c1 : decide ((s[k].toNat : Int) < 33) = false := decide_eq_false (by omega)
          have c2 : decide (126 < (s[k].toNat : Int)) = false := decide_eq_false (by omega)
          have c3 : ((s[k].toNat : Int) == 34) = false := beqI_false (by omega)
          have HR : Hid ((acc ++ [s[k]]).all (fun c => Dw.okc c && Dw.nb c) = true) := Lib.hid (by rw [List.all_append, ha.out]; simp [okc_yes' (c := s[k]) (by omega), (Dw.nb_iff s[k]).2 h32])
          have HL2 := Lib.hid hl2
          clear hbad h32 hl2
          go_wp2
          go_round
          case rel => exact ⟨k + 1, acc ++ [s[k]], by omega, hlt, by go_num, HR, Lib.hid (by rw [HL2.out]; simp), Lib.hid (by
            rw [show k + 1 - k0 = (k - k0) + 1 from by omega, List.take_add_one, ← hacc.out, List.getElem?_drop, show k0 + (k - k0) = k from by omega]
            congr 1
            rw [Array.getElem?_toList]
            have : s.data[k]? = some s[k] := Array.getElem?_eq_getElem hlt
            rw [this]; rfl)⟩
          case measure => simp [intOf]; omega
    · have c0 : decide ((k : Int) < s.size) = false := decide_eq_false (by omega)
      have HF : Hid (Dw.plainS (s.data.toList.drop k0) = some (acc, s.data.toList.drop k)) := Lib.hid (plain_stop _ _ _ ha.out hl.out (.inl (drop_end _ _ (by omega))))
      go_wp2
      go_ret2
      exact RPlainPost.some HF.out HX.out rfl hk rfl
end Go.Proofs.YtpgaimpppehpcaeDoor
