/- The reference's Words, SameStrings: the walks. -/
import Derived.Test.YtpgaimpppehpcaeDoorRefW2
import Derived.Test.YtpgaimpppehpcaeDoorWordLemmas
import Derived.BigQuiet
import Derived.Outline
namespace Go.Proofs.YtpgaimpppehpcaeDoor
open Go.RowKit Go.Proofs.YtpgaimpppehpcaeDoorW.PrintWords

def RWordsPost (l : List UInt8) (w : World) (e : Ending) (w' : World) : Prop := Below w.heap.size w w' ∧
  match Dw.words l with
  | some ws => ∃ v x, e = .returned (.tuple #[v, .int .i64 0]) ∧ OwnStrs w' w.heap.size v x ∧ bytesL x = ws ∧ x.length ≤ 1099511627776
  | none => e = .returned (.tuple #[.slice none 0 0, .int .i64 2])
theorem RWordsPost.none {l : List UInt8} {w w' : World} (h : Dw.words l = none) (hb : Below w.heap.size w w') : RWordsPost l w (.returned (.tuple #[.slice none 0 0, .int .i64 2])) w' := by
  refine ⟨hb, ?_⟩; rw [h]
theorem RWordsPost.some {l : List UInt8} {w w' : World} {v : Value} {x : List ByteArray} (h : Dw.words l = some (bytesL x)) (hb : Below w.heap.size w w') (ho : OwnStrs w' w.heap.size v x) (hl : x.length ≤ 1099511627776) : RWordsPost l w (.returned (.tuple #[v, .int .i64 0])) w' := by
  refine ⟨hb, ?_⟩; rw [h]; exact ⟨v, x, rfl, ho, rfl, hl⟩

theorem of_rquo {s : ByteArray} {k : Nat} {w w' : World} {e : Ending} (h : RQuoPost s k w e w') {wd rest : List UInt8} (hq : Dw.quo (s.data.toList.drop (k + 1)) = some (wd, rest)) : ∃ (x : ByteArray) (n : Nat), e = .returned (.tuple #[.string x, .int .i64 (n : Int)]) ∧ x.data.toList = wd ∧ n ≤ s.size ∧ s.data.toList.drop n = rest ∧ Below w.heap.size w w' := by
  obtain ⟨hb, h⟩ := h; rw [hq] at h; obtain ⟨x, n, he, hx, hn, hr⟩ := h; exact ⟨x, n, he, hx, hn, hr, hb⟩
theorem of_rquobad {s : ByteArray} {k : Nat} {w w' : World} {e : Ending} (h : RQuoPost s k w e w') (hq : Dw.quo (s.data.toList.drop (k + 1)) = none) : e = .returned (.tuple #[.string ⟨#[]⟩, .int .i64 (-1)]) ∧ Below w.heap.size w w' := by
  obtain ⟨hb, h⟩ := h; rw [hq] at h; exact ⟨h, hb⟩
theorem of_rplain {s : ByteArray} {k : Nat} {w w' : World} {e : Ending} (h : RPlainPost s k w e w') {wd rest : List UInt8} (hq : Dw.plainS (s.data.toList.drop k) = some (wd, rest)) : ∃ (x : ByteArray) (n : Nat), e = .returned (.tuple #[.string x, .int .i64 (n : Int)]) ∧ x.data.toList = wd ∧ n ≤ s.size ∧ s.data.toList.drop n = rest ∧ w = w' := by
  obtain ⟨hb, h⟩ := h; rw [hq] at h; obtain ⟨x, n, he, hx, hn, hr⟩ := h; exact ⟨x, n, he, hx, hn, hr, hb⟩
theorem of_rplainbad {s : ByteArray} {k : Nat} {w w' : World} {e : Ending} (h : RPlainPost s k w e w') (hq : Dw.plainS (s.data.toList.drop k) = none) : e = .returned (.tuple #[.string ⟨#[]⟩, .int .i64 (-1)]) ∧ w = w' := by
  obtain ⟨hb, h⟩ := h; rw [hq] at h; exact ⟨h, hb⟩

set_option maxHeartbeats 4000000 in
theorem rWords_any (s : ByteArray) (w : World) (hs : s.size ≤ 1099511627776) :
    Calls Tryd.prog 5 #[.string s] w (RWordsPost s.data.toList w) := by
  go_enter Tryd.func5, Tryd.ntmps5
  go_wp2
  go_loopw [4, 5] (fun v i wr => ∃ (x : List ByteArray) (k : Nat), i = .int .i64 k ∧ k ≤ s.size ∧ x.length ≤ k ∧ Hid (OwnStrs wr w.heap.size v x) ∧ Hid (Below w.heap.size w wr) ∧ Hid (Dw.words s.data.toList = (Dw.words (s.data.toList.drop k)).map (bytesL x ++ ·))) (fun _ i _ => s.size - (intOf i).toNat)
  case atStart => exact ⟨[], 0, rfl, by omega, by simp, Lib.hid (Kd.R_nil _ _ _ _ _), Lib.hid (Below.refl _ _), Lib.hid (by simp [bytesL])⟩
  case round =>
    obtain ⟨x, k, rfl, hk, hlen, hO, hB, hW⟩ := hrel
    by_cases hlt : k < s.size
    · have hd := Lib.hid (drop_at s k hlt)
      by_cases h32 : s[k].toNat = 32
      · have b32 : ((s[k].toNat : Int) == 32) = true := beqI_true (by omega)
        have HF : Hid (Dw.words s.data.toList = (Dw.words (s.data.toList.drop (k + 1))).map (bytesL x ++ ·)) := Lib.hid (by rw [hW.out, hd.out, Dw.words_blank _ h32])
        clear h32
        go_wp2
        go_roundw
        case rel => exact ⟨x, k + 1, by go_num, hlt, by omega, hO, hB, HF⟩
        case measure => simp [intOf]; omega
      · have b32 : ((s[k].toNat : Int) == 32) = false := beqI_false (by omega)
        have hdl : (s.data.toList.drop (k + 1)).length = s.size - (k + 1) := by rw [List.length_drop, len_str]
        by_cases h34 : s[k].toNat = 34
        · have b34 : ((s[k].toNat : Int) == 34) = true := beqI_true (by omega)
          cases hq : Dw.quo (s.data.toList.drop (k + 1)) with
          | none =>
            have HQ := Lib.hid hq
            have HF : Hid (Dw.words s.data.toList = none) := Lib.hid (by rw [hW.out, hd.out, words_quobad h34 hq]; rfl)
            clear hq h34 h32 hdl
            go_wp2_with (go_at_call 11; refine (rquoted_any s k hlt _ (by omega)).mono ?_; intro e w' hp; obtain ⟨rfl, hb⟩ := of_rquobad hp HQ.out; clear hp)
            go_ret2
            exact RWordsPost.none HF.out (below_step hB.out hb)
          | some wr =>
            obtain ⟨wd, rest⟩ := wr
            have hql := Dw.quo_le _ _ _ _ (Nat.le_refl _) hq
            have HQ := Lib.hid hq
            have HW : Hid (Dw.words (s.data.toList.drop k) = (Dw.words rest).map (wd :: ·)) := Lib.hid (by rw [hd.out, words_quo h34 hq])
            clear hq h34 h32
            go_wp2_with (first
              | (go_at_call 11; refine (rquoted_any s k hlt _ (by omega)).mono ?_; intro e w' hp; obtain ⟨g, n, rfl, hg, hn, hr, hb⟩ := of_rquo hp HQ.out; have hkn : k < n := (by have h1 := congrArg List.length hr; rw [List.length_drop, len_str] at h1; omega); have HG := Lib.hid hg; have HR := Lib.hid hr; clear hp hg hr)
              | (at_builtin; refine Kd.R_append Kd.string (w0 := w) w.heap.size rfl (.tmp 35) (.tmp 37) 22 9 (.string ⟨#[]⟩) 16 rfl Tryd.underlying22 strInfo rfl (by decide) (by omega) u4 x g [.string g] (fun _ => True) (fun _ => False) rfl rfl ?aP (fun _ hk => hk.elim) (fun _ _ => trivial) (Kd.R_below hO.out hb) (below_step hB.out hb) (below_step hB.out hb).size (by omega) ?_; (case aP => exact rfl); intro v' w13 ho hb' hg' hat; have HO := Lib.hid ho; have HB := Lib.hid hb'; clear ho hb' hg' hat))
            go_roundw
            case rel => exact ⟨x ++ [g], n, rfl, hn, by simp; omega, HO, HB, Lib.hid (by rw [hW.out, HW.out, map_app x g wd HG.out, HR.out])⟩
            case measure => simp [intOf]; omega
        · have b34 : ((s[k].toNat : Int) == 34) = false := beqI_false (by omega)
          cases hq : Dw.plainS (s.data.toList.drop k) with
          | none =>
            have HQ := Lib.hid hq
            have HF : Hid (Dw.words s.data.toList = none) := Lib.hid (by rw [hW.out, hd.out, words_plainbad h34 h32 (by rw [← hd.out]; exact hq)]; rfl)
            clear hq h34 h32 hdl
            go_wp2_with (go_at_call 12; refine (rplain_any s k (by omega) _ (by omega)).mono ?_; intro e w' hp; obtain ⟨rfl, rfl⟩ := of_rplainbad hp HQ.out; clear hp)
            go_ret2
            exact RWordsPost.none HF.out hB.out
          | some wr =>
            obtain ⟨wd, rest⟩ := wr
            have hq2 : Dw.plainS (s[k] :: s.data.toList.drop (k + 1)) = some (wd, rest) := by rw [← hd.out]; exact hq
            have hql := plain_len h32 hq2
            have HQ := Lib.hid hq
            have HW : Hid (Dw.words (s.data.toList.drop k) = (Dw.words rest).map (wd :: ·)) := Lib.hid (by rw [hd.out, words_plain h34 h32 hq2])
            clear hq hq2 h34 h32
            go_wp2_with (first
              | (go_at_call 12; refine (rplain_any s k (by omega) _ (by omega)).mono ?_; intro e w' hp; obtain ⟨g, n, rfl, hg, hn, hr, rfl⟩ := of_rplain hp HQ.out; have hkn : k < n := (by have h1 := congrArg List.length hr; rw [List.length_drop, len_str] at h1; omega); have HG := Lib.hid hg; have HR := Lib.hid hr; clear hp hg hr)
              | (at_builtin; refine Kd.R_append Kd.string (w0 := w) w.heap.size rfl (.tmp 35) (.tmp 37) 22 9 (.string ⟨#[]⟩) 16 rfl Tryd.underlying22 strInfo rfl (by decide) (by omega) u4 x g [.string g] (fun _ => True) (fun _ => False) rfl rfl ?aP (fun _ hk => hk.elim) (fun _ _ => trivial) hO.out hB.out hB.out.size (by omega) ?_; (case aP => exact rfl); intro v' w13 ho hb' hg' hat; have HO := Lib.hid ho; have HB := Lib.hid hb'; clear ho hb' hg' hat))
            go_roundw
            case rel => exact ⟨x ++ [g], n, rfl, hn, by simp; omega, HO, HB, Lib.hid (by rw [hW.out, HW.out, map_app x g wd HG.out, HR.out])⟩
            case measure => simp [intOf]; omega
    · have HF : Hid (Dw.words s.data.toList = some (bytesL x)) := Lib.hid (by rw [hW.out, drop_end _ _ (by omega), Dw.words]; simp)
      go_wp2
      go_ret2
      exact RWordsPost.some HF.out hB.out hO.out (by omega)
end Go.Proofs.YtpgaimpppehpcaeDoor
