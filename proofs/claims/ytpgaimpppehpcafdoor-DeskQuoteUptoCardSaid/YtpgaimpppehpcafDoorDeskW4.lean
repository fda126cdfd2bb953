/- desk.Words: the walk. -/
import Derived.Test.YtpgaimpppehpcafDoorDeskW3
import Derived.Test.YtpgaimpppehpcafDoorWordLemmas
namespace Go.Proofs.YtpgaimpppehpcafDoor
open Go.RowKit Go.Proofs.YtpgaimpppehpcafDoorW.PrintWords

theorem trimLeftB_eq (l : List UInt8) : Lib.trimLeftB l 32 = l.dropWhile (fun c => c.toNat == 32) := by
  unfold Lib.trimLeftB
  congr 1
  funext c
  by_cases hb : c = 32
  · subst hb; rfl
  · have : ¬ c.toNat = 32 := fun e => hb (UInt8.toNat_inj.1 e)
    rw [beq_eq_false_iff_ne.2 hb, beq_eq_false_iff_ne.2 this]

theorem trim_any (s : ByteArray) (w : World) : Calls Tryd.prog 10 #[.string s, .string ⟨#[32]⟩] w fun e w' => w = w' ∧ ∃ y : ByteArray, e = .returned (.string y) ∧ y.data.toList = s.data.toList.dropWhile (fun c => c.toNat == 32) :=
  (Tryd.strings_TrimLeft_one s 32 (by decide) w).mono fun e w' ⟨he, hw⟩ => ⟨hw.symm, _, he, by rw [← trimLeftB_eq]⟩

def WordsPost (a : Nat → Addr) (l : List UInt8) (w : World) (e : Ending) (w' : World) : Prop := Below w.heap.size w w' ∧
  match Dw.words l with
  | some ws => ∃ v x, e = .returned (.tuple #[v, .nilIface]) ∧ OwnStrs w' w.heap.size v x ∧ bytesL x = ws ∧ x.length ≤ 1099511627776
  | none => e = .returned (.tuple #[.slice none 0 0, errV a 2])

theorem WordsPost.none {a : Nat → Addr} {l : List UInt8} {w w' : World} (h : Dw.words l = none) (hb : Below w.heap.size w w') : WordsPost a l w (.returned (.tuple #[.slice none 0 0, errV a 2])) w' := by
  refine ⟨hb, ?_⟩; rw [h]
theorem WordsPost.some {a : Nat → Addr} {l : List UInt8} {w w' : World} {v : Value} {x : List ByteArray} (h : Dw.words l = some (bytesL x)) (hb : Below w.heap.size w w') (ho : OwnStrs w' w.heap.size v x) (hl : x.length ≤ 1099511627776) : WordsPost a l w (.returned (.tuple #[v, .nilIface])) w' := by
  refine ⟨hb, ?_⟩; rw [h]; exact ⟨v, x, rfl, ho, rfl, hl⟩

theorem of_quo {a : Nat → Addr} {l : List UInt8} {w w' : World} {e : Ending} (h : QuoPost a l w e w') {wd rest : List UInt8} (hq : Dw.quo l = some (wd, rest)) : ∃ x y : ByteArray, e = .returned (.tuple #[.string x, .string y, .nilIface]) ∧ x.data.toList = wd ∧ y.data.toList = rest ∧ Below w.heap.size w w' := by
  obtain ⟨hb, h⟩ := h; rw [hq] at h; obtain ⟨x, y, he, hx, hy⟩ := h; exact ⟨x, y, he, hx, hy, hb⟩
theorem of_quobad {a : Nat → Addr} {l : List UInt8} {w w' : World} {e : Ending} (h : QuoPost a l w e w') (hq : Dw.quo l = none) : e = .returned (.tuple #[.string ⟨#[]⟩, .string ⟨#[]⟩, .iface 72 (.pointer (some (a 2)))]) ∧ Below w.heap.size w w' := by
  obtain ⟨hb, h⟩ := h; rw [hq] at h; exact ⟨h, hb⟩
theorem of_plain {a : Nat → Addr} {l : List UInt8} {w w' : World} {e : Ending} (h : PlainPost a l w e w') {wd rest : List UInt8} (hq : Dw.plainS l = some (wd, rest)) : ∃ x y : ByteArray, e = .returned (.tuple #[.string x, .string y, .nilIface]) ∧ x.data.toList = wd ∧ y.data.toList = rest ∧ Below w.heap.size w w' := by
  obtain ⟨⟨n, rfl⟩, h⟩ := h; rw [hq] at h; obtain ⟨x, y, he, hx, hy⟩ := h; exact ⟨x, y, he, hx, hy, below_of_drewN _ _ _⟩
theorem of_plainbad {a : Nat → Addr} {l : List UInt8} {w w' : World} {e : Ending} (h : PlainPost a l w e w') (hq : Dw.plainS l = none) : e = .returned (.tuple #[.string ⟨#[]⟩, .string ⟨#[]⟩, .iface 72 (.pointer (some (a 2)))]) ∧ Below w.heap.size w w' := by
  obtain ⟨⟨n, rfl⟩, h⟩ := h; rw [hq] at h; exact ⟨h, below_of_drewN _ _ _⟩

set_option maxHeartbeats 4000000 in
theorem Words_any (a : Nat → Addr) (s : ByteArray) (w : World) (hs : s.size ≤ 1099511627776) (hsent : Sent a w) :
    Calls Tryd.prog 5 #[.string s] w (WordsPost a s.data.toList w) := by
  have HS := Lib.hid hsent
  clear hsent
  go_enter Tryd.func5, Tryd.ntmps5
  go_wp2_with (go_at_call 10; refine (trim_any s _).mono ?_; rintro e w' ⟨rfl, y, rfl, hy⟩; have HY := Lib.hid hy; clear hy)
  have hys : y.size ≤ s.size := by
    rw [← len_str y, ← len_str s, HY.out]; exact (List.dropWhile_sublist _).length_le
  go_loopw [4, 5] (fun v r wr => ∃ (x : List ByteArray) (z : ByteArray), r = .string z ∧ Hid (OwnStrs wr w.heap.size v x) ∧ Hid (Below w.heap.size w wr) ∧ x.length + z.size ≤ s.size ∧ Hid (Dw.words s.data.toList = (Dw.words z.data.toList).map (bytesL x ++ ·)) ∧ Hid ((z.data.toList.headD 0).toNat ≠ 32)) (fun _ r _ => match r with | .string z => z.size | _ => 0)
  case atStart => exact ⟨[], y, rfl, Lib.hid (Kd.R_nil _ _ _ _ _), Lib.hid (Below.refl _ _), by simpa using hys, Lib.hid (by rw [HY.out, Dw.words_trim]; simp [bytesL]), Lib.hid (by rw [HY.out]; exact trim_head _)⟩
  case round =>
    obtain ⟨x, z, rfl, hO, hB, hlen, hW, hH⟩ := hrel
    by_cases hz : 0 < z.size
    · have hne : z.toList.isEmpty = false := str_emp hz
      have hne2 : ¬ z.toList = [] := str_ne hz
      have HC := Lib.hid (cons_of z hz)
      have h32 : z[0].toNat ≠ 32 := by have := hH.out; rw [HC.out] at this; exact this
      have H32 := Lib.hid h32
      have hdl : (z.data.toList.drop 1).length < z.size := by rw [List.length_drop, len_str]; omega
      have HDL := Lib.hid hdl
      clear h32 hdl
      by_cases h34 : z[0].toNat = 34
      · have b34 : ((z[0].toNat : Int) == 34) = true := beqI_true (by omega)
        have H34 := Lib.hid h34
        clear h34
        cases hq : Dw.quo (z.data.toList.drop 1) with
        | none =>
          have HQ := Lib.hid hq
          clear hq
          go_wp2_with (go_at_call 12; refine (quoted_any a z _ (by omega) hz (HS.out.below hB.out)).mono ?_; intro e w' hp; obtain ⟨rfl, hb⟩ := of_quobad hp HQ.out; clear hp)
          go_ret2
          exact WordsPost.none (by rw [hW.out, HC.out, words_quobad H34.out HQ.out]; rfl) (below_step hB.out hb)
        | some wr =>
          obtain ⟨wd, rest⟩ := wr
          have HQ := Lib.hid hq
          clear hq
          go_wp2_with (first
            | (go_at_call 12; refine (quoted_any a z _ (by omega) hz (HS.out.below hB.out)).mono ?_; intro e w' hp; obtain ⟨g, rr, rfl, hg, hrr, hb⟩ := of_quo hp HQ.out; have HG := Lib.hid hg; have HRR := Lib.hid hrr; clear hp hg hrr)
            | (go_at_call 10; refine (trim_any rr _).mono ?_; rintro e w' ⟨rfl, t, rfl, ht⟩; have HT := Lib.hid ht; clear ht)
            | (at_builtin; refine Kd.R_append Kd.string (w0 := w) w.heap.size rfl (.tmp 29) (.tmp 31) 23 9 (.string ⟨#[]⟩) 16 rfl Tryd.underlying23 strInfo rfl (by decide) (by omega) u4 x g [.string g] (fun _ => True) (fun _ => False) rfl rfl ?aP (fun _ hk => hk.elim) (fun _ _ => trivial) (Kd.R_below hO.out hb) (below_step hB.out hb) (below_step hB.out hb).size (by omega) ?_; (case aP => exact rfl); intro v' w13 ho hb' hg' hat; have HO := Lib.hid ho; have HB := Lib.hid hb'; clear ho hb' hg' hat))
          have hst := step_ok hlen hW.out (by rw [HC.out]; exact words_quo H34.out HQ.out) (Nat.lt_trans (Dw.quo_le _ _ _ _ (Nat.le_refl _) HQ.out) HDL.out) HG.out (by rw [HT.out, HRR.out])
          have h1 := hst.1
          have HST := Lib.hid hst
          clear hst
          go_roundw
          case rel => exact ⟨x ++ [g], t, rfl, HO, HB, HST.out.2.1, Lib.hid HST.out.2.2, Lib.hid (by rw [HT.out]; exact trim_head _)⟩
          case measure => simp; omega
      · have b34 : ((z[0].toNat : Int) == 34) = false := beqI_false (by omega)
        have H34 := Lib.hid h34
        clear h34
        cases hq : Dw.plainS z.data.toList with
        | none =>
          have HQ := Lib.hid hq
          clear hq
          go_wp2_with (go_at_call 11; refine (plain_any a z _ (by omega) (HS.out.below hB.out)).mono ?_; intro e w' hp; obtain ⟨rfl, hb⟩ := of_plainbad hp HQ.out; clear hp)
          go_ret2
          exact WordsPost.none (by rw [hW.out, HC.out, words_plainbad H34.out H32.out (by rw [← HC.out]; exact HQ.out)]; rfl) (below_step hB.out hb)
        | some wr =>
          obtain ⟨wd, rest⟩ := wr
          have HQ := Lib.hid hq
          clear hq
          go_wp2_with (first
            | (go_at_call 11; refine (plain_any a z _ (by omega) (HS.out.below hB.out)).mono ?_; intro e w' hp; obtain ⟨g, rr, rfl, hg, hrr, hb⟩ := of_plain hp HQ.out; have HG := Lib.hid hg; have HRR := Lib.hid hrr; clear hp hg hrr)
            | (go_at_call 10; refine (trim_any rr _).mono ?_; rintro e w' ⟨rfl, t, rfl, ht⟩; have HT := Lib.hid ht; clear ht)
            | (at_builtin; refine Kd.R_append Kd.string (w0 := w) w.heap.size rfl (.tmp 29) (.tmp 31) 23 9 (.string ⟨#[]⟩) 16 rfl Tryd.underlying23 strInfo rfl (by decide) (by omega) u4 x g [.string g] (fun _ => True) (fun _ => False) rfl rfl ?aP (fun _ hk => hk.elim) (fun _ _ => trivial) (Kd.R_below hO.out hb) (below_step hB.out hb) (below_step hB.out hb).size (by omega) ?_; (case aP => exact rfl); intro v' w13 ho hb' hg' hat; have HO := Lib.hid ho; have HB := Lib.hid hb'; clear ho hb' hg' hat))
          have HQ2 : Dw.plainS (z[0] :: z.data.toList.drop 1) = some (wd, rest) := by rw [← HC.out]; exact HQ.out
          have hst := step_ok hlen hW.out (by rw [HC.out]; exact words_plain H34.out H32.out HQ2) (Nat.lt_of_le_of_lt (plain_len H32.out HQ2) HDL.out) HG.out (by rw [HT.out, HRR.out])
          have h1 := hst.1
          have HST := Lib.hid hst
          clear hst HQ2
          go_roundw
          case rel => exact ⟨x ++ [g], t, rfl, HO, HB, HST.out.2.1, Lib.hid HST.out.2.2, Lib.hid (by rw [HT.out]; exact trim_head _)⟩
          case measure => simp; omega
    · have hnil : z.toList = [] := str_nil (by omega)
      go_wp2
      go_ret2
      exact WordsPost.some (by rw [hW.out, show z.data.toList = [] from (toL z).symm.trans hnil, Dw.words]; simp) hB.out hO.out (by omega)
end Go.Proofs.YtpgaimpppehpcafDoor
