/- mask.New: the walk, for marks < and > and a text that is well formed. -/
import Derived.Test.YtpgaimpppehpcaaDoorMaskN
import Derived.Deep.DeepCutAuto
import Derived.Deep.RegionLaw
namespace Go.Proofs.YtpgaimpppehpcaaDoor
open Go.RowKit

def NewR (w : World) (s x : ByteArray) (ps : List Mk.Piece) (F : Nat) (bg : Bool) (k : Nat) (wr : World) : Prop :=
  ∃ b0 qs v, St w.heap.size w s b0 qs v wr ∧ b0.length ≤ F ∧ Mk.scan (s.data.toList.drop k) k (if bg then some F else none) (if bg then b0 else b0 ++ (s.data.toList.take k).drop F) qs = some (x.data.toList, ps)

theorem wrap_succ (k : Nat) (h : k ≤ 4611686018427387904) : IntKind.i64.wrap ((k : Int) + 1) = ((k + 1 : Nat) : Int) := by
  unfold IntKind.wrap; simp [IntKind.bits, IntKind.signed]; omega
theorem take_drop_nil (s : ByteArray) (k : Nat) : (s.data.toList.take k).drop k = [] := List.drop_eq_nil_of_le (by simp; omega)
theorem pc_one (p : Mk.Piece) : ∀ u ∈ pc p, u.oneCell' = true := by
  intro u hu; simp [pc] at hu; rcases hu with rfl | rfl | rfl <;> rfl
theorem pieceInfo : ∃ i0, Tryd.prog.info? 56 = some i0 ∧ i0.zero = some (.agg #[.int .i64 0, .int .i64 0, .int .i64 0]) ∧ i0.size = 3 ∧ i0.bytes = 24 := by
  have h : (Tryd.prog.info? 56).map (fun i => (i.zero, i.size, i.bytes)) = some (some (.agg #[.int .i64 0, .int .i64 0, .int .i64 0]), 3, 24) := by kernel_rfl
  obtain ⟨i0, hi, hz⟩ := Option.map_eq_some_iff.1 h
  simp only [Prod.mk.injEq] at hz
  exact ⟨i0, hi, hz.1, hz.2.1, hz.2.2⟩

set_option maxHeartbeats 8000000 in
set_option maxRecDepth 100000 in
theorem New_any (s x : ByteArray) (ps : List Mk.Piece) (w : World) (hs : s.size ≤ 70368744177664) (hps : ps.length ≤ 1000000) (hsc : Mk.scan s.data.toList 0 none [] [] = some (x.data.toList, ps)) :
    Calls Tryd.prog 5 #[.string s, .int .u8 60, .int .u8 62] w fun e w' => (∃ Tb, e = .returned (.tuple #[.pointer (some ⟨Tb, 0, none⟩), .nilIface]) ∧ IsText w' Tb s x ps) ∧ Below w.heap.size w w' := by
  have c60 : (w.alloc (.cells zeros256 45)).cell? ⟨w.heap.size, 60, none⟩ = some (.int .i64 0) := (World.cell?_alloc_at _ _ _ _ rfl).trans (zeros_at 60 (by decide))
  have c62 : (w.alloc (.cells zeros256 45)).cell? ⟨w.heap.size, 62, none⟩ = some (.int .i64 0) := (World.cell?_alloc_at _ _ _ _ rfl).trans (zeros_at 62 (by decide))
  have hz := zero256
  have HR0 : Hid (NewR w s x ps 0 false 0 (((w.alloc (.cells marksA 45)).alloc (.cells #[.string s, .string ⟨#[]⟩, .slice none 0 0] 48)).alloc (.cells #[.pointer none, .slice none 0 0] 52))) :=
    Lib.hid ⟨[], [], _, St.start w s, Nat.le_refl _, by simpa using hsc⟩
  clear hsc
  go_enter Tryd.func5, Tryd.ntmps5
  go_wp2_with fail
  go_loopw [11, 12, 36] (fun f b i wr => ∃ (F k : Nat) (bg : Bool), f = .int .i64 F ∧ b = .bool bg ∧ i = .int .i64 k ∧ F ≤ k ∧ k ≤ s.size ∧ Hid (NewR w s x ps F bg k wr)) (fun _ _ i _ => s.size - (intOf i).toNat)
  case atStart => exact ⟨0, 0, false, rfl, rfl, rfl, Nat.le_refl _, Nat.zero_le _, HR0⟩
  case round =>
    clear HR0 c60 c62 hz
    obtain ⟨F, k, bg, rfl, rfl, rfl, hFk, hk, hR⟩ := hrel
    obtain ⟨b0, qs, v, hst, hbl, hsc⟩ := hR.out
    have HST := Lib.hid hst
    have hqs := scan_len _ _ _ _ _ _ _ hsc
    by_cases hlt : k < s.size
    · have hc := hst.cell_mark s[k].toNat s[k].toNat_lt
      have h256 : ((s[k].toNat : Int) < 256) := byte_lt _
      rw [drop_at s k hlt] at hsc
      cases bg with
      | false =>
        by_cases h60 : s[k].toNat = 60
        · have hm : wr.cell? ⟨w.heap.size, s[k].toNat, none⟩ = some (.int .i64 1) := by rw [hc, mkOf, if_pos h60]
          have hnext : Hid (Mk.scan (s.data.toList.drop (k + 1)) (k + 1) (some k) (b0 ++ (s.data.toList.take k).drop F) qs = some (x.data.toList, ps)) := Lib.hid (by
            simp only [Bool.false_eq_true, if_false, Mk.scan] at hsc; rw [if_pos h60] at hsc; exact hsc)
          have hlen : Hid ((Lib.byteCells b0).length + (s.extract F k).size ≤ 140737488355328 ∧ (b0 ++ (s.data.toList.take k).drop F).length ≤ k) := Lib.hid (by
            rw [Lib.byteCells_length, ← len_str, ext_mid]; simp; omega)
          clear hc hsc hst h60
          go_wp2_with fail
          go_wp2_with (go_at_call 14; ((with_reducible refine (writeString_any (w.heap.size + 2) (w.heap.size + 2) _ _ _ HST.out.buf ?hl ?hw).mono ?_); (case hl => exact hlen.out.1); (case hw => have := HST.out.size; omega)); rintro e w2 ⟨rfl, hp⟩; have HP := Lib.hid (HST.out.write _ hp); clear hp)
          go_roundw
          case rel => exact ⟨k, k + 1, true, rfl, rfl, by go_num, by omega, hlt, Lib.hid ⟨_, qs, v, by have := HP.out; rw [ext_mid] at this; exact this, hlen.out.2, hnext.out⟩⟩
          case measure => simp [intOf]; omega
        · by_cases h62 : s[k].toNat = 62
          · exfalso
            simp only [Bool.false_eq_true, if_false, Mk.scan] at hsc; rw [if_neg h60, if_pos h62] at hsc; cases hsc
          · have hm : wr.cell? ⟨w.heap.size, s[k].toNat, none⟩ = some (.int .i64 0) := by rw [hc, mkOf, if_neg h60, if_neg h62]
            have hnext : Hid (Mk.scan (s.data.toList.drop (k + 1)) (k + 1) none (b0 ++ (s.data.toList.take (k + 1)).drop F) qs = some (x.data.toList, ps)) := Lib.hid (by
              simp only [Bool.false_eq_true, if_false, Mk.scan] at hsc; rw [if_neg h60, if_neg h62] at hsc; rw [take_drop_snoc s F k hFk hlt, ← List.append_assoc]; exact hsc)
            clear hc hsc hst h60 h62
            go_wp2_with fail
            go_roundw
            case rel => exact ⟨F, k + 1, false, rfl, rfl, by go_num, by omega, hlt, Lib.hid ⟨b0, qs, v, HST.out, hbl, hnext.out⟩⟩
            case measure => simp [intOf]; omega
      | true =>
        by_cases h62 : s[k].toNat = 62
        · have hm : wr.cell? ⟨w.heap.size, s[k].toNat, none⟩ = some (.int .i64 2) := by rw [hc, mkOf, if_neg (by omega), if_pos h62]
          have hnext : Hid (Mk.scan (s.data.toList.drop (k + 1)) (k + 1) none b0 (qs ++ [⟨F, k + 1, b0.length⟩]) = some (x.data.toList, ps)) := Lib.hid (by
            simp only [if_true, Mk.scan] at hsc; rw [if_pos h62] at hsc; exact hsc)
          have hqs1 := scan_len _ _ _ _ _ _ _ hnext.out
          rw [List.length_append, List.length_singleton] at hqs1
          obtain ⟨tx0, tx1, tx2, tfr⟩ := hst.cell_text
          have tfr2 := tfr 2
          have tx2o : ∀ o, (wr.alloc o).cell? ⟨w.heap.size + 1, 2, none⟩ = some v := fun o => alloc_cell tx2 o
          clear tfr tx1 tx0
          clear hc hsc hst h62
          go_wp2_with fail
          have hpc : #[Value.int .i64 (F : Int), .int .i64 (IntKind.i64.wrap ((k : Int) + 1)), .int .i64 ((Lib.byteCells b0).length : Int)] = (pc ⟨F, k + 1, b0.length⟩).toArray := by
            rw [Lib.byteCells_length, show IntKind.i64.wrap ((k : Int) + 1) = ((k + 1 : Nat) : Int) from wrap_succ k (by omega)]; rfl
          have HPC := Lib.hid hpc
          clear hpc
          obtain ⟨i0, hi, hz0, hz1, hz2⟩ := pieceInfo
          go_region_law (first
            | (go_simp; go_at_call 15; refine (Tryd.Builder_Len_f (w.heap.size + 2) (w.heap.size + 2) (Lib.byteCells b0) _ ?hl).mono ?_; (case hl => exact HST.out.buf); rintro e w2 ⟨rfl, rfl⟩)
            | (refine step_append_lies _ rfl (.tmp 67) (.tmp 73) 46 rfl (w.heap.size + 3) 56 i0 _ 3 24 rfl hi hz0 hz1 hz2 rfl (by decide) v qs.length (pcs qs) rfl ?ho ⟨wr.heap.size, 0, none⟩ 1 1 (pc ⟨F, k + 1, b0.length⟩) rfl rfl ?hn ?h1 (by decide) ?h63 ?hby ?hba _ rfl ?_; (case ho => exact HST.out.own.alloc _); (case hn => exact World.news_of_block (cs := (pc ⟨F, k + 1, b0.length⟩).toArray) (t := 56) (fr := (0, 0)) (by rw [← HPC.out]; exact heap_alloc_new wr _)); (case h1 => exact pc_one _); (case h63 => unfold maxLen; omega); (case hby => omega); (case hba => have := HST.out.size; simp; omega); intro g cap w3 hown hgr _ _; have hg' : (wr.alloc (.cells (pc ⟨F, k + 1, b0.length⟩).toArray 56)).grownBy w3 v.ownBlock := by { rw [← HPC.out]; exact ⟨hgr.os, hgr.tape, hgr.output, hgr.size, hgr.block⟩ }; obtain ⟨g1, g2⟩ := HST.out.grown hg'; have HP := Lib.hid (HST.out.push _ hown hg'); clear hown hgr hg'))
          all_goals
            go_wp2_with fail
            go_roundw
            case rel => exact ⟨k + 1, k + 1, false, rfl, rfl, by go_num, Nat.le_refl _, hlt, Lib.hid ⟨b0, _, _, HP.out, by omega, by rw [if_neg (by decide), if_neg (by decide), take_drop_nil, List.append_nil]; exact hnext.out⟩⟩
            case measure => simp [intOf]; omega
        · by_cases h60 : s[k].toNat = 60
          · exfalso
            simp only [if_true, Mk.scan] at hsc; rw [if_neg h62, if_pos h60] at hsc; cases hsc
          · have hm : wr.cell? ⟨w.heap.size, s[k].toNat, none⟩ = some (.int .i64 0) := by rw [hc, mkOf, if_neg h60, if_neg h62]
            have hnext : Hid (Mk.scan (s.data.toList.drop (k + 1)) (k + 1) (some F) b0 qs = some (x.data.toList, ps)) := Lib.hid (by
              simp only [if_true, Mk.scan] at hsc; rw [if_neg h62, if_neg h60] at hsc; exact hsc)
            clear hc hsc hst h60 h62
            go_wp2_with fail
            go_roundw
            case rel => exact ⟨F, k + 1, true, rfl, rfl, by go_num, by omega, hlt, Lib.hid ⟨b0, qs, v, HST.out, hbl, hnext.out⟩⟩
            case measure => simp [intOf]; omega
    · have hke : k = s.size := by omega
      subst hke
      rw [drop_end s s.size (Nat.le_refl _)] at hsc
      cases bg with
      | true => exfalso; simp [Mk.scan] at hsc
      | false =>
        simp only [Bool.false_eq_true, if_false, Mk.scan, Option.some.injEq, Prod.mk.injEq] at hsc
        obtain ⟨hx, rfl⟩ := hsc
        have hfull : (s.data.toList.take s.size).drop F = (s.extract F s.size).data.toList := by rw [ext_mid]
        have hlen : Hid ((Lib.byteCells b0).length + (s.extract F s.size).size ≤ 140737488355328) := Lib.hid (by
          rw [Lib.byteCells_length, ← len_str, ext_mid]; simp; omega)
        rw [hfull] at hx
        have HX := Lib.hid hx
        clear hfull hx hst
        go_wp2_with fail
        go_wp2_with (go_at_call 14; ((with_reducible refine (writeString_any (w.heap.size + 2) (w.heap.size + 2) _ _ _ HST.out.buf ?hl ?hw).mono ?_); (case hl => exact hlen.out); (case hw => have := HST.out.size; omega)); rintro e w2 ⟨rfl, hp⟩; have HP := Lib.hid (HST.out.write _ hp); clear hp)
        go_wp2_with (go_at_call 16; ((with_reducible refine (Tryd.Builder_String_any_k (w.heap.size + 2) (w.heap.size + 2) (b0 ++ (s.extract F s.size).data.toList) _ ?hl ?hw).mono ?_); (case hl => exact HP.out.buf); (case hw => have := HP.out.size; omega)); rintro e w3 ⟨he, hp⟩; have hxx : (⟨(b0 ++ (s.extract F s.size).data.toList).toArray⟩ : ByteArray) = x := str_ext (by simpa using HX.out); rw [hxx] at he; subst he; clear hxx; have HQ := Lib.hid (HP.out.step hp); clear hp; obtain ⟨q0, q1, q2, q3⟩ := HQ.out.cell_text; have q31 := q3 1; clear q0 q2 q3)
        go_ret2
        exact ⟨⟨_, rfl, HQ.out.isText⟩, HQ.out.below.setCell (p := ⟨w.heap.size + 1, 1, none⟩) (Nat.le_succ _) _⟩
end Go.Proofs.YtpgaimpppehpcaaDoor
