/- desk.Quote: the walk. -/
import Derived.Test.YtpgaimpppehpcafDoorBuf
import Derived.Test.YtpgaimpppehpcafDoorQuoteSpec
import Derived.Test.YtpgaimpppehpcafDoorConv
import Derived.WalkSpells
import Derived.BigQuiet
import Derived.Outline
import Derived.Deep.RegionWith
import Derived.Deep.DeepCutAuto
import Derived.StillTailTactics
namespace Go.Proofs.YtpgaimpppehpcafDoor
open Go.RowKit Go.Proofs.YtpgaimpppehpcafDoorW.PrintWords

theorem all_snoc (s : ByteArray) (k : Nat) (h : k < s.size) (p : UInt8 → Bool) : (s.data.toList.take (k + 1)).all p = ((s.data.toList.take k).all p && p s[k]) := by
  rw [take_at s k h, List.all_append]; simp

theorem quote_bare {l : List UInt8} (h : Dw.bareB l = true) : Dw.quote l = l := by rw [Dw.quote, if_pos h]
theorem quote_not {l : List UInt8} (h : Dw.bareB l = false) : Dw.quote l = 34 :: (l.flatMap Dw.qch ++ [34]) := by rw [Dw.quote, if_neg (by rw [h]; decide)]

theorem flatMap_le (l : List UInt8) : (l.flatMap Dw.qch).length ≤ 4 * l.length := by
  induction l with
  | nil => simp
  | cons c l ih => rw [List.flatMap_cons, List.length_append, List.length_cons]; have := Dw.qch_le c; omega

theorem digit_at (n : Nat) (h : n < 16) (W : World) : (Instr.index 9 (.string { data := #[48, 49, 50, 51, 52, 53, 54, 55, 56, 57, 97, 98, 99, 100, 101, 102] }) (.int .u8 (n : Int))).run Tryd.prog W = .ok (.int .u8 ((Dw.hexd n).toNat : Int)) W := by
  obtain rfl | rfl | rfl | rfl | rfl | rfl | rfl | rfl | rfl | rfl | rfl | rfl | rfl | rfl | rfl | rfl : n = 0 ∨ n = 1 ∨ n = 2 ∨ n = 3 ∨ n = 4 ∨ n = 5 ∨ n = 6 ∨ n = 7 ∨ n = 8 ∨ n = 9 ∨ n = 10 ∨ n = 11 ∨ n = 12 ∨ n = 13 ∨ n = 14 ∨ n = 15 := by omega
  all_goals kernel_rfl
theorem and15 (c : UInt8) : bits BinOp.and IntKind.u8 (c.toNat : Int) 15 = (c.toNat : Int) % 16 := by
  have h : ∀ n : Fin 256, bits BinOp.and IntKind.u8 (n.val : Int) 15 = (n.val : Int) % 16 := by decide +kernel
  exact h ⟨c.toNat, c.toNat_lt⟩

/-- the Bool of the first loop, after k bytes -/
def bareK (s : ByteArray) (k : Nat) : Bool := (!s.data.toList.isEmpty && (s.data.toList.headD 0).toNat != 35) && (s.data.toList.take k).all Dw.okb

theorem bareK_end (s : ByteArray) : bareK s s.size = Dw.bareB s.data.toList := by
  unfold bareK Dw.bareB; rw [List.take_of_length_le (by rw [len_str]; omega)]
theorem bareK_succ (s : ByteArray) (k : Nat) (h : k < s.size) : bareK s (k + 1) = (bareK s k && Dw.okb s[k]) := by
  unfold bareK; rw [all_snoc s k h]; simp only [Bool.and_assoc]

set_option maxHeartbeats 8000000 in
set_option maxRecDepth 100000 in
theorem Quote_any (s : ByteArray) (w : World) (hs : s.size ≤ 1099511627776) :
    Calls Tryd.prog 4 #[.string s] w fun e w' => (∃ x : ByteArray, e = .returned (.string x) ∧ x.data.toList = Dw.quote s.data.toList) ∧ Below w.heap.size w w' := by
  go_enter Tryd.func4, Tryd.ntmps4
  go_upto_region 1 with fail
  go_cut [3] (fun v wx => w = wx ∧ ∃ b, v = .bool b ∧ Hid (b = bareK s 0))
  case first =>
    by_cases h0 : s.size = 0
    · have hnil := str_nil h0
      have HB : Hid (false = bareK s 0) := Lib.hid (by unfold bareK; rw [← toL, hnil]; rfl)
      go_wp2_with fail
      go_meet
      case rel => exact ⟨rfl, false, rfl, HB⟩
    · have hz : 0 < s.size := by omega
      have hne : s.toList.isEmpty = false := str_emp hz
      have hne2 : ¬ s.toList = [] := str_ne hz
      have hcons : s.data.toList = s[0] :: s.data.toList.drop 1 := by have := drop_at s 0 hz; simpa using this
      by_cases h35 : s[0].toNat = 35
      · have b35 : ((s[0].toNat : Int) != 35) = false := bneI_false (by omega)
        have HB : Hid (false = bareK s 0) := Lib.hid (by unfold bareK; rw [hcons]; simp [h35])
        clear hcons h35
        go_wp2_with fail
        go_meet
        case rel => exact ⟨rfl, false, rfl, HB⟩
      · have b35 : ((s[0].toNat : Int) != 35) = true := bneI_true (by omega)
        have HB : Hid (true = bareK s 0) := Lib.hid (by unfold bareK; rw [hcons]; simp [h35])
        clear hcons h35
        go_wp2_with fail
        go_meet
        case rel => exact ⟨rfl, true, rfl, HB⟩
  case rest =>
    obtain ⟨rfl, b0, rfl, hb0⟩ := hcut
    go_wp2_with fail
    go_loop [3, 17] (fun v i => ∃ (k : Nat) (b : Bool), v = .bool b ∧ i = .int .i64 k ∧ k ≤ s.size ∧ Hid (b = bareK s k)) (fun _ i => s.size - (intOf i).toNat)
    case atStart => exact ⟨0, b0, rfl, rfl, Nat.zero_le _, hb0⟩
    case round =>
      clear hb0
      obtain ⟨k, b, rfl, rfl, hk, hb⟩ := hrel
      by_cases hlt : k < s.size
      · have hsucc : Hid (bareK s (k + 1) = (bareK s k && Dw.okb s[k])) := Lib.hid (bareK_succ s k hlt)
        cases b with
        | false =>
          go_wp2_with fail
          go_round
          case rel => exact ⟨k + 1, false, rfl, by go_num, hlt, Lib.hid (by rw [hsucc.out, ← hb.out]; rfl)⟩
          case measure => simp [intOf]; omega
        | true =>
          have hk1 : Hid (Dw.okb s[k] = (decide (33 ≤ s[k].toNat) && decide (s[k].toNat ≤ 126) && s[k].toNat != 34 && s[k].toNat != 92)) := Lib.hid rfl
          by_cases h1 : 33 ≤ s[k].toNat
          · have c1 : decide ((33 : Int) ≤ (s[k].toNat : Int)) = true := decide_eq_true (by omega)
            by_cases h2 : s[k].toNat ≤ 126
            · have c2 : decide ((s[k].toNat : Int) ≤ 126) = true := decide_eq_true (by omega)
              by_cases h3 : s[k].toNat = 34
              · have c3 : ((s[k].toNat : Int) != 34) = false := bneI_false (by omega)
                have HF : Hid (Dw.okb s[k] = false) := Lib.hid (by rw [hk1.out]; simp [h3])
                clear h1 h2 h3
                go_wp2_with fail
                go_round
                case rel => exact ⟨k + 1, false, rfl, by go_num, hlt, Lib.hid (by rw [hsucc.out, HF.out]; simp)⟩
                case measure => simp [intOf]; omega
              · have c3 : ((s[k].toNat : Int) != 34) = true := bneI_true (by omega)
                by_cases h4 : s[k].toNat = 92
                · have c4 : ((s[k].toNat : Int) != 92) = false := bneI_false (by omega)
                  have HF : Hid (Dw.okb s[k] = false) := Lib.hid (by rw [hk1.out]; simp [h4])
                  clear h1 h2 h3 h4
                  go_wp2_with fail
                  go_round
                  case rel => exact ⟨k + 1, false, rfl, by go_num, hlt, Lib.hid (by rw [hsucc.out, HF.out]; simp)⟩
                  case measure => simp [intOf]; omega
                · have c4 : ((s[k].toNat : Int) != 92) = true := bneI_true (by omega)
                  have HF : Hid (Dw.okb s[k] = true) := Lib.hid (by rw [hk1.out]; simp [h1, h2, h3, h4])
                  clear h1 h2 h3 h4
                  go_wp2_with fail
                  go_round
                  case rel => exact ⟨k + 1, true, rfl, by go_num, hlt, Lib.hid (by rw [hsucc.out, HF.out, ← hb.out]; rfl)⟩
                  case measure => simp [intOf]; omega
            · have c2 : decide ((s[k].toNat : Int) ≤ 126) = false := decide_eq_false (by omega)
              have HF : Hid (Dw.okb s[k] = false) := Lib.hid (by rw [hk1.out]; simp [h2])
              clear h1 h2
              go_wp2_with fail
              go_round
              case rel => exact ⟨k + 1, false, rfl, by go_num, hlt, Lib.hid (by rw [hsucc.out, HF.out]; simp)⟩
              case measure => simp [intOf]; omega
          · have c1 : decide ((33 : Int) ≤ (s[k].toNat : Int)) = false := decide_eq_false (by omega)
            have HF : Hid (Dw.okb s[k] = false) := Lib.hid (by rw [hk1.out]; simp [h1])
            clear h1
            go_wp2_with fail
            go_round
            case rel => exact ⟨k + 1, false, rfl, by go_num, hlt, Lib.hid (by rw [hsucc.out, HF.out]; simp)⟩
            case measure => simp [intOf]; omega
      · have hke : k = s.size := by omega
        subst hke
        have HB : Hid (Dw.bareB s.data.toList = b) := Lib.hid (by rw [← bareK_end, hb.out])
        cases b with
        | true =>
          go_wp2_with fail
          go_ret
          exact ⟨⟨s, rfl, by rw [quote_bare HB.out]⟩, Below.refl _ _⟩
        | false =>
          go_wp2_with fail
          go_wp2_with (go_at_call 7; refine (writeByte_any w.heap.size w.heap.size [] 34 _ (Lib.IsBuilderF.of (Lib.fresh_isBuilder 32 5 w)) (by simp) (by simp)).mono ?_; rintro e w1 ⟨rfl, hi, hb1, _⟩; have HI := Lib.hid hi; have HB1 := Lib.hid (((Below.refl _ w).alloc (Nat.le_refl _) _).trans hb1); clear hi hb1 hb)
          go_loopw [51] (fun i wr => ∃ k : Nat, i = .int .i64 k ∧ k ≤ s.size ∧ Hid (IsBuf w.heap.size w.heap.size (Lib.byteCells (34 :: (s.data.toList.take k).flatMap Dw.qch)) wr) ∧ Hid (Below w.heap.size w wr)) (fun i _ => s.size - (intOf i).toNat)
          case atStart => exact ⟨0, rfl, Nat.zero_le _, Lib.hid HI.out, HB1⟩
          case round =>
            clear hlt hk
            obtain ⟨k, rfl, hk, hI, hB⟩ := hrel
            have hlen : (Lib.byteCells (34 :: (s.data.toList.take k).flatMap Dw.qch)).length ≤ 4 * k + 1 := by
              rw [Lib.byteCells_length, List.length_cons]
              have := flatMap_le (s.data.toList.take k)
              have h2 : (s.data.toList.take k).length ≤ k := List.length_take_le _ _
              omega
            by_cases hlt : k < s.size
            · have hnext : Hid (34 :: (s.data.toList.take (k + 1)).flatMap Dw.qch = (34 :: (s.data.toList.take k).flatMap Dw.qch) ++ Dw.qch s[k]) := Lib.hid (by rw [take_at s k hlt]; simp)
              rcases (show s[k].toNat = 34 ∨ s[k].toNat = 92 ∨ s[k].toNat = 10 ∨ (s[k].toNat ≠ 34 ∧ s[k].toNat ≠ 92 ∧ s[k].toNat ≠ 10 ∧ 32 ≤ s[k].toNat ∧ s[k].toNat ≤ 126) ∨ (s[k].toNat ≠ 34 ∧ s[k].toNat ≠ 92 ∧ s[k].toNat ≠ 10 ∧ ¬ (32 ≤ s[k].toNat ∧ s[k].toNat ≤ 126)) from by omega) with h | h | h | h | h
              · have hq : Hid (Dw.qch s[k] = [92, s[k]]) := Lib.hid (by rw [Dw.qch, if_pos (Or.inl h)])
                have hcv := conv_one wr s[k].toNat
                have hsz := nums_size [(s[k].toNat : Int)]
                simp only [List.length_cons, List.length_nil] at hsz
                have b34 : ((s[k].toNat : Int) == 34) = true := beqI_true (by omega)
                have H := Lib.hid h
                clear h
                go_wp2_with (go_at_call 8; ((with_reducible refine (writeString_any w.heap.size w.heap.size _ _ _ (hI.out.alloc _) ?hl ?hw).mono ?_); (case hl => rw [app_size, hsz]; show _ + (1 + _) ≤ _; omega); (case hw => have := hB.out.size; simp; omega)); rintro e w2 ⟨rfl, hi, hb2, _⟩; have HI2 := Lib.hid hi; have HB2 := Lib.hid hb2; clear hi hb2)
                go_roundw
                case rel => exact ⟨k + 1, by go_num, hlt, Lib.hid (by rw [hnext.out, hq.out]; have := HI2.out; rw [cells_str, app_data, strOfNums_data] at this; simpa using this), Lib.hid ((hB.out.alloc hB.out.size _).trans HB2.out)⟩
                case measure => simp [intOf]; omega
              · have hq : Hid (Dw.qch s[k] = [92, s[k]]) := Lib.hid (by rw [Dw.qch, if_pos (Or.inr h)])
                have hcv := conv_one wr s[k].toNat
                have hsz := nums_size [(s[k].toNat : Int)]
                simp only [List.length_cons, List.length_nil] at hsz
                have b34 : ((s[k].toNat : Int) == 34) = false := beqI_false (by omega)
                have b92 : ((s[k].toNat : Int) == 92) = true := beqI_true (by omega)
                have H := Lib.hid h
                clear h
                go_wp2_with (go_at_call 8; ((with_reducible refine (writeString_any w.heap.size w.heap.size _ _ _ (hI.out.alloc _) ?hl ?hw).mono ?_); (case hl => rw [app_size, hsz]; show _ + (1 + _) ≤ _; omega); (case hw => have := hB.out.size; simp; omega)); rintro e w2 ⟨rfl, hi, hb2, _⟩; have HI2 := Lib.hid hi; have HB2 := Lib.hid hb2; clear hi hb2)
                go_roundw
                case rel => exact ⟨k + 1, by go_num, hlt, Lib.hid (by rw [hnext.out, hq.out]; have := HI2.out; rw [cells_str, app_data, strOfNums_data] at this; simpa using this), Lib.hid ((hB.out.alloc hB.out.size _).trans HB2.out)⟩
                case measure => simp [intOf]; omega
              · have hq : Hid (Dw.qch s[k] = [92, 110]) := Lib.hid (by rw [Dw.qch, if_neg (by omega), if_pos h])
                have b34 : ((s[k].toNat : Int) == 34) = false := beqI_false (by omega)
                have b92 : ((s[k].toNat : Int) == 92) = false := beqI_false (by omega)
                have b10 : ((s[k].toNat : Int) == 10) = true := beqI_true (by omega)
                clear h
                go_wp2_with (go_at_call 8; ((with_reducible refine (writeString_any w.heap.size w.heap.size _ _ _ hI.out ?hl hB.out.size).mono ?_); (case hl => show _ + 2 ≤ _; omega)); rintro e w2 ⟨rfl, hi, hb2, _⟩; have HI2 := Lib.hid hi; have HB2 := Lib.hid hb2; clear hi hb2)
                go_roundw
                case rel => exact ⟨k + 1, by go_num, hlt, Lib.hid (by rw [hnext.out, hq.out]; have := HI2.out; rw [cells_str] at this; exact this), Lib.hid (hB.out.trans HB2.out)⟩
                case measure => simp [intOf]; omega
              · have hq : Hid (Dw.qch s[k] = [s[k]]) := Lib.hid (by rw [Dw.qch, if_neg (by omega), if_neg (by omega), if_pos (by omega)])
                have b34 : ((s[k].toNat : Int) == 34) = false := beqI_false (by omega)
                have b92 : ((s[k].toNat : Int) == 92) = false := beqI_false (by omega)
                have b10 : ((s[k].toNat : Int) == 10) = false := beqI_false (by omega)
                have c1 : decide ((32 : Int) ≤ (s[k].toNat : Int)) = true := decide_eq_true (by omega)
                have c2 : decide ((s[k].toNat : Int) ≤ 126) = true := decide_eq_true (by omega)
                clear h
                go_wp2_with (go_at_call 7; refine (writeByte_any w.heap.size w.heap.size _ s[k].toNat _ hI.out (by omega) hB.out.size).mono ?_; rintro e w2 ⟨rfl, hi, hb2, _⟩; have HI2 := Lib.hid hi; have HB2 := Lib.hid hb2; clear hi hb2)
                go_roundw
                case rel => exact ⟨k + 1, by go_num, hlt, Lib.hid (by rw [hnext.out, hq.out, Lib.byteCells_append]; exact HI2.out), Lib.hid (hB.out.trans HB2.out)⟩
                case measure => simp [intOf]; omega
              · have hq : Hid (Dw.qch s[k] = [92, 120, Dw.hexd (s[k].toNat / 16), Dw.hexd (s[k].toNat % 16)]) := Lib.hid (by rw [Dw.qch, if_neg (by omega), if_neg (by omega), if_neg (by omega)])
                have b34 : ((s[k].toNat : Int) == 34) = false := beqI_false (by omega)
                have b92 : ((s[k].toNat : Int) == 92) = false := beqI_false (by omega)
                have b10 : ((s[k].toNat : Int) == 10) = false := beqI_false (by omega)
                by_cases h32 : 32 ≤ s[k].toNat
                · have c1 : decide ((32 : Int) ≤ (s[k].toNat : Int)) = true := decide_eq_true (by omega)
                  have c2 : decide ((s[k].toNat : Int) ≤ 126) = false := decide_eq_false (by omega)
                  clear h h32
                  have hlt256 := s[k].toNat_lt
                  have hd1 : ∀ W, (Instr.index 9 (.string { data := #[48, 49, 50, 51, 52, 53, 54, 55, 56, 57, 97, 98, 99, 100, 101, 102] }) (.int .u8 ((s[k].toNat : Int) / 16))).run Tryd.prog W = .ok (.int .u8 ((Dw.hexd (s[k].toNat / 16)).toNat : Int)) W := fun W => digit_at (s[k].toNat / 16) (by omega) W
                  have hd2 : ∀ W, (Instr.index 9 (.string { data := #[48, 49, 50, 51, 52, 53, 54, 55, 56, 57, 97, 98, 99, 100, 101, 102] }) (.int .u8 ((s[k].toNat : Int) % 16))).run Tryd.prog W = .ok (.int .u8 ((Dw.hexd (s[k].toNat % 16)).toNat : Int)) W := fun W => digit_at (s[k].toNat % 16) (by omega) W
                  have hand := and15 s[k]
                  clear hlt256
                  go_wp2_with fail
                  go_still_tail 6, (by kernel_rfl)
                  change wpList _ _ _ _ _ wr.drew
                  have hB' := Lib.hid hB.out.drew
                  have hI' : Hid (IsBuf w.heap.size w.heap.size (Lib.byteCells (34 :: (s.data.toList.take k).flatMap Dw.qch)) wr.drew) := Lib.hid (hI.out.drewN 1)
                  generalize wr.drew = wq at hB' hI'
                  have hcv := conv_bytes wq ((Dw.hexd (s[k].toNat / 16)).toNat : Int) ((Dw.hexd (s[k].toNat % 16)).toNat : Int)
                  have hsz := nums_size [((Dw.hexd (s[k].toNat / 16)).toNat : Int), ((Dw.hexd (s[k].toNat % 16)).toNat : Int)]
                  simp only [List.length_cons, List.length_nil] at hsz
                  go_wp2_with (go_at_call 8; ((with_reducible refine (writeString_any w.heap.size w.heap.size _ _ _ (hI'.out.alloc _) ?hl ?hw).mono ?_); (case hl => rw [app_size, hsz]; show _ + (2 + _) ≤ _; omega); (case hw => have := hB'.out.size; simp; omega)); rintro e w2 ⟨rfl, hi, hb2, _⟩; have HI2 := Lib.hid hi; have HB2 := Lib.hid hb2; clear hi hb2)
                  go_roundw
                  case rel => exact ⟨k + 1, by go_num, hlt, Lib.hid (by rw [hnext.out, hq.out]; have := HI2.out; rw [cells_str, app_data, strOfNums_data] at this; simpa using this), Lib.hid ((hB'.out.alloc hB'.out.size _).trans HB2.out)⟩
                  case measure => simp [intOf]; omega
                · have c1 : decide ((32 : Int) ≤ (s[k].toNat : Int)) = false := decide_eq_false (by omega)
                  clear h h32
                  have hlt256 := s[k].toNat_lt
                  have hd1 : ∀ W, (Instr.index 9 (.string { data := #[48, 49, 50, 51, 52, 53, 54, 55, 56, 57, 97, 98, 99, 100, 101, 102] }) (.int .u8 ((s[k].toNat : Int) / 16))).run Tryd.prog W = .ok (.int .u8 ((Dw.hexd (s[k].toNat / 16)).toNat : Int)) W := fun W => digit_at (s[k].toNat / 16) (by omega) W
                  have hd2 : ∀ W, (Instr.index 9 (.string { data := #[48, 49, 50, 51, 52, 53, 54, 55, 56, 57, 97, 98, 99, 100, 101, 102] }) (.int .u8 ((s[k].toNat : Int) % 16))).run Tryd.prog W = .ok (.int .u8 ((Dw.hexd (s[k].toNat % 16)).toNat : Int)) W := fun W => digit_at (s[k].toNat % 16) (by omega) W
                  have hand := and15 s[k]
                  clear hlt256
                  go_wp2_with fail
                  go_still_tail 6, (by kernel_rfl)
                  change wpList _ _ _ _ _ wr.drew
                  have hB' := Lib.hid hB.out.drew
                  have hI' : Hid (IsBuf w.heap.size w.heap.size (Lib.byteCells (34 :: (s.data.toList.take k).flatMap Dw.qch)) wr.drew) := Lib.hid (hI.out.drewN 1)
                  generalize wr.drew = wq at hB' hI'
                  have hcv := conv_bytes wq ((Dw.hexd (s[k].toNat / 16)).toNat : Int) ((Dw.hexd (s[k].toNat % 16)).toNat : Int)
                  have hsz := nums_size [((Dw.hexd (s[k].toNat / 16)).toNat : Int), ((Dw.hexd (s[k].toNat % 16)).toNat : Int)]
                  simp only [List.length_cons, List.length_nil] at hsz
                  go_wp2_with (go_at_call 8; ((with_reducible refine (writeString_any w.heap.size w.heap.size _ _ _ (hI'.out.alloc _) ?hl ?hw).mono ?_); (case hl => rw [app_size, hsz]; show _ + (2 + _) ≤ _; omega); (case hw => have := hB'.out.size; simp; omega)); rintro e w2 ⟨rfl, hi, hb2, _⟩; have HI2 := Lib.hid hi; have HB2 := Lib.hid hb2; clear hi hb2)
                  go_roundw
                  case rel => exact ⟨k + 1, by go_num, hlt, Lib.hid (by rw [hnext.out, hq.out]; have := HI2.out; rw [cells_str, app_data, strOfNums_data] at this; simpa using this), Lib.hid ((hB'.out.alloc hB'.out.size _).trans HB2.out)⟩
                  case measure => simp [intOf]; omega
            · have hke : k = s.size := by omega
              subst hke
              have hfin : Hid (Lib.byteCells (34 :: (s.data.toList.take s.size).flatMap Dw.qch) ++ [Value.int .u8 34] = Lib.byteCells (Dw.quote s.data.toList)) := Lib.hid (by
                rw [quote_not HB.out, List.take_of_length_le (by rw [len_str]; omega), ← List.cons_append, Lib.byteCells_append]; rfl)
              go_wp2_with (first
                | (go_at_call 7; refine (writeByte_any w.heap.size w.heap.size _ 34 _ hI.out (by omega) hB.out.size).mono ?_; rintro e w2 ⟨rfl, hi, hb2, _⟩; rw [hfin.out] at hi; have HI2 := Lib.hid hi; have HB2 := Lib.hid hb2; clear hi hb2)
                | (go_at_call 9; refine (Tryd.Builder_String_any_k w.heap.size w.heap.size _ _ HI2.out (Nat.le_trans hB.out.size HB2.out.size)).mono ?_; rintro e w3 ⟨rfl, _, hb3, _⟩))
              go_ret
              exact ⟨⟨_, rfl, by simp⟩, (hB.out.trans HB2.out).trans hb3⟩
end Go.Proofs.YtpgaimpppehpcafDoor
