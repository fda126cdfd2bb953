/- The reference's bare, Quote: the walks. -/
import Derived.Test.YtpgaimpppehpcafDoorQuoteW
namespace Go.Proofs.YtpgaimpppehpcafDoor
open Go.RowKit

theorem bareB_false_of (s : ByteArray) (k : Nat) (h : k < s.size) (hb : Dw.okb s[k] = false) : Dw.bareB s.data.toList = false := by
  unfold Dw.bareB
  have : s.data.toList.all Dw.okb = false := by
    rw [List.all_eq_false]
    exact ⟨s[k], List.mem_of_getElem? (i := k) (by rw [Array.getElem?_toList]; exact Array.getElem?_eq_getElem h), by rw [hb]; decide⟩
  rw [this, Bool.and_false]

set_option maxHeartbeats 4000000 in
theorem rbare_any (s : ByteArray) (w : World) (hs : s.size ≤ 1099511627776) :
    Calls Tryd.prog 13 #[.string s] w fun e w' => e = .returned (.bool (Dw.bareB s.data.toList)) ∧ w = w' := by
  by_cases h0 : s.size = 0
  · have hnil := str_nil h0
    have HB : Hid (Dw.bareB s.data.toList = false) := Lib.hid (by unfold Dw.bareB; rw [← toL, hnil]; rfl)
    go_enter Tryd.func13, Tryd.ntmps13
    go_wp2
    go_ret
    exact ⟨ret_bool HB.out.symm, rfl⟩
  · have hz : 0 < s.size := by omega
    have hne : s.toList.isEmpty = false := str_emp hz
    have hne2 : ¬ s.toList = [] := str_ne hz
    have hcons : s.data.toList = s[0] :: s.data.toList.drop 1 := by have := drop_at s 0 hz; simpa using this
    by_cases h35 : s[0].toNat = 35
    · have b35 : ((s[0].toNat : Int) == 35) = true := beqI_true (by omega)
      have HB : Hid (Dw.bareB s.data.toList = false) := Lib.hid (by unfold Dw.bareB; rw [hcons]; simp [h35])
      clear hcons h35
      go_enter Tryd.func13, Tryd.ntmps13
      go_wp2
      go_ret
      exact ⟨ret_bool HB.out.symm, rfl⟩
    · have b35 : ((s[0].toNat : Int) == 35) = false := beqI_false (by omega)
      have HB : Hid (Dw.bareB s.data.toList = s.data.toList.all Dw.okb) := Lib.hid (by
        have h1 : (s.data.toList.headD 0).toNat = s[0].toNat := by rw [hcons]; rfl
        have h2 : s.data.toList.isEmpty = false := by rw [hcons]; rfl
        unfold Dw.bareB; rw [h1, h2]; simp [h35])
      clear hcons h35
      go_enter Tryd.func13, Tryd.ntmps13
      go_wp2
      go_loop [3] (fun i => ∃ k : Nat, i = .int .i64 k ∧ k ≤ s.size ∧ Hid ((s.data.toList.take k).all Dw.okb = true)) (fun i => s.size - (intOf i).toNat)
      case atStart => exact ⟨0, rfl, Nat.zero_le _, Lib.hid rfl⟩
      case round =>
        obtain ⟨k, rfl, hk, hall⟩ := hrel
        by_cases hlt : k < s.size
        · have hk1 : Hid (Dw.okb s[k] = (decide (33 ≤ s[k].toNat) && decide (s[k].toNat ≤ 126) && s[k].toNat != 34 && s[k].toNat != 92)) := Lib.hid rfl
          by_cases h1 : 33 ≤ s[k].toNat
          · have c1 : decide ((s[k].toNat : Int) < 33) = false := decide_eq_false (by omega)
            by_cases h2 : s[k].toNat ≤ 126
            · have c2 : decide (126 < (s[k].toNat : Int)) = false := decide_eq_false (by omega)
              by_cases h3 : s[k].toNat = 34
              · have c3 : ((s[k].toNat : Int) == 34) = true := beqI_true (by omega)
                have HF : Hid (Dw.bareB s.data.toList = false) := Lib.hid (bareB_false_of s k hlt (by rw [hk1.out]; simp [h3]))
                clear h1 h2 h3
                go_wp2
                go_ret
                exact ⟨ret_bool HF.out.symm, rfl⟩
              · have c3 : ((s[k].toNat : Int) == 34) = false := beqI_false (by omega)
                by_cases h4 : s[k].toNat = 92
                · have c4 : ((s[k].toNat : Int) == 92) = true := beqI_true (by omega)
                  have HF : Hid (Dw.bareB s.data.toList = false) := Lib.hid (bareB_false_of s k hlt (by rw [hk1.out]; simp [h4]))
                  clear h1 h2 h3 h4
                  go_wp2
                  go_ret
                  exact ⟨ret_bool HF.out.symm, rfl⟩
                · have c4 : ((s[k].toNat : Int) == 92) = false := beqI_false (by omega)
                  have HF : Hid (Dw.okb s[k] = true) := Lib.hid (by rw [hk1.out]; simp [h1, h2, h3, h4])
                  clear h1 h2 h3 h4
                  go_wp2
                  go_round
                  case rel => exact ⟨k + 1, by go_num, hlt, Lib.hid (by rw [all_snoc s k hlt, hall.out, HF.out]; rfl)⟩
                  case measure => simp [intOf]; omega
            · have c2 : decide (126 < (s[k].toNat : Int)) = true := decide_eq_true (by omega)
              have HF : Hid (Dw.bareB s.data.toList = false) := Lib.hid (bareB_false_of s k hlt (by rw [hk1.out]; simp [h2]))
              clear h1 h2
              go_wp2
              go_ret
              exact ⟨ret_bool HF.out.symm, rfl⟩
          · have c1 : decide ((s[k].toNat : Int) < 33) = true := decide_eq_true (by omega)
            have HF : Hid (Dw.bareB s.data.toList = false) := Lib.hid (bareB_false_of s k hlt (by rw [hk1.out]; simp [h1]))
            clear h1
            go_wp2
            go_ret
            exact ⟨ret_bool HF.out.symm, rfl⟩
        · have HF : Hid (Dw.bareB s.data.toList = true) := Lib.hid (by
            rw [HB.out]; have := hall.out; rwa [List.take_of_length_le (by rw [len_str]; omega)] at this)
          go_wp2
          go_ret
          exact ⟨ret_bool HF.out.symm, rfl⟩

theorem digit_cut (n : Nat) (h : n < 16) (W : World) : (Instr.slice 9 (.string { data := #[48, 49, 50, 51, 52, 53, 54, 55, 56, 57, 97, 98, 99, 100, 101, 102] }) (some (.int .u8 (n : Int))) (some (.int .u8 ((n : Int) + 1))) none).run Tryd.prog W = .ok (.string { data := #[Dw.hexd n] }) W := by
  obtain rfl | rfl | rfl | rfl | rfl | rfl | rfl | rfl | rfl | rfl | rfl | rfl | rfl | rfl | rfl | rfl : n = 0 ∨ n = 1 ∨ n = 2 ∨ n = 3 ∨ n = 4 ∨ n = 5 ∨ n = 6 ∨ n = 7 ∨ n = 8 ∨ n = 9 ∨ n = 10 ∨ n = 11 ∨ n = 12 ∨ n = 13 ∨ n = 14 ∨ n = 15 := by omega
  all_goals kernel_rfl

set_option maxHeartbeats 4000000 in
theorem rQuote_any (s : ByteArray) (w : World) (hs : s.size ≤ 1099511627776) :
    Calls Tryd.prog 6 #[.string s] w fun e w' => (∃ x : ByteArray, e = .returned (.string x) ∧ x.data.toList = Dw.quote s.data.toList) ∧ ∃ n, w' = w.drewN n := by
  cases hb : Dw.bareB s.data.toList with
  | true =>
    have HB := Lib.hid hb
    clear hb
    go_enter Tryd.func6, Tryd.ntmps6
    go_wp2_with (go_at_call 13; refine (rbare_any s _ hs).mono ?_; rintro e w' ⟨rfl, rfl⟩; rw [HB.out])
    go_ret
    exact ⟨⟨s, rfl, by rw [quote_bare HB.out]⟩, 0, rfl⟩
  | false =>
    have HB := Lib.hid hb
    clear hb
    go_enter Tryd.func6, Tryd.ntmps6
    go_wp2_with (go_at_call 13; refine (rbare_any s _ hs).mono ?_; rintro e w' ⟨rfl, rfl⟩; rw [HB.out])
    go_loopw [3, 4] (fun v i wr => ∃ (k : Nat) (x : ByteArray), v = .string x ∧ i = .int .i64 k ∧ k ≤ s.size ∧ x.size ≤ 4 * k + 1 ∧ Hid (x.data.toList = 34 :: (s.data.toList.take k).flatMap Dw.qch) ∧ ∃ n, wr = w.drewN n) (fun _ i _ => s.size - (intOf i).toNat)
    case atStart => exact ⟨0, { data := #[34] }, rfl, rfl, Nat.zero_le _, by decide, Lib.hid rfl, 0, rfl⟩
    case round =>
      obtain ⟨k, x, rfl, rfl, hk, hxs, hx, n, rfl⟩ := hrel
      by_cases hlt : k < s.size
      · have hnext : Hid (34 :: (s.data.toList.take (k + 1)).flatMap Dw.qch = (34 :: (s.data.toList.take k).flatMap Dw.qch) ++ Dw.qch s[k]) := Lib.hid (by rw [take_at s k hlt]; simp)
        rcases (show s[k].toNat = 34 ∨ s[k].toNat = 92 ∨ s[k].toNat = 10 ∨ (s[k].toNat ≠ 34 ∧ s[k].toNat ≠ 92 ∧ s[k].toNat ≠ 10 ∧ 32 ≤ s[k].toNat ∧ s[k].toNat ≤ 126) ∨ (s[k].toNat ≠ 34 ∧ s[k].toNat ≠ 92 ∧ s[k].toNat ≠ 10 ∧ ¬ (32 ≤ s[k].toNat ∧ s[k].toNat ≤ 126)) from by omega) with h | h | h | h | h
        · have hq : Hid (Dw.qch s[k] = [92, 34]) := Lib.hid (by rw [Dw.qch, if_pos (Or.inl h), show s[k] = 34 from UInt8.toNat_inj.1 h])
          have b34 : ((s[k].toNat : Int) == 34) = true := beqI_true (by omega)
          have hb : x.size + (ByteArray.size { data := #[92, 34] }) ≤ 4 * k + 3 := by show x.size + 2 ≤ _; omega
          clear h
          go_wp2
          go_roundw
          case rel => exact ⟨k + 1, _, rfl, by go_num, hlt, by rw [app_size]; omega, Lib.hid (by rw [app_data, hx.out, hnext.out, hq.out]), ⟨_, rfl⟩⟩
          case measure => simp [intOf]; omega
        · have hq : Hid (Dw.qch s[k] = [92, 92]) := Lib.hid (by rw [Dw.qch, if_pos (Or.inr h), show s[k] = 92 from UInt8.toNat_inj.1 h])
          have b34 : ((s[k].toNat : Int) == 34) = false := beqI_false (by omega)
          have b92 : ((s[k].toNat : Int) == 92) = true := beqI_true (by omega)
          have hb : x.size + (ByteArray.size { data := #[92, 92] }) ≤ 4 * k + 3 := by show x.size + 2 ≤ _; omega
          clear h
          go_wp2
          go_roundw
          case rel => exact ⟨k + 1, _, rfl, by go_num, hlt, by rw [app_size]; omega, Lib.hid (by rw [app_data, hx.out, hnext.out, hq.out]), ⟨_, rfl⟩⟩
          case measure => simp [intOf]; omega
        · have hq : Hid (Dw.qch s[k] = [92, 110]) := Lib.hid (by rw [Dw.qch, if_neg (by omega), if_pos h])
          have b34 : ((s[k].toNat : Int) == 34) = false := beqI_false (by omega)
          have b92 : ((s[k].toNat : Int) == 92) = false := beqI_false (by omega)
          have b10 : ((s[k].toNat : Int) == 10) = true := beqI_true (by omega)
          have hb : x.size + (ByteArray.size { data := #[92, 110] }) ≤ 4 * k + 3 := by show x.size + 2 ≤ _; omega
          clear h
          go_wp2
          go_roundw
          case rel => exact ⟨k + 1, _, rfl, by go_num, hlt, by rw [app_size]; omega, Lib.hid (by rw [app_data, hx.out, hnext.out, hq.out]), ⟨_, rfl⟩⟩
          case measure => simp [intOf]; omega
        · have hq : Hid (Dw.qch s[k] = [s[k]]) := Lib.hid (by rw [Dw.qch, if_neg (by omega), if_neg (by omega), if_pos (by omega)])
          have b34 : ((s[k].toNat : Int) == 34) = false := beqI_false (by omega)
          have b92 : ((s[k].toNat : Int) == 92) = false := beqI_false (by omega)
          have b10 : ((s[k].toNat : Int) == 10) = false := beqI_false (by omega)
          have c1 : decide ((s[k].toNat : Int) < 32) = false := decide_eq_false (by omega)
          have c2 : decide (126 < (s[k].toNat : Int)) = false := decide_eq_false (by omega)
          have hes : (s.extract k (k + 1)).data.toList = [s[k]] := by rw [ext_sub, drop_at s k hlt, show k + 1 - k = 1 from by omega]; rfl
          have hez : (s.extract k (k + 1)).size = 1 := by rw [← len_str, hes]; rfl
          have hb : x.size + (s.extract k (k + 1)).size ≤ 4 * k + 3 := by omega
          have HES := Lib.hid hes
          clear h hes hez
          go_wp2
          go_roundw
          case rel => exact ⟨k + 1, _, rfl, by go_num, hlt, by rw [app_size]; omega, Lib.hid (by rw [app_data, hx.out, hnext.out, hq.out, HES.out]), ⟨_, rfl⟩⟩
          case measure => simp [intOf]; omega
        · have hq : Hid (Dw.qch s[k] = [92, 120, Dw.hexd (s[k].toNat / 16), Dw.hexd (s[k].toNat % 16)]) := Lib.hid (by rw [Dw.qch, if_neg (by omega), if_neg (by omega), if_neg (by omega)])
          have b34 : ((s[k].toNat : Int) == 34) = false := beqI_false (by omega)
          have b92 : ((s[k].toNat : Int) == 92) = false := beqI_false (by omega)
          have b10 : ((s[k].toNat : Int) == 10) = false := beqI_false (by omega)
          have hlt256 := s[k].toNat_lt
          have hand := and15 s[k]
          have hw1 : IntKind.u8.wrap ((s[k].toNat : Int) / 16 + 1) = (s[k].toNat : Int) / 16 + 1 := by unfold IntKind.wrap; simp [IntKind.bits, IntKind.signed]; omega
          have hw2 : IntKind.u8.wrap ((s[k].toNat : Int) % 16 + 1) = (s[k].toNat : Int) % 16 + 1 := by unfold IntKind.wrap; simp [IntKind.bits, IntKind.signed]; omega
          have hd1 : ∀ W, (Instr.slice 9 (.string { data := #[48, 49, 50, 51, 52, 53, 54, 55, 56, 57, 97, 98, 99, 100, 101, 102] }) (some (.int .u8 ((s[k].toNat : Int) / 16))) (some (.int .u8 ((s[k].toNat : Int) / 16 + 1))) none).run Tryd.prog W = .ok (.string { data := #[Dw.hexd (s[k].toNat / 16)] }) W := fun W => digit_cut (s[k].toNat / 16) (by omega) W
          have hd2 : ∀ W, (Instr.slice 9 (.string { data := #[48, 49, 50, 51, 52, 53, 54, 55, 56, 57, 97, 98, 99, 100, 101, 102] }) (some (.int .u8 ((s[k].toNat : Int) % 16))) (some (.int .u8 ((s[k].toNat : Int) % 16 + 1))) none).run Tryd.prog W = .ok (.string { data := #[Dw.hexd (s[k].toNat % 16)] }) W := fun W => digit_cut (s[k].toNat % 16) (by omega) W
          have hb : x.size + (ByteArray.size { data := #[92, 120] }) ≤ 4 * k + 3 := by show x.size + 2 ≤ _; omega
          have hb2 : (x ++ { data := #[92, 120] }).size + (ByteArray.size { data := #[Dw.hexd (s[k].toNat / 16)] }) ≤ 4 * k + 4 := by rw [app_size]; show x.size + 2 + 1 ≤ _; omega
          have hb3 : (x ++ { data := #[92, 120] } ++ { data := #[Dw.hexd (s[k].toNat / 16)] }).size + (ByteArray.size { data := #[Dw.hexd (s[k].toNat % 16)] }) ≤ 4 * k + 5 := by rw [app_size, app_size]; show x.size + 2 + 1 + 1 ≤ _; omega
          have hv : ¬ (32 ≤ s[k].toNat ∧ s[k].toNat ≤ 126) := h.2.2.2
          clear h hlt256
          by_cases h32 : s[k].toNat < 32
          · have c1 : decide ((s[k].toNat : Int) < 32) = true := decide_eq_true (by omega)
            clear hv h32
            go_wp2
            go_quiet (fail)
            go_wp2
            go_roundw
            case rel => exact ⟨k + 1, _, rfl, by go_num, hlt, by have := hb3; rw [app_size]; omega, Lib.hid (by rw [app_data, app_data, app_data, hx.out, hnext.out, hq.out]; simp), ⟨_, rfl⟩⟩
            case measure => simp [intOf]; omega
          · have c1 : decide ((s[k].toNat : Int) < 32) = false := decide_eq_false (by omega)
            have c2 : decide (126 < (s[k].toNat : Int)) = true := decide_eq_true (by omega)
            clear hv h32
            go_wp2
            go_quiet (fail)
            go_wp2
            go_roundw
            case rel => exact ⟨k + 1, _, rfl, by go_num, hlt, by have := hb3; rw [app_size]; omega, Lib.hid (by rw [app_data, app_data, app_data, hx.out, hnext.out, hq.out]; simp), ⟨_, rfl⟩⟩
            case measure => simp [intOf]; omega
      · have hke : k = s.size := by omega
        subst hke
        have hb : x.size + (ByteArray.size { data := #[34] }) ≤ 4 * s.size + 3 := by show x.size + 1 ≤ _; omega
        have hfin : Hid ((x ++ { data := #[34] }).data.toList = Dw.quote s.data.toList) := Lib.hid (by
          rw [quote_not HB.out, app_data, hx.out, List.take_of_length_le (by rw [len_str]; omega)]; rfl)
        go_wp2
        go_ret
        exact ⟨⟨_, rfl, hfin.out⟩, _, rfl⟩
end Go.Proofs.YtpgaimpppehpcafDoor
