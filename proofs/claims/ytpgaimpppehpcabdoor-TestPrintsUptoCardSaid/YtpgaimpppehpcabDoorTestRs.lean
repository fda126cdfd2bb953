/- caesuraref23.short: the line of a case that may be. -/
import Derived.Test.YtpgaimpppehpcabDoorTestSh
namespace Go.Proofs.YtpgaimpppehpcabDoor
open Go.RowKit Go.Proofs.YtpgaimpppehpcabDoorW.PrintWords

theorem text_two {pl br : List Int} {k : Nat} {s m y : ByteArray} {r : ByteArray} (hs : s.data.toList = textT pl br k) (hm : m.data.toList = markL (hasI br k)) (hk : k < pl.length) (hy : y.data.toList = hexZ pl[k]) (hr : r.data.toList = ((s.data.toList ++ m.data.toList) ++ [32] ++ y.data.toList) ++ [32]) : r.data.toList = textT pl br (k + 1) := by
  rw [hr, hs, hm, hy, textT, if_pos hk, getD_at hk]; simp
theorem text_one {pl br : List Int} {k : Nat} {s m : ByteArray} (hs : s.data.toList = textT pl br k) (hm : m.data.toList = markL (hasI br k)) (hk : ¬ k < pl.length) : (s ++ m).data.toList = textT pl br (k + 1) := by
  rw [app_data, hs, hm, textT, if_neg hk]; simp

theorem hexZ_len (z : Int) : (hexZ z).length ≤ 8 := by have := hexL_len 8 z.toNat []; simpa [hexZ] using this

set_option maxHeartbeats 4000000 in
theorem rshort_any (PA BA : Option Addr) (pc bc : Nat) (pl br : List Int) (w : World) (hp : pl.length ≤ 1073741824) (hb : br.length ≤ 1099511627776) (hP : IntsAt w PA pl) (hB : IntsAt w BA br) (hpts : PtsOk pl) (hok : brOk pl.length br br.length = true) :
    Calls Tryd.prog 18 #[.agg #[.slice PA pl.length pc, .slice BA br.length bc]] w fun e w' => (∃ x : ByteArray, e = .returned (.string x) ∧ x.data.toList = lineT pl br) ∧ Below w.heap.size w w' := by
  have HP := Lib.hid hP
  have HB := Lib.hid hB
  have HPT := Lib.hid hpts
  have HOK := Lib.hid hok
  clear hP hB hpts hok
  go_enter Tryd.func18, Tryd.ntmps18
  go_wp2_with fail
  go_loop [3, 4, 5] (fun s q i => ∃ (k j : Nat) (x : ByteArray), s = .string x ∧ q = .int .i64 j ∧ i = .int .i64 k ∧ k ≤ pl.length + 1 ∧ j ≤ br.length ∧ Hid (KAt br k j) ∧ x.size ≤ 12 * k ∧ Hid (x.data.toList = textT pl br k)) (fun _ _ i => pl.length + 1 - (intOf i).toNat)
  case atStart => exact ⟨0, 0, _, rfl, rfl, rfl, Nat.zero_le _, Nat.zero_le _, Lib.hid (KAt.zero HOK.out), Nat.le_refl _, Lib.hid rfl⟩
  case round =>
    obtain ⟨k, j, x, rfl, rfl, rfl, hk, hj, hK, hxs, hx⟩ := hrel
    by_cases hlt : k ≤ pl.length
    · have d1 : decide (k ≤ pl.length) = true := decide_eq_true hlt
      have hcases : (j < br.length ∧ br.getD j 0 = (k : Int)) ∨ (j < br.length ∧ ¬ br.getD j 0 = (k : Int)) ∨ ¬ j < br.length := by
        rcases Decidable.em (j < br.length) with a | a <;> rcases Decidable.em (br.getD j 0 = (k : Int)) with b | b
        · exact .inl ⟨a, b⟩
        · exact .inr (.inl ⟨a, b⟩)
        · exact .inr (.inr a)
        · exact .inr (.inr a)
      have hfact : Hid ((j < br.length ∧ br.getD j 0 = (k : Int) → hasI br k = true ∧ KAt br (k + 1) (j + 1)) ∧ (¬ (j < br.length ∧ br.getD j 0 = (k : Int)) → hasI br k = false ∧ KAt br (k + 1) j)) :=
        Lib.hid ⟨fun h => KAt.yes HOK.out hK.out h.1 h.2, fun h => KAt.no hK.out h (brOk_lt HOK.out)⟩
      rcases hcases with ⟨hj2, he⟩ | ⟨hj2, he⟩ | hj2
      · have HM : Hid (hasI br k = true) := Lib.hid (hfact.out.1 ⟨hj2, he⟩).1
        have HKN : Hid (KAt br (k + 1) (j + 1)) := Lib.hid (hfact.out.1 ⟨hj2, he⟩).2
        have d3 : decide (j < br.length) = true := decide_eq_true hj2
        obtain ⟨bd, rfl, hcj⟩ := HB.out j hj2
        have n1 : ∀ o, (w.alloc o).cell? (bd.add j) = some (.int .i64 br[j]) := fun o => alloc_cell hcj o
        have be : (br[j] == (k : Int)) = true := beqI_true (by rw [getD_at hj2] at he; exact he)
        clear he hcj
        by_cases hl2 : k < pl.length
        · have d2 : decide (k < pl.length) = true := decide_eq_true hl2
          obtain ⟨ad, rfl, hck⟩ := HP.out k hl2
          have n2 : ∀ o, (w.alloc o).cell? (ad.add k) = some (.int .i64 pl[k]) := fun o => alloc_cell hck o
          have hpk := HPT.out k hl2
          clear hck
          go_wp2_with (go_at_call 31; with_reducible refine (HexI_any pl[k] hpk.1 hpk.2 _).mono ?_; rintro e w1 ⟨⟨y, rfl, hy⟩, rfl⟩; have hys : y.size ≤ 8 := (by rw [← len_str, hy]; exact hexZ_len _); have HYY := Lib.hid hy; clear hy)
          go_round
          case rel => first
            | exact ⟨k + 1, j + 1, _, rfl, by go_num, by go_num, by omega, by omega, HKN, by simp only [app_size]; have : (⟨#[32]⟩ : ByteArray).size = 1 := rfl; have : (⟨#[195, 183]⟩ : ByteArray).size = 2 := rfl; omega, Lib.hid (text_two hx.out (m := ⟨#[195, 183]⟩) (by rw [HM.out]; rfl) hl2 HYY.out (by simp))⟩
            | exact ⟨k + 1, j, _, rfl, by go_num, by go_num, by omega, by omega, HKN, by simp only [app_size]; have : (⟨#[32]⟩ : ByteArray).size = 1 := rfl; have : (⟨#[195, 151]⟩ : ByteArray).size = 2 := rfl; omega, Lib.hid (text_two hx.out (m := ⟨#[195, 151]⟩) (by rw [HM.out]; rfl) hl2 HYY.out (by simp))⟩
          case measure => simp [intOf]; omega
        · have d2 : decide (k < pl.length) = false := decide_eq_false hl2
          go_wp2_with fail
          go_round
          case rel => first
            | exact ⟨k + 1, j + 1, _, rfl, by go_num, by go_num, by omega, by omega, HKN, by simp only [app_size]; have : (⟨#[195, 183]⟩ : ByteArray).size = 2 := rfl; omega, Lib.hid (text_one hx.out (m := ⟨#[195, 183]⟩) (by rw [HM.out]; rfl) hl2)⟩
            | exact ⟨k + 1, j, _, rfl, by go_num, by go_num, by omega, by omega, HKN, by simp only [app_size]; have : (⟨#[195, 151]⟩ : ByteArray).size = 2 := rfl; omega, Lib.hid (text_one hx.out (m := ⟨#[195, 151]⟩) (by rw [HM.out]; rfl) hl2)⟩
          case measure => simp [intOf]; omega
      · have HM : Hid (hasI br k = false) := Lib.hid (hfact.out.2 (fun h => he h.2)).1
        have HKN : Hid (KAt br (k + 1) j) := Lib.hid (hfact.out.2 (fun h => he h.2)).2
        have d3 : decide (j < br.length) = true := decide_eq_true hj2
        obtain ⟨bd, rfl, hcj⟩ := HB.out j hj2
        have n1 : ∀ o, (w.alloc o).cell? (bd.add j) = some (.int .i64 br[j]) := fun o => alloc_cell hcj o
        have be : (br[j] == (k : Int)) = false := beqI_false (by rw [getD_at hj2] at he; exact he)
        clear he hcj
        by_cases hl2 : k < pl.length
        · have d2 : decide (k < pl.length) = true := decide_eq_true hl2
          obtain ⟨ad, rfl, hck⟩ := HP.out k hl2
          have n2 : ∀ o, (w.alloc o).cell? (ad.add k) = some (.int .i64 pl[k]) := fun o => alloc_cell hck o
          have hpk := HPT.out k hl2
          clear hck
          go_wp2_with (go_at_call 31; with_reducible refine (HexI_any pl[k] hpk.1 hpk.2 _).mono ?_; rintro e w1 ⟨⟨y, rfl, hy⟩, rfl⟩; have hys : y.size ≤ 8 := (by rw [← len_str, hy]; exact hexZ_len _); have HYY := Lib.hid hy; clear hy)
          go_round
          case rel => first
            | exact ⟨k + 1, j + 1, _, rfl, by go_num, by go_num, by omega, by omega, HKN, by simp only [app_size]; have : (⟨#[32]⟩ : ByteArray).size = 1 := rfl; have : (⟨#[195, 183]⟩ : ByteArray).size = 2 := rfl; omega, Lib.hid (text_two hx.out (m := ⟨#[195, 183]⟩) (by rw [HM.out]; rfl) hl2 HYY.out (by simp))⟩
            | exact ⟨k + 1, j, _, rfl, by go_num, by go_num, by omega, by omega, HKN, by simp only [app_size]; have : (⟨#[32]⟩ : ByteArray).size = 1 := rfl; have : (⟨#[195, 151]⟩ : ByteArray).size = 2 := rfl; omega, Lib.hid (text_two hx.out (m := ⟨#[195, 151]⟩) (by rw [HM.out]; rfl) hl2 HYY.out (by simp))⟩
          case measure => simp [intOf]; omega
        · have d2 : decide (k < pl.length) = false := decide_eq_false hl2
          go_wp2_with fail
          go_round
          case rel => first
            | exact ⟨k + 1, j + 1, _, rfl, by go_num, by go_num, by omega, by omega, HKN, by simp only [app_size]; have : (⟨#[195, 183]⟩ : ByteArray).size = 2 := rfl; omega, Lib.hid (text_one hx.out (m := ⟨#[195, 183]⟩) (by rw [HM.out]; rfl) hl2)⟩
            | exact ⟨k + 1, j, _, rfl, by go_num, by go_num, by omega, by omega, HKN, by simp only [app_size]; have : (⟨#[195, 151]⟩ : ByteArray).size = 2 := rfl; omega, Lib.hid (text_one hx.out (m := ⟨#[195, 151]⟩) (by rw [HM.out]; rfl) hl2)⟩
          case measure => simp [intOf]; omega
      · have HM : Hid (hasI br k = false) := Lib.hid (hfact.out.2 (fun h => hj2 h.1)).1
        have HKN : Hid (KAt br (k + 1) j) := Lib.hid (hfact.out.2 (fun h => hj2 h.1)).2
        have d3 : decide (j < br.length) = false := decide_eq_false hj2
        by_cases hl2 : k < pl.length
        · have d2 : decide (k < pl.length) = true := decide_eq_true hl2
          obtain ⟨ad, rfl, hck⟩ := HP.out k hl2
          have n2 : ∀ o, (w.alloc o).cell? (ad.add k) = some (.int .i64 pl[k]) := fun o => alloc_cell hck o
          have hpk := HPT.out k hl2
          clear hck
          go_wp2_with (go_at_call 31; with_reducible refine (HexI_any pl[k] hpk.1 hpk.2 _).mono ?_; rintro e w1 ⟨⟨y, rfl, hy⟩, rfl⟩; have hys : y.size ≤ 8 := (by rw [← len_str, hy]; exact hexZ_len _); have HYY := Lib.hid hy; clear hy)
          go_round
          case rel => first
            | exact ⟨k + 1, j + 1, _, rfl, by go_num, by go_num, by omega, by omega, HKN, by simp only [app_size]; have : (⟨#[32]⟩ : ByteArray).size = 1 := rfl; have : (⟨#[195, 183]⟩ : ByteArray).size = 2 := rfl; omega, Lib.hid (text_two hx.out (m := ⟨#[195, 183]⟩) (by rw [HM.out]; rfl) hl2 HYY.out (by simp))⟩
            | exact ⟨k + 1, j, _, rfl, by go_num, by go_num, by omega, by omega, HKN, by simp only [app_size]; have : (⟨#[32]⟩ : ByteArray).size = 1 := rfl; have : (⟨#[195, 151]⟩ : ByteArray).size = 2 := rfl; omega, Lib.hid (text_two hx.out (m := ⟨#[195, 151]⟩) (by rw [HM.out]; rfl) hl2 HYY.out (by simp))⟩
          case measure => simp [intOf]; omega
        · have d2 : decide (k < pl.length) = false := decide_eq_false hl2
          go_wp2_with fail
          go_round
          case rel => first
            | exact ⟨k + 1, j + 1, _, rfl, by go_num, by go_num, by omega, by omega, HKN, by simp only [app_size]; have : (⟨#[195, 183]⟩ : ByteArray).size = 2 := rfl; omega, Lib.hid (text_one hx.out (m := ⟨#[195, 183]⟩) (by rw [HM.out]; rfl) hl2)⟩
            | exact ⟨k + 1, j, _, rfl, by go_num, by go_num, by omega, by omega, HKN, by simp only [app_size]; have : (⟨#[195, 151]⟩ : ByteArray).size = 2 := rfl; omega, Lib.hid (text_one hx.out (m := ⟨#[195, 151]⟩) (by rw [HM.out]; rfl) hl2)⟩
          case measure => simp [intOf]; omega
    · have d1 : decide (k ≤ pl.length) = false := decide_eq_false hlt
      go_wp2_with fail
      go_ret
      exact ⟨⟨x, rfl, by rw [hx.out, show k = pl.length + 1 from by omega]; rfl⟩, (Below.refl _ w).alloc (Nat.le_refl _) _⟩
end Go.Proofs.YtpgaimpppehpcabDoor
