/- strconv.ParseInt at base 16, of 1 to 6 hexadecimal digits: the walks (after the shelf's walk at base 10). strconv.ParseInt at base 16, of 1 to 6 hexadecimal digits: the two outer functions. -/
import Derived.Test.YtliimcemjjhmaacGreatDoorTpSpec2
import Derived.Test.YtliimcemjjhmaacGreatDoorShelf
import Derived.Lib.ConvBytes
import Derived.WalkKit
import Derived.Deep.DeepCutAuto
namespace Go.Proofs.YtliimcemjjhmaacGreatDoor
section
open Go.RowKit Go.Proofs.YtliimcemjjhmaacGreatDoorW.PrintWords

theorem low_fin : ∀ n : Fin 256, (65 ≤ n.val ∧ n.val ≤ 70 → bits .or .u8 (n.val : Int) 32 = (n.val : Int) + 32) ∧ (97 ≤ n.val ∧ n.val ≤ 102 → bits .or .u8 (n.val : Int) 32 = (n.val : Int)) := by decide +kernel
theorem low_hex (c : UInt8) (h : 0 ≤ hexI c) (hd : ¬ (48 ≤ c.toNat ∧ c.toNat ≤ 57)) : bits .or .u8 (c.toNat : Int) 32 = hexI c + 87 := by
  have hf : (65 ≤ c.toNat ∧ c.toNat ≤ 70 → bits .or .u8 (c.toNat : Int) 32 = (c.toNat : Int) + 32) ∧ (97 ≤ c.toNat ∧ c.toNat ≤ 102 → bits .or .u8 (c.toNat : Int) 32 = (c.toNat : Int)) := low_fin ⟨c.toNat, c.toNat_lt⟩
  unfold hexI at h ⊢
  rw [if_neg hd] at h ⊢
  by_cases h2 : 65 ≤ c.toNat ∧ c.toNat ≤ 70
  · rw [if_pos h2, hf.1 h2]; omega
  · rw [if_neg h2] at h ⊢
    by_cases h3 : 97 ≤ c.toNat ∧ c.toNat ≤ 102
    · rw [if_pos h3, hf.2 h3]; omega
    · rw [if_neg h3] at h; omega
theorem hex_dig (c : UInt8) (hd : 48 ≤ c.toNat ∧ c.toNat ≤ 57) : hexI c = (c.toNat : Int) - 48 := by unfold hexI; rw [if_pos hd]
theorem hex_let (c : UInt8) (h : 0 ≤ hexI c) (hd : ¬ (48 ≤ c.toNat ∧ c.toNat ≤ 57)) : 10 ≤ hexI c := by
  unfold hexI at h ⊢
  rw [if_neg hd] at h ⊢
  (repeat' split) <;> (repeat' split at h) <;> omega
theorem hex_range (c : UInt8) (h : 0 ≤ hexI c) : 48 ≤ c.toNat ∧ c.toNat ≤ 102 ∧ c.toNat ≠ 95 := by
  unfold hexI at h
  (repeat' split at h) <;> omega

set_option maxHeartbeats 8000000 in
set_option maxRecDepth 100000 in
theorem uint_hex (t : ByteArray) (h1 : 0 < t.size) (h6 : t.size ≤ 6) (hall : ∀ c ∈ toB t, 0 ≤ hexI c) (w : World) :
    Calls Tryz.prog 59 #[.string t, .int .i64 16, .int .i64 64] w fun e w' => e = .returned (.tuple #[.int .u64 (valH (toB t)), .nilIface]) ∧ Below w.heap.size w w' := by
  have hemp : t.toList.isEmpty = false := str_emp h1
  have hcv := Lib.run_convert_string_bytes (P := Tryz.prog) w 9 76 5 t (u := .string) Tryz.underlying9 Tryz.underlying76 Tryz.underlying5
  have hB : ∀ j, j < t.size → (Lib.bytesWorld w 5 t).cell? ⟨w.heap.size, j, none⟩ = some (.int .u8 (t.data.toList.getD j 0).toNat) := fun j hj => Lib.bytesWorld_cell w 5 t j hj
  have HBL : Hid (Below w.heap.size w (Lib.bytesWorld w 5 t)) := Lib.hid ⟨rfl, rfl, rfl, by rw [Lib.bytesWorld_size]; omega, fun j hj => Lib.bytesWorld_at_old w 5 t j hj⟩
  obtain ⟨W1, hW1⟩ : ∃ W1, W1 = Lib.bytesWorld w 5 t := ⟨_, rfl⟩
  rw [← hW1] at hcv hB HBL
  clear hW1
  have hmv : IntKind.u64.wrap (IntKind.u64.wrap 18446744073709551616 - 1) = 18446744073709551615 := by
    rw [IntKind.wrap_u64, IntKind.wrap_u64]
    decide
  have HALL := Lib.hid hall
  clear hall
  go_enter Tryz.func59, Tryz.ntmps59
  go_wp2
  go_loop [12, 13, 101] (fun vu vn vi => ∃ (k : Nat) (a : Int), vu = .bool false ∧ vn = .int .u64 a ∧ vi = .int .i64 k ∧ k ≤ t.size ∧ 0 ≤ a ∧ Hid (a = valH ((toB t).take k)))
    (fun _ _ vi => t.size - (intOf vi).toNat)
  case atStart => exact ⟨0, 0, rfl, rfl, rfl, by omega, by omega, Lib.hid (by simp [valH])⟩
  case round =>
    obtain ⟨k, a, rfl, rfl, rfl, hk, ha0, hh⟩ := hrel
    by_cases hkn : k < t.size
    · have hc := hB k hkn
      have hx : 0 ≤ hexI t[k] := HALL.out _ (List.mem_of_getElem? (dl_get t k hkn))
      have HS : Hid (valH ((toB t).take (k + 1)) = 16 * a + hexI t[k]) := Lib.hid (by rw [show (toB t).take (k + 1) = (toB t).take k ++ [t[k]] from take_at t k hkn, valH_snoc, hh.out])
      have hab : a < 1048576 := by
        have := (valH_bound ((toB t).take k) (fun c hc => HALL.out c (List.mem_of_mem_take hc))).2
        rw [← hh.out, List.length_take, len_str, show min k t.size = k by omega] at this
        have hp : (16 : Int) ^ k ≤ 16 ^ 5 := by
          have : k ≤ 5 := by omega
          match k, this with
          | 0, _ | 1, _ | 2, _ | 3, _ | 4, _ | 5, _ => decide
        have hp6 : (16 : Int) ^ 5 = 1048576 := by decide
        omega
      have hget : t.data.toList.getD k 0 = t[k] := by rw [List.getD_eq_getElem?_getD, dl_get t k hkn]; rfl
      rw [hget] at hc
      clear hget hB
      generalize t[k] = c at hc hx HS
      have hr := hex_range c hx
      have hdx := hexI_lt c
      by_cases hdig : 48 ≤ c.toNat ∧ c.toNat ≤ 57
      · have hval := hex_dig c hdig
        rw [hval] at HS
        obtain ⟨hd0, hd1⟩ := hdig
        obtain ⟨hr0, hr1, hr2⟩ := hr
        clear hx hdx hval
        go_wp2
        refine ⟨⟨k + 1, _, rfl, rfl, by go_num, by omega, by omega, Lib.hid (by rw [HS.out]; omega)⟩, by simp [intOf]; omega⟩
      · have hlow := low_hex c hx hdig
        have h10 := hex_let c hx hdig
        obtain ⟨hr0, hr1, hr2⟩ := hr
        have hn57 : 57 < c.toNat := by omega
        generalize hexI c = d at hx HS hdx hlow h10
        clear hdig
        have HLOW := Lib.hid hlow
        clear hlow
        go_wp2_with (go_at_call 64; refine (Tryz.internal_strconv_lower _ _).mono ?_; rw [HLOW.out]; rintro e w' ⟨rfl, rfl⟩)
        refine ⟨⟨k + 1, _, rfl, rfl, by go_num, by omega, by omega, Lib.hid (by rw [HS.out]; omega)⟩, by simp [intOf]; omega⟩
    · obtain rfl : k = t.size := by omega
      have hfin : a = valH (toB t) := by rw [hh.out, show t.size = (toB t).length from (len_str t).symm, List.take_length]
      clear hB
      subst hfin
      go_wp2
      go_ret2
      exact ⟨rfl, HBL.out⟩
end

section
open Go.RowKit Go.Proofs.YtliimcemjjhmaacGreatDoorW.PrintWords

theorem valH_small (l : Bs) (h : ∀ c ∈ l, 0 ≤ hexI c) (h6 : l.length ≤ 6) : 0 ≤ valH l ∧ valH l < 16777216 := by
  obtain ⟨h1, h2⟩ := valH_bound l h
  refine ⟨h1, Int.lt_of_lt_of_le h2 ?_⟩
  generalize l.length = k at h6
  match k, h6 with
  | 0, _ | 1, _ | 2, _ | 3, _ | 4, _ | 5, _ | 6, _ => decide

set_option maxHeartbeats 8000000 in
set_option maxRecDepth 100000 in
theorem int_hex_in (t : ByteArray) (h1 : 0 < t.size) (h6 : t.size ≤ 6) (hall : ∀ c ∈ toB t, 0 ≤ hexI c) (w : World) :
    Calls Tryz.prog 57 #[.string t, .int .i64 16, .int .i64 64] w fun e w' => e = .returned (.tuple #[.int .i64 (valH (toB t)), .nilIface]) ∧ Below w.heap.size w w' := by
  have hemp : t.toList.isEmpty = false := str_emp h1
  obtain ⟨hv0, hv1⟩ := valH_small (toB t) hall (by rw [len_str]; exact h6)
  obtain ⟨hr0, hr1, hr2⟩ := hex_range t[0] (hall _ (List.mem_of_getElem? (dl_get t 0 h1)))
  have HU := Lib.hid (uint_hex t h1 h6 hall w)
  generalize valH (toB t) = v at *
  clear hall
  go_enter Tryz.func57, Tryz.ntmps57
  go_wp2_with (go_at_call 59; refine HU.out.mono ?_; rintro e w1 ⟨rfl, hb⟩; have HB1 := Lib.hid hb; clear hb)
  go_ret2
  exact ⟨rfl, HB1.out⟩
set_option maxHeartbeats 8000000 in
theorem int_hex (t : ByteArray) (h1 : 0 < t.size) (h6 : t.size ≤ 6) (hall : ∀ c ∈ toB t, 0 ≤ hexI c) (w : World) :
    Calls Tryz.prog 52 #[.string t, .int .i64 16, .int .i64 64] w fun e w' => e = .returned (.tuple #[.int .i64 (valH (toB t)), .nilIface]) ∧ Below w.heap.size w w' := by
  have HU := Lib.hid (int_hex_in t h1 h6 hall w)
  go_enter Tryz.func52, Tryz.ntmps52
  go_wp2_with (go_at_call 57; refine HU.out.mono ?_; rintro e w1 ⟨rfl, hb⟩; have HB1 := Lib.hid hb; clear hb)
  go_ret2
  exact ⟨rfl, HB1.out⟩
end
end Go.Proofs.YtliimcemjjhmaacGreatDoor
