/- testfile.point: the walk. -/
import Derived.Test.YtliimcemjjhmaacGreatDoorTpMk
import Derived.Test.YtliimcemjjhmaacGreatDoorTpTrim
namespace Go.Proofs.YtliimcemjjhmaacGreatDoor
open Go.RowKit Go.Proofs.YtliimcemjjhmaacGreatDoorW.PrintWords Go.Proofs.YtliimcemjjhmaacGreatDoor.PTestShort

def hexDigits : List UInt8 := [48, 49, 50, 51, 52, 53, 54, 55, 56, 57, 97, 98, 99, 100, 101, 102, 65, 66, 67, 68, 69, 70]
theorem hex_fin : ∀ n : Fin 256, Lib.indexByte hexDigits (UInt8.ofNat n.val) < 0 ↔ hexI (UInt8.ofNat n.val) < 0 := by decide +kernel
theorem hex_ix (c : UInt8) : Lib.indexByte hexDigits c < 0 ↔ hexI c < 0 := by
  have := hex_fin ⟨c.toNat, c.toNat_lt⟩
  simpa using this
theorem ixb (c : UInt8) (w : World) : Calls Tryz.prog 51 #[.string ⟨#[48, 49, 50, 51, 52, 53, 54, 55, 56, 57, 97, 98, 99, 100, 101, 102, 65, 66, 67, 68, 69, 70]⟩, .int .u8 (c.toNat : Int)] w fun e w' => (∃ v : Int, e = .returned (.int .i64 v) ∧ (v < 0 ↔ hexI c < 0)) ∧ w' = w :=
  (Tryz.strings_IndexByte _ _ _).mono fun e w' ⟨h1, h2⟩ => ⟨⟨_, h1, by
    have e : ((c.toNat : Int)).toNat.toUInt8 = c := by simp
    rw [e]
    exact hex_ix c⟩, h2⟩
theorem scalar_eq (n : Int) : testfile_scalar.f n = some (scalarB n) := by
  unfold testfile_scalar.f scalarB
  by_cases h1 : n ≥ 0
  · rw [if_pos h1]
    by_cases h2 : n ≤ 1114111
    · rw [if_pos h2]
      by_cases h3 : n < 55296
      · rw [if_pos h3, decide_eq_true (p := 0 ≤ n ∧ _) ⟨h1, h2, .inl h3⟩]
      · rw [if_neg h3]
        congr 1
        exact decide_eq_decide.2 ⟨fun h => ⟨h1, h2, .inr h⟩, fun h => h.2.2.resolve_left h3⟩
    · rw [if_neg h2, decide_eq_false (fun h => h2 h.2.1)]
  · rw [if_neg h1, decide_eq_false (fun h => h1 h.1)]

set_option maxHeartbeats 8000000 in
set_option maxRecDepth 100000 in
theorem point_end {w X : World} {g h : Nat} {all : List ByteArray} {v1 v2 : Value} {p b : List Int} {wr : Bool} (H : LnSt w X g h all all.length v1 v2 p b wr) :
    Calls Tryz.prog 39 #[.pointer (some ⟨g, 0, none⟩)] X fun e Y => e = .returned (.tuple #[.nilFunc, .nilIface]) ∧ LnSt w Y g h all all.length v1 v2 p b wr := by
  have HN := Lib.hid (next_none H)
  go_enter Tryz.func39, Tryz.ntmps39
  go_wp2_with (go_at_call 38; refine HN.out.mono ?_; rintro e Y ⟨rfl, HL⟩; have HL1 := Lib.hid HL; clear HL)
  go_ret2
  exact ⟨rfl, HL1.out⟩
set_option maxHeartbeats 8000000 in
set_option maxRecDepth 100000 in
theorem point_bad (a : Nat → Addr) {w X : World} {g h : Nat} {all : List ByteArray} {i : Nat} {v1 v2 : Value} {p b : List Int} {wr : Bool} (H : LnSt w X g h all i v1 v2 p b wr) (hi : i < all.length) (hl : all.length ≤ 1048577) (hsz : all[i].size ≤ 1048576) (hn : pointOf (toB all[i]) = none) (hs : Sent a w) :
    Calls Tryz.prog 39 #[.pointer (some ⟨g, 0, none⟩)] X fun e Y => e = .returned (.tuple #[.nilFunc, errF a 2]) ∧ Below w.heap.size w Y := by
  have HN := Lib.hid (next_some H hi hl)
  have HS := Lib.hid hs
  generalize all[i] = s at HN hsz hn
  go_enter Tryz.func39, Tryz.ntmps39
  go_wp2_with (go_at_call 38; refine HN.out.mono ?_; rintro e Y ⟨rfl, HL⟩; have HB := Lib.hid HL.below; clear HL; have c2 : Y.cell? ⟨3, 0, none⟩ = some (.iface 130 (.pointer (some (a 2)))) := (HS.out.below HB.out).cell 2 (by decide))
  go_loopw [18] (fun v wr => ∃ k : Nat, v = .int .i64 k ∧ k ≤ s.size ∧ Hid (∀ c ∈ (toB s).take k, 0 ≤ hexI c) ∧ wr.cell? ⟨3, 0, none⟩ = some (.iface 130 (.pointer (some (a 2)))) ∧ Hid (Below w.heap.size w wr)) (fun v _ => s.size - (intOf v).toNat)
  case atStart => exact ⟨0, rfl, Nat.zero_le _, Lib.hid (by simp), c2, HB⟩
  case round =>
    clear c2 HB
    obtain ⟨k, rfl, hk, hall, c2, HB⟩ := hrel
    by_cases hlt : k < s.size
    · have d1 : decide (k < s.size) = true := decide_eq_true hlt
      by_cases hx : 0 ≤ hexI s[k]
      · have hall2 : Hid (∀ c ∈ (toB s).take (k + 1), 0 ≤ hexI c) := Lib.hid (by
          rw [show (toB s).take (k + 1) = (toB s).take k ++ [s[k]] from take_at s k hlt]
          intro c hc
          rcases List.mem_append.1 hc with hc | hc
          · exact hall.out c hc
          · simp at hc; subst hc; exact hx)
        go_wp2_with (go_at_call 51; refine (ixb s[k] _).mono ?_; rintro e w' ⟨⟨v, rfl, hv⟩, rfl⟩; have hv0 : 0 ≤ v := (by omega); clear hv)
        go_roundw
        case rel => exact ⟨k + 1, by go_num, by omega, hall2, c2, HB⟩
        case measure => simp [intOf]; omega
      · go_wp2_with (go_at_call 51; refine (ixb s[k] _).mono ?_; rintro e w' ⟨⟨v, rfl, hv⟩, rfl⟩; have hv0 : v < 0 := (by omega); clear hv)
        go_region_held3 (fun w' => w'.cell? ⟨3, 0, none⟩ = some (.iface 130 (.pointer (some (a 2))))) (first | exact c2 | (go_keep; done)) (fail)
        go_wp2_with fail
        go_ret2
        exact ⟨rfl, below_drewN HB.out 1⟩
    · have d1 : decide (k < s.size) = false := decide_eq_false hlt
      have h46 : s.size < 4 ∨ 6 < s.size := by
        by_cases h4 : s.size < 4
        · exact .inl h4
        · by_cases h6 : 6 < s.size
          · exact .inr h6
          · exfalso
            obtain rfl : k = s.size := by omega
            have e : (toB s).take s.size = toB s := by rw [show s.size = (toB s).length from (len_str s).symm]; exact List.take_length
            rw [e] at hall
            unfold pointOf at hn
            rw [if_pos ⟨by rw [len_str]; omega, by rw [len_str]; omega, List.all_eq_true.2 (fun c hc => decide_eq_true (hall.out c hc))⟩] at hn
            cases hn
      clear hn
      by_cases h4 : s.size < 4
      · go_wp2_with fail
        go_region_held3 (fun w' => w'.cell? ⟨3, 0, none⟩ = some (.iface 130 (.pointer (some (a 2))))) (first | exact c2 | (go_keep; done)) (fail)
        go_wp2_with fail
        go_ret2
        exact ⟨rfl, below_drewN HB.out 1⟩
      · have h6 : 6 < s.size := by omega
        go_wp2_with fail
        go_region_held3 (fun w' => w'.cell? ⟨3, 0, none⟩ = some (.iface 130 (.pointer (some (a 2))))) (first | exact c2 | (go_keep; done)) (fail)
        go_wp2_with fail
        go_ret2
        exact ⟨rfl, below_drewN HB.out 1⟩
set_option maxHeartbeats 16000000 in
set_option maxRecDepth 100000 in
theorem point_ok {w X : World} {g h : Nat} {all : List ByteArray} {i : Nat} {v1 v2 : Value} {p b : List Int} {wz : Bool} {n : Int} (H : LnSt w X g h all i v1 v2 p b wz) (hi : i < all.length) (hl : all.length ≤ 1048577) (hp : p.length ≤ 1048577) (hn : pointOf (toB all[i]) = some n) :
    Calls Tryz.prog 39 #[.pointer (some ⟨g, 0, none⟩)] X fun e Y => e = .returned (.tuple #[.func (.func 22) #[] #[], .nilIface]) ∧ ∃ v1', LnSt w Y g h all (i + 1) v1' v2 (p ++ [n]) b (wz || !scalarB n) := by
  have HN := Lib.hid (next_some H hi hl)
  obtain ⟨A1, c1, rfl⟩ := Kd.R_slice H.r1
  obtain ⟨A2, c2, rfl⟩ := Kd.R_slice H.r2
  clear H
  generalize all[i] = s at HN hn
  obtain ⟨h4, h6, hall0, rfl⟩ : 4 ≤ s.size ∧ s.size ≤ 6 ∧ (∀ c ∈ toB s, 0 ≤ hexI c) ∧ n = valH (toB s) := by
    unfold pointOf at hn
    split at hn
    · rename_i hc
      rw [len_str] at hc
      exact ⟨hc.1, hc.2.1, fun c hcm => of_decide_eq_true (List.all_eq_true.1 hc.2.2 c hcm), (Option.some.inj hn).symm⟩
    · cases hn
  clear hn
  obtain ⟨hv0, hv1⟩ := valH_small (toB s) hall0 (by rw [len_str]; exact h6)
  have HALL := Lib.hid hall0
  have HI := fun W => int_hex s (by omega) h6 hall0 W
  obtain ⟨n, hnv⟩ : ∃ n, n = valH (toB s) := ⟨_, rfl⟩
  rw [← hnv] at hv0 hv1 HI ⊢
  have HII := Lib.hid HI
  clear hall0 hnv HI
  go_enter Tryz.func39, Tryz.ntmps39
  go_wp2_with (go_at_call 38; refine HN.out.mono ?_; rintro e Y ⟨rfl, HL⟩; have HL1 := Lib.hid HL; clear HL)
  go_loopw [18] (fun v W => ∃ k : Nat, v = .int .i64 k ∧ k ≤ s.size ∧ Hid (LnSt w W g h all (i + 1) (.slice A1 p.length c1) (.slice A2 b.length c2) p b wz)) (fun v _ => s.size - (intOf v).toNat)
  case atStart => exact ⟨0, rfl, Nat.zero_le _, HL1⟩
  case round =>
    clear HL1
    obtain ⟨k, rfl, hk, HL1⟩ := hrel
    by_cases hlt : k < s.size
    · have d1 : decide (k < s.size) = true := decide_eq_true hlt
      have hx : 0 ≤ hexI s[k] := HALL.out _ (List.mem_of_getElem? (dl_get s k hlt))
      go_wp2_with (go_at_call 51; refine (ixb s[k] _).mono ?_; rintro e w' ⟨⟨v, rfl, hv⟩, rfl⟩; have hv0 : 0 ≤ v := (by omega); clear hv)
      go_roundw
      case rel => exact ⟨k + 1, by go_num, by omega, HL1⟩
      case measure => simp [intOf]; omega
    · have d1 : decide (k < s.size) = false := decide_eq_false hlt
      have d4 : ¬ s.size < 4 := by omega
      have d6 : ¬ 6 < s.size := by omega
      go_upto_region 13 with (go_at_call 52; refine (HII.out _).mono ?_; rintro e w1 ⟨rfl, hb⟩; have HL2 := Lib.hid (HL1.out.step hb); clear hb)
      obtain ⟨z0, z1, z2, z3, f0, f1, f2, f3⟩ := HL2.out.cells
      have HSC : ∀ W, Calls Tryz.prog 30 #[.int .i64 n] W fun e w' => e = .returned (.bool (scalarB n)) ∧ Drawn0 W w' := fun W => testfile_scalar.calls n (scalarB n) W (scalar_eq n)
      have HSCC := Lib.hid HSC
      clear HSC
      cases wz with
      | true =>
        go_upto_region 14 with fail
        have HL4 := Lib.hid (HL2.out.set 3 (.bool true) (i' := i + 1) (wr' := true || !scalarB n) (by simp))
        clear z0 z1 z2 z3 f0 f1 f2 f3
        obtain ⟨X4, hX4⟩ : ∃ X4, X4 = w1.setCell ⟨g, 3, none⟩ (.bool true) := ⟨_, rfl⟩
        rw [← hX4] at HL4 ⊢
        clear hX4
        obtain ⟨y0, y1, y2, y3, g0, g1, g2, g3⟩ := HL4.out.cells
        go_wp2_with (at_builtin; refine Kd.R_append iK (w0 := w) w.heap.size rfl (.tmp 63) (.tmp 65) 32 3 (.int .i64 0) 8 rfl Tryz.underlying32 intInfo rfl (by decide) (by decide) (.slice A1 p.length c1) p n [.int .i64 n] (fun k => w.heap.size ≤ k ∧ some k ≠ (Value.slice A2 b.length c2).ownBlock) (fun _ => False) rfl rfl rfl (fun _ h => h.elim) ?hf HL4.out.r1 HL4.out.below HL4.out.below.size (by omega) ?_; (case hf => exact fun k hk => ⟨Nat.le_trans HL4.out.below.size hk, fun e => by have := Kd.R_lt HL4.out.r2 k e.symm; omega⟩); intro v' w8 ho hb' hg' hat; obtain ⟨Ao, co, rfl⟩ := Kd.R_slice ho; have hbk := HL4.out.kept1 hg'; have k1 := (blk_cell hbk 1).trans rfl; have kf := blk_frozen hbk 1; have HZ := Lib.hid (HL4.out.app1 ho hg' hat hb'); simp only [List.length_append, List.length_singleton] at HZ; clear ho hb' hg' hat hbk)
        go_ret2
        exact ⟨rfl, _, HZ.out⟩
      | false =>
        go_upto_region 14 with (go_at_call 30; refine (HSCC.out _).mono ?_; rintro e w2 ⟨rfl, hd⟩; have HL3 := Lib.hid (HL2.out.step hd.below); clear hd; obtain ⟨u0, u1, u2_, u3_, h0, h1, h2, h3⟩ := HL3.out.cells)
        have HL4 := Lib.hid (HL3.out.set 3 (.bool (!scalarB n)) (i' := i + 1) (wr' := false || !scalarB n) (by simp))
        clear z0 z1 z2 z3 f0 f1 f2 f3 u0 u1 u2_ u3_ h0 h1 h2 h3
        obtain ⟨X4, hX4⟩ : ∃ X4, X4 = w2.setCell ⟨g, 3, none⟩ (.bool (!scalarB n)) := ⟨_, rfl⟩
        rw [← hX4] at HL4 ⊢
        clear hX4
        obtain ⟨y0, y1, y2, y3, g0, g1, g2, g3⟩ := HL4.out.cells
        go_wp2_with (at_builtin; refine Kd.R_append iK (w0 := w) w.heap.size rfl (.tmp 63) (.tmp 65) 32 3 (.int .i64 0) 8 rfl Tryz.underlying32 intInfo rfl (by decide) (by decide) (.slice A1 p.length c1) p n [.int .i64 n] (fun k => w.heap.size ≤ k ∧ some k ≠ (Value.slice A2 b.length c2).ownBlock) (fun _ => False) rfl rfl rfl (fun _ h => h.elim) ?hf HL4.out.r1 HL4.out.below HL4.out.below.size (by omega) ?_; (case hf => exact fun k hk => ⟨Nat.le_trans HL4.out.below.size hk, fun e => by have := Kd.R_lt HL4.out.r2 k e.symm; omega⟩); intro v' w8 ho hb' hg' hat; obtain ⟨Ao, co, rfl⟩ := Kd.R_slice ho; have hbk := HL4.out.kept1 hg'; have k1 := (blk_cell hbk 1).trans rfl; have kf := blk_frozen hbk 1; have HZ := Lib.hid (HL4.out.app1 ho hg' hat hb'); simp only [List.length_append, List.length_singleton] at HZ; clear ho hb' hg' hat hbk)
        go_ret2
        exact ⟨rfl, _, HZ.out⟩
end Go.Proofs.YtliimcemjjhmaacGreatDoor
