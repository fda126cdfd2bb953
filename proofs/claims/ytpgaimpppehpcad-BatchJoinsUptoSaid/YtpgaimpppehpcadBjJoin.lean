/- batch.Join: the walk. -/
import Derived.Test.YtpgaimpppehpcadBjLen
import Derived.Deep.RegionHeld3
import Derived.Handy
namespace Go.Proofs.Ytpgaimpppehpcad
open Go.RowKit Go.Maps Go.Proofs.YtpgaimpppehpcadW.PrintWords Go.Proofs.Ytpgaimpppehpcad.PBatchJoins

abbrev LensAt (w : World) (A : Option Addr) (l : List S32) : Prop := k32.C w A l.length l
theorem len_at {w : World} {A : Option Addr} {l : List S32} (h : LensAt w A l) (j : Nat) (hj : j < l.length) : ∃ ad, A = some ad ∧ w.cell? (ad.add (j * 2)) = some (.int .i64 l[j].f0) ∧ w.cell? ⟨(ad.add (j * 2)).block, (ad.add (j * 2)).off + 1, none⟩ = some (.int .i64 l[j].f1) := by
  obtain ⟨ad, e, h0, h1⟩ := at_T32 h (j : Int) (by omega) (by omega)
  rw [rd_at hj, Int.toNat_natCast] at h0 h1
  exact ⟨ad, e, h0, h1⟩
theorem wf_in {n : Int} (h : InR n) : (Lit.int .i64 n).wf = true := by unfold InR at h; exact WalkArith.wf_i64 (by omega)

def tallyV (a0 a1 a2 a3 : Int) (s : Value) : Value := .agg #[.int .i64 a0, .int .i64 a1, .int .i64 a2, .int .i64 a3, s]
def partOf (l m : List S32) : Nat → List S32
  | 0 => []
  | 1 => l
  | _ => l ++ m
structure JSt (w wr : World) (va vb : Array Value) (n : Nat) (D : Dm) : Prop where
  ba : wr.heap[w.heap.size]? = some (.cells va 24 (0, 0))
  bb : wr.heap[w.heap.size + 1]? = some (.cells vb 24 (0, 0))
  bt : wr.heap[w.heap.size + 1 + 1]? = some (.cells #[.int .i64 0, .int .i64 0, .int .i64 0, .int .i64 0, .slice none 0 0] 24 (0, 0))
  map : OwnM wr (w.heap.size + 1 + 1 + 1) n D
  below : Below w.heap.size w wr
theorem JSt.belowStep {w wr w' : World} {va vb : Array Value} {n : Nat} {D : Dm} (h : JSt w wr va vb n D) (hb : Below wr.heap.size wr w') : JSt w w' va vb n D :=
  ⟨(hb.block _ (blk_lt h.ba)).trans h.ba, (hb.block _ (blk_lt h.bb)).trans h.bb, (hb.block _ (blk_lt h.bt)).trans h.bt, ownM_below h.map hb, below_step h.below hb⟩
theorem JSt.drew {w wr : World} {va vb : Array Value} {n : Nat} {D : Dm} (h : JSt w wr va vb n D) : JSt w wr.drew va vb n D := ⟨h.ba, h.bb, h.bt, h.map.drew, below_drewN h.below 1⟩
theorem R_set_old {w : World} {e base : Nat} {ok : Nat → Prop} {v : Value} {xs : List S32} (h : k32.R e w base ok v xs) {p : Addr} (hp : p.block < base) (u : Value) : k32.R e (w.setCell p u) base ok v xs :=
  Kd.R_mono (Kd.R_far (Kd.R_bound h) (fun k hk => by have := hk.2.1; omega) u) (fun k hk => hk.1)
theorem perm_keys {w : World} {b n : Nat} {l : List S32} (h : OwnM w b n (mapD l)) (hl : ∀ x ∈ l, InR x.f1) : ((foldG l []).map (·.f0)).Perm (intKeys (mapD l)) := by
  obtain ⟨h1, h2, _⟩ := both l hl
  refine CollectedI.perm (left := fun _ => false) ⟨?_, fun x => ?_⟩ h lawI Try.underlying3 (fun _ => rfl)
  · exact (keys_sorted h1).imp (fun h => by omega)
  · rw [← h2 x]; simp
theorem cell_far5 (X : World) {t b o : Nat} (h : t ≠ b) (u0 u1 u2 u3 u4 : Value) : (((((X.setCell ⟨t, 0, none⟩ u0).setCell ⟨t, 1, none⟩ u1).setCell ⟨t, 2, none⟩ u2).setCell ⟨t, 3, none⟩ u3).setCell ⟨t, 4, none⟩ u4).cell? ⟨b, o, none⟩ = X.cell? ⟨b, o, none⟩ := by
  rw [World.cell?_setCell_far _ _ _ _ h, World.cell?_setCell_far _ _ _ _ h, World.cell?_setCell_far _ _ _ _ h, World.cell?_setCell_far _ _ _ _ h, World.cell?_setCell_far _ _ _ _ h]
theorem w64_eq (n : Int) : IntKind.i64.wrap n = wrap64 n := by rw [IntKind.wrap_i64]; unfold wrap64; omega
theorem JSt.alloc {w wr : World} {va vb : Array Value} {n : Nat} {D : Dm} (h : JSt w wr va vb n D) (o : Obj) : JSt w (wr.alloc o) va vb n D := h.belowStep ((Below.refl _ _).alloc (Nat.le_refl _) o)
theorem JSt.upd {w wr w' : World} {va vb : Array Value} {n n' : Nat} {D D' : Dm} (h : JSt w wr va vb n D) (ho : OwnM w' (w.heap.size + 1 + 1 + 1) n' D') (hg : wr.grownBy w' (some (w.heap.size + 1 + 1 + 1))) : JSt w w' va vb n' D' :=
  ⟨blk_grown h.ba hg (by simp; omega), blk_grown h.bb hg (by simp), blk_grown h.bt hg (by simp), ho, h.below.grown hg h.below.size (fun k e => by injection e; omega)⟩

set_option maxHeartbeats 8000000 in
set_option maxRecDepth 100000 in
theorem Join_any (a0 a1 a2 a3 b0 b1 b2 b3 : Int) (A B : Option Addr) (c d : Nat) (l m : List S32) (w : World) (hl : l.length ≤ 1073741824) (hm : m.length ≤ 1073741824) (hA : LensAt w A l) (hB : LensAt w B m)
    (hin : ∀ x ∈ l ++ m, InR x.f0 ∧ InR x.f1) :
    Calls Try.prog 5 #[.agg #[.int .i64 a0, .int .i64 a1, .int .i64 a2, .int .i64 a3, .slice A l.length c], .agg #[.int .i64 b0, .int .i64 b1, .int .i64 b2, .int .i64 b3, .slice B m.length d]] w fun e w' =>
      (∃ v, e = .returned (.agg #[.int .i64 (wrap64 (a0 + b0)), .int .i64 (wrap64 (a1 + b1)), .int .i64 (wrap64 (a2 + b2)), .int .i64 (wrap64 (a3 + b3)), v]) ∧ k32.R 32 w' w.heap.size (fun _ => True) v (joinG l m)) ∧ Below w.heap.size w w' := by
  have HA := Lib.hid hA
  have HB := Lib.hid hB
  have HIN := Lib.hid hin
  clear hA hB hin
  have hmm := @run_makeMap Try.prog
  have i0 : ∀ (x y : Value) w, (Instr.index 35 (.agg #[x, y]) (.int .i64 0)).run Try.prog w = .ok x w := fun _ _ _ => by kernel_rfl
  have i1 : ∀ (x y : Value) w, (Instr.index 35 (.agg #[x, y]) (.int .i64 1)).run Try.prog w = .ok y w := fun _ _ _ => by kernel_rfl
  obtain ⟨va, hva⟩ : ∃ va : Array Value, va = #[.int .i64 a0, .int .i64 a1, .int .i64 a2, .int .i64 a3, .slice A l.length c] := ⟨_, rfl⟩
  obtain ⟨vb, hvb⟩ : ∃ vb : Array Value, vb = #[.int .i64 b0, .int .i64 b1, .int .i64 b2, .int .i64 b3, .slice B m.length d] := ⟨_, rfl⟩
  have HVA := Lib.hid hva
  have HVB := Lib.hid hvb
  clear hva hvb
  go_enter Try.func5, Try.ntmps5
  go_wp2_with fail
  have HJ0 : Hid (JSt w (((((w.alloc (.cells va 24)).alloc (.cells vb 24)).alloc (.cells #[.int .i64 0, .int .i64 0, .int .i64 0, .int .i64 0, .slice none 0 0] 24))).alloc (.map #[] 0)) va vb 0 (mapD [])) := Lib.hid (by
    have hp : ∀ (W : World) (o : Obj), (W.alloc o).heap[W.heap.size]? = some o := fun W o => by show (W.heap.push o)[W.heap.size]? = _; exact Array.getElem?_push_size
    have hk : ∀ (W : World) (o : Obj) (k : Nat), k < W.heap.size → (W.alloc o).heap[k]? = W.heap[k]? := fun W o k h => Below.heap_alloc W o k h
    refine ⟨?_, ?_, ?_, ?_, ?_⟩
    · rw [hk _ _ _ (by simp only [World.size_alloc]; omega), hk _ _ _ (by simp only [World.size_alloc]; omega), hk _ _ _ (by simp only [World.size_alloc]; omega)]; exact hp _ _
    · rw [hk _ _ _ (by simp), hk _ _ _ (by simp)]
      have := hp (w.alloc (.cells va 24)) (.cells vb 24)
      simpa using this
    · rw [hk _ _ _ (by simp)]
      have := hp ((w.alloc (.cells va 24)).alloc (.cells vb 24)) (.cells #[.int .i64 0, .int .i64 0, .int .i64 0, .int .i64 0, .slice none 0 0] 24)
      simpa using this
    · have := World.ownsMap_made (((w.alloc (.cells va 24)).alloc (.cells vb 24)).alloc (.cells #[.int .i64 0, .int .i64 0, .int .i64 0, .int .i64 0, .slice none 0 0] 24)) Try.prog 3 (plainElem (H := Unit) Try.prog 3)
      simpa [OwnM, mapD] using this
    · exact ((((Below.refl _ _).alloc (Nat.le_refl _) _).alloc (by simp) _).alloc (by simp; omega) _).alloc (by simp; omega) _)
  rw [HVA.out, HVB.out] at HJ0
  rw [← HVA.out, ← HVB.out] at HJ0
  go_loopw [16] (fun i wr => ∃ (p : Nat), i = .int .i64 p ∧ p ≤ 2 ∧ Hid (JSt w wr va vb (partOf l m p).length (mapD (partOf l m p)))) (fun i _ => 2 - (intOf i).toNat)
  case atStart => exact ⟨0, rfl, by omega, by rw [HVA.out, HVB.out] at HJ0; rw [HVA.out, HVB.out]; exact HJ0⟩
  case round =>
    clear HJ0
    obtain ⟨p, rfl, hp, hJ⟩ := hrel
    by_cases h2 : p < 2
    · rcases (show p = 0 ∨ p = 1 by omega) with rfl | rfl
      · clear hp h2
        rw [show ((0 : Nat) : Int) = 0 from rfl]
        have hX : ∀ j (h : j < l.length), InR l[j].f0 ∧ InR l[j].f1 := fun j h => HIN.out _ (by first | exact List.mem_append_left _ (List.getElem_mem h) | exact List.mem_append_right _ (List.getElem_mem h))
        have HX := Lib.hid hX
        have hpl : (partOf l m 0).length ≤ 1073741824 := by (try simp only [partOf]); (try simp only [List.length_nil]); omega
        clear hX
        go_wp2_with fail
        obtain ⟨wo, rfl⟩ : ∃ wo : World, wo = wr := ⟨_, rfl⟩
        go_loopw [21] (fun i wr => ∃ (j : Nat), i = .int .i64 j ∧ j ≤ l.length ∧ Hid (JSt w wr va vb ((partOf l m 0).length + j) (mapD ((partOf l m 0) ++ l.take j)))) (fun i _ => l.length - (intOf i).toNat)
        case atStart => exact ⟨0, rfl, Nat.zero_le _, by rw [List.take_zero, List.append_nil]; exact hJ⟩
        case round =>
          clear hJ
          obtain ⟨j, rfl, hj, hJ⟩ := hrel
          by_cases hlt : j < l.length
          · have d1 : decide (j < l.length) = true := decide_eq_true hlt
            obtain ⟨ad, rfl, hc0, hc1⟩ := len_at HA.out j hlt
            have e0 := (hJ.out.below.cell (World.block_lt_of_cell? w _ hc0)).trans hc0
            have e1 := (hJ.out.below.cell (World.block_lt_of_cell? w _ hc1)).trans hc1
            have hkey : keyOf Try.prog 3 (.int .i64 l[j].f0) = some (.int .i64 l[j].f0) := keyOf_int_mk Try.underlying3 (wf_in (HX.out j hlt).1)
            have HKEY := Lib.hid hkey
            clear hc0 hc1 hkey
            go_wp2_with (first
              | (at_lookup; refine wpList_lookup_own_int _ rfl _ _ 34 rfl 3 3 .i64 lawI Try.underlying34 Try.underlying3 (zeroI _) (w.heap.size + 1 + 1 + 1) ((partOf l m 0).length + j) (mapD ((partOf l m 0) ++ l.take j)) rfl (hJ.out.map.alloc _) _ _ rfl HKEY.out ?_; intro q hat hwc; have HAT : Hid (valD (mapD ((partOf l m 0) ++ l.take j)) l[j].f0 = q) := Lib.hid (by unfold valD; rw [hat]); clear hat hwc)
              | (at_mapUpdate; refine wpList_mapUpdate_own _ rfl _ _ _ 34 rfl 3 3 lawI Try.underlying34 _ (w.heap.size + 1 + 1 + 1) ((partOf l m 0).length + j) (mapD ((partOf l m 0) ++ l.take j)) rfl (hJ.out.map.alloc _) (by unfold maxLen; omega) _ _ _ rfl rfl HKEY.out _ [] (plainElem_int Try.underlying3 (wrap64_wf _)) ?_; intro w1 hown1 hgrow1; have HJ1 := Lib.hid ((hJ.out.alloc _).upd hown1 hgrow1); clear hown1 hgrow1))
            go_roundw
            case rel => exact ⟨j + 1, by go_num, hlt, Lib.hid (by rw [List.take_succ_eq_append_getElem hlt, ← List.append_assoc, mapD_snoc]; have := HJ1.out; unfold stepD; rw [HAT.out]; exact this)⟩
            case measure => simp [intOf]; omega
          · have d1 : decide (j < l.length) = false := decide_eq_false hlt
            go_wp2_with fail
            go_roundw
            case rel => exact ⟨1, by go_num, by omega, Lib.hid (by have := hJ.out; rw [List.take_of_length_le (by omega)] at this; simpa [partOf, show j = l.length from by omega] using this)⟩
            case measure => simp [intOf]
      · clear hp h2
        rw [show ((1 : Nat) : Int) = 1 from rfl]
        have hX : ∀ j (h : j < m.length), InR m[j].f0 ∧ InR m[j].f1 := fun j h => HIN.out _ (by first | exact List.mem_append_left _ (List.getElem_mem h) | exact List.mem_append_right _ (List.getElem_mem h))
        have HX := Lib.hid hX
        have hpl : (partOf l m 1).length ≤ 1073741824 := by (try simp only [partOf]); (try simp only [List.length_nil]); omega
        clear hX
        go_wp2_with fail
        obtain ⟨wo, rfl⟩ : ∃ wo : World, wo = wr := ⟨_, rfl⟩
        go_loopw [21] (fun i wr => ∃ (j : Nat), i = .int .i64 j ∧ j ≤ m.length ∧ Hid (JSt w wr va vb ((partOf l m 1).length + j) (mapD ((partOf l m 1) ++ m.take j)))) (fun i _ => m.length - (intOf i).toNat)
        case atStart => exact ⟨0, rfl, Nat.zero_le _, by rw [List.take_zero, List.append_nil]; exact hJ⟩
        case round =>
          clear hJ
          obtain ⟨j, rfl, hj, hJ⟩ := hrel
          by_cases hlt : j < m.length
          · have d1 : decide (j < m.length) = true := decide_eq_true hlt
            obtain ⟨ad, rfl, hc0, hc1⟩ := len_at HB.out j hlt
            have e0 := (hJ.out.below.cell (World.block_lt_of_cell? w _ hc0)).trans hc0
            have e1 := (hJ.out.below.cell (World.block_lt_of_cell? w _ hc1)).trans hc1
            have hkey : keyOf Try.prog 3 (.int .i64 m[j].f0) = some (.int .i64 m[j].f0) := keyOf_int_mk Try.underlying3 (wf_in (HX.out j hlt).1)
            have HKEY := Lib.hid hkey
            clear hc0 hc1 hkey
            go_wp2_with (first
              | (at_lookup; refine wpList_lookup_own_int _ rfl _ _ 34 rfl 3 3 .i64 lawI Try.underlying34 Try.underlying3 (zeroI _) (w.heap.size + 1 + 1 + 1) ((partOf l m 1).length + j) (mapD ((partOf l m 1) ++ m.take j)) rfl (hJ.out.map.alloc _) _ _ rfl HKEY.out ?_; intro q hat hwc; have HAT : Hid (valD (mapD ((partOf l m 1) ++ m.take j)) m[j].f0 = q) := Lib.hid (by unfold valD; rw [hat]); clear hat hwc)
              | (at_mapUpdate; refine wpList_mapUpdate_own _ rfl _ _ _ 34 rfl 3 3 lawI Try.underlying34 _ (w.heap.size + 1 + 1 + 1) ((partOf l m 1).length + j) (mapD ((partOf l m 1) ++ m.take j)) rfl (hJ.out.map.alloc _) (by unfold maxLen; omega) _ _ _ rfl rfl HKEY.out _ [] (plainElem_int Try.underlying3 (wrap64_wf _)) ?_; intro w1 hown1 hgrow1; have HJ1 := Lib.hid ((hJ.out.alloc _).upd hown1 hgrow1); clear hown1 hgrow1))
            go_roundw
            case rel => exact ⟨j + 1, by go_num, hlt, Lib.hid (by rw [List.take_succ_eq_append_getElem hlt, ← List.append_assoc, mapD_snoc]; have := HJ1.out; unfold stepD; rw [HAT.out]; exact this)⟩
            case measure => simp [intOf]; omega
          · have d1 : decide (j < m.length) = false := decide_eq_false hlt
            go_wp2_with fail
            go_roundw
            case rel => exact ⟨2, by go_num, by omega, Lib.hid (by have := hJ.out; rw [List.take_of_length_le (by omega)] at this; simpa [partOf, show j = m.length from by omega] using this)⟩
            case measure => simp [intOf]
    · obtain rfl : p = 2 := by omega
      have hpl : (partOf l m 2).length ≤ 2147483648 := by simp only [partOf, List.length_append]; omega
      have HSZ : Hid (Maps.size (mapD (l ++ m)) ≤ 1099511627776) := Lib.hid (Nat.le_trans hJ.out.map.size_le (by omega))
      have CA : Hid (∀ X, JSt w X va vb (partOf l m 2).length (mapD (l ++ m)) → (X.cell? ⟨w.heap.size, 0, none⟩ = some (.int .i64 a0) ∧ X.cell? ⟨w.heap.size, 1, none⟩ = some (.int .i64 a1) ∧ X.cell? ⟨w.heap.size, 2, none⟩ = some (.int .i64 a2) ∧ X.cell? ⟨w.heap.size, 3, none⟩ = some (.int .i64 a3)) ∧
          (X.cell? ⟨w.heap.size + 1, 0, none⟩ = some (.int .i64 b0) ∧ X.cell? ⟨w.heap.size + 1, 1, none⟩ = some (.int .i64 b1) ∧ X.cell? ⟨w.heap.size + 1, 2, none⟩ = some (.int .i64 b2) ∧ X.cell? ⟨w.heap.size + 1, 3, none⟩ = some (.int .i64 b3))) := Lib.hid (fun X h => by
        have ha := h.ba
        have hb := h.bb
        rw [HVA.out] at ha
        rw [HVB.out] at hb
        exact ⟨⟨(blk_cell ha 0).trans rfl, (blk_cell ha 1).trans rfl, (blk_cell ha 2).trans rfl, (blk_cell ha 3).trans rfl⟩, ⟨(blk_cell hb 0).trans rfl, (blk_cell hb 1).trans rfl, (blk_cell hb 2).trans rfl, (blk_cell hb 3).trans rfl⟩⟩)
      have CB : Hid (∀ X, JSt w X va vb (partOf l m 2).length (mapD (l ++ m)) → ∀ u0 u1 u2 u3 u4, ((((((X.setCell ⟨w.heap.size + 1 + 1, 0, none⟩ u0).setCell ⟨w.heap.size + 1 + 1, 1, none⟩ u1).setCell ⟨w.heap.size + 1 + 1, 2, none⟩ u2).setCell ⟨w.heap.size + 1 + 1, 3, none⟩ u3).setCell ⟨w.heap.size + 1 + 1, 4, none⟩ u4).cell? ⟨w.heap.size, 0, none⟩ = some (.int .i64 a0) ∧ (((((X.setCell ⟨w.heap.size + 1 + 1, 0, none⟩ u0).setCell ⟨w.heap.size + 1 + 1, 1, none⟩ u1).setCell ⟨w.heap.size + 1 + 1, 2, none⟩ u2).setCell ⟨w.heap.size + 1 + 1, 3, none⟩ u3).setCell ⟨w.heap.size + 1 + 1, 4, none⟩ u4).cell? ⟨w.heap.size, 1, none⟩ = some (.int .i64 a1) ∧ (((((X.setCell ⟨w.heap.size + 1 + 1, 0, none⟩ u0).setCell ⟨w.heap.size + 1 + 1, 1, none⟩ u1).setCell ⟨w.heap.size + 1 + 1, 2, none⟩ u2).setCell ⟨w.heap.size + 1 + 1, 3, none⟩ u3).setCell ⟨w.heap.size + 1 + 1, 4, none⟩ u4).cell? ⟨w.heap.size, 2, none⟩ = some (.int .i64 a2) ∧ (((((X.setCell ⟨w.heap.size + 1 + 1, 0, none⟩ u0).setCell ⟨w.heap.size + 1 + 1, 1, none⟩ u1).setCell ⟨w.heap.size + 1 + 1, 2, none⟩ u2).setCell ⟨w.heap.size + 1 + 1, 3, none⟩ u3).setCell ⟨w.heap.size + 1 + 1, 4, none⟩ u4).cell? ⟨w.heap.size, 3, none⟩ = some (.int .i64 a3)) ∧
          ((((((X.setCell ⟨w.heap.size + 1 + 1, 0, none⟩ u0).setCell ⟨w.heap.size + 1 + 1, 1, none⟩ u1).setCell ⟨w.heap.size + 1 + 1, 2, none⟩ u2).setCell ⟨w.heap.size + 1 + 1, 3, none⟩ u3).setCell ⟨w.heap.size + 1 + 1, 4, none⟩ u4).cell? ⟨w.heap.size + 1, 0, none⟩ = some (.int .i64 b0) ∧ (((((X.setCell ⟨w.heap.size + 1 + 1, 0, none⟩ u0).setCell ⟨w.heap.size + 1 + 1, 1, none⟩ u1).setCell ⟨w.heap.size + 1 + 1, 2, none⟩ u2).setCell ⟨w.heap.size + 1 + 1, 3, none⟩ u3).setCell ⟨w.heap.size + 1 + 1, 4, none⟩ u4).cell? ⟨w.heap.size + 1, 1, none⟩ = some (.int .i64 b1) ∧ (((((X.setCell ⟨w.heap.size + 1 + 1, 0, none⟩ u0).setCell ⟨w.heap.size + 1 + 1, 1, none⟩ u1).setCell ⟨w.heap.size + 1 + 1, 2, none⟩ u2).setCell ⟨w.heap.size + 1 + 1, 3, none⟩ u3).setCell ⟨w.heap.size + 1 + 1, 4, none⟩ u4).cell? ⟨w.heap.size + 1, 2, none⟩ = some (.int .i64 b2) ∧ (((((X.setCell ⟨w.heap.size + 1 + 1, 0, none⟩ u0).setCell ⟨w.heap.size + 1 + 1, 1, none⟩ u1).setCell ⟨w.heap.size + 1 + 1, 2, none⟩ u2).setCell ⟨w.heap.size + 1 + 1, 3, none⟩ u3).setCell ⟨w.heap.size + 1 + 1, 4, none⟩ u4).cell? ⟨w.heap.size + 1, 3, none⟩ = some (.int .i64 b3))) := Lib.hid (fun X h u0 u1 u2 u3 u4 => by
        obtain ⟨⟨e0, e1, e2, e3⟩, ⟨g0, g1, g2, g3⟩⟩ := CA.out X h
        refine ⟨⟨?_, ?_, ?_, ?_⟩, ⟨?_, ?_, ?_, ?_⟩⟩ <;> rw [cell_far5 X (by omega)] <;> assumption)
      obtain ⟨⟨za0, za1, za2, za3⟩, ⟨zb0, zb1, zb2, zb3⟩⟩ := CA.out _ hJ.out
      clear hpl
      go_wp2_with fail
      go_region_held3 (fun w' => (w'.cell? ⟨w.heap.size, 0, none⟩ = some (.int .i64 a0) ∧ w'.cell? ⟨w.heap.size, 1, none⟩ = some (.int .i64 a1) ∧ w'.cell? ⟨w.heap.size, 2, none⟩ = some (.int .i64 a2) ∧ w'.cell? ⟨w.heap.size, 3, none⟩ = some (.int .i64 a3)) ∧
          (w'.cell? ⟨w.heap.size + 1, 0, none⟩ = some (.int .i64 b0) ∧ w'.cell? ⟨w.heap.size + 1, 1, none⟩ = some (.int .i64 b1) ∧ w'.cell? ⟨w.heap.size + 1, 2, none⟩ = some (.int .i64 b2) ∧ w'.cell? ⟨w.heap.size + 1, 3, none⟩ = some (.int .i64 b3)))
        (first | (go_keep; done) | exact CA.out _ HJ5.out | exact HS5.out _ _ _ _ _)
        (first | (go_simp; go_at_call 10; (refine (lengths_any (w.heap.size + 1 + 1 + 1) (partOf l m 2).length (mapD (l ++ m)) wr.drew hJ.out.drew.map HSZ.out).mono ?_); rintro e w5 ⟨⟨v, ss, rfl, hp, hr⟩, hb⟩; obtain ⟨xs, hxs⟩ : ∃ xs, xs = (ss.mergeSort (fun x y => decide (x ≤ y))).map (fun k => (⟨k, valD (mapD (l ++ m)) k⟩ : S32)) := ⟨_, rfl⟩; rw [← hxs] at hr; have HXS := Lib.hid hxs; clear hxs; obtain ⟨Av, cv, rfl⟩ := Kd.R_slice hr; have HJ5 := Lib.hid (hJ.out.drew.belowStep hb); have HS5 := Lib.hid (CB.out _ HJ5.out); have HP := Lib.hid hp; have HR := Lib.hid hr; have t0 := (blk_cell HJ5.out.bt 0).trans rfl; have t1 := (blk_cell HJ5.out.bt 1).trans rfl; have t2 := (blk_cell HJ5.out.bt 2).trans rfl; have t3 := (blk_cell HJ5.out.bt 3).trans rfl; have t4 := (blk_cell HJ5.out.bt 4).trans rfl; have f0 := blk_frozen HJ5.out.bt 0; have f1 := blk_frozen HJ5.out.bt 1; have f2 := blk_frozen HJ5.out.bt 2; have f3 := blk_frozen HJ5.out.bt 3; have f4 := blk_frozen HJ5.out.bt 4; clear hp hr hb))
      go_wp2_with fail
      generalize hW9 : World.setCell _ ⟨w.heap.size + 1 + 1, 4, none⟩ _ = W9
      have hb9 : W9.heap[w.heap.size + 1 + 1]? = some (.cells #[.int .i64 (wrap64 (a0 + b0)), .int .i64 (wrap64 (a1 + b1)), .int .i64 (wrap64 (a2 + b2)), .int .i64 (wrap64 (a3 + b3)), .slice Av xs.length cv] 24 (0, 0)) := by
        rw [← hW9, ← w64_eq, ← w64_eq, ← w64_eq, ← w64_eq]
        exact blk_put (blk_put (blk_put (blk_put (blk_put HJ5.out.bt 0 _ rfl) 1 _ rfl) 2 _ rfl) 3 _ rfl) 4 _ rfl
      have n0 := (blk_cell hb9 0).trans rfl
      have n1 := (blk_cell hb9 1).trans rfl
      have n2 := (blk_cell hb9 2).trans rfl
      have n3 := (blk_cell hb9 3).trans rfl
      have n4 := (blk_cell hb9 4).trans rfl
      have HW9 := Lib.hid hW9
      clear hb9 hW9 t0 t1 t2 t3 t4 f0 f1 f2 f3 f4 za0 za1 za2 za3 zb0 zb1 zb2 zb3
      refine bodyPost_ret (v := .agg #[.int .i64 (wrap64 (a0 + b0)), .int .i64 (wrap64 (a1 + b1)), .int .i64 (wrap64 (a2 + b2)), .int .i64 (wrap64 (a3 + b3)), .slice Av xs.length cv]) (by simp [results, Try.results5, go_sem, n0, n1, n2, n3, n4]) rfl ?_
      refine ⟨⟨_, rfl, ?_⟩, ?_⟩
      all_goals rw [← HW9.out]
      · have hx : xs = joinG l m := by
          rw [HXS.out]
          have hin : ∀ x ∈ l ++ m, InR x.f1 := fun x hx => (HIN.out x hx).2
          have := joined_eq hin ((perm_keys hJ.out.map hin).trans HP.out.symm)
          rw [this]; simp [joinG, foldG]
        have hR := HR.out
        rw [hx] at hR ⊢
        have hsz : w.heap.size + 1 + 1 < wr.drew.heap.size := blk_lt hJ.out.drew.bt
        exact Kd.R_lower (R_set_old (R_set_old (R_set_old (R_set_old (R_set_old hR hsz _) hsz _) hsz _) hsz _) hsz _) hJ.out.drew.below.size
      · exact ((((HJ5.out.below.setCell (p := ⟨_, 0, none⟩) (by simp; omega) _).setCell (p := ⟨_, 1, none⟩) (by simp; omega) _).setCell (p := ⟨_, 2, none⟩) (by simp; omega) _).setCell (p := ⟨_, 3, none⟩) (by simp; omega) _).setCell (p := ⟨_, 4, none⟩) (by simp; omega) _
end Go.Proofs.Ytpgaimpppehpcad
