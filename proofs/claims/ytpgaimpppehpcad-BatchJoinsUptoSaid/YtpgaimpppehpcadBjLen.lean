/- batch.lengths: the walk. -/
import Derived.Test.YtpgaimpppehpcadBjKeys
import Derived.Maps.OwnOps
import Derived.Maps.Own
import Derived.Maps.OwnSet
import Derived.Outline
namespace Go.Proofs.Ytpgaimpppehpcad
open Go.RowKit Go.Maps Go.Proofs.YtpgaimpppehpcadW.PrintWords Go.Proofs.Ytpgaimpppehpcad.PBatchJoins

abbrev T32 : Nat := 32
theorem lenInfo : (Try.prog.info? 32).map (fun i => (i.zero, i.size, i.bytes)) = some (some (.agg #[.int .i64 0, .int .i64 0]), 2, 16) := by kernel_rfl
theorem lawI : Keyed Try.prog 3 := int_keyed Try.underlying3
theorem zeroI (w : World) : (zeroValue 3).run Try.prog w = .ok (.int .i64 0) w := by kernel_rfl
abbrev OwnM (w : World) (b nn : Nat) (D : Dm) : Prop := w.ownsMap Try.prog 3 (plainElem Try.prog 3) b nn D
theorem ownM_below {w w' : World} {b nn : Nat} {D : Dm} (h : OwnM w b nn D) (hb : Below w.heap.size w w') : OwnM w' b nn D := h.kept (grown_of_below hb none) (by simp)

theorem ints_at {w : World} {A : Option Addr} {n : Nat} {xs : List Int} (h : iK.C w A n xs) (k : Nat) (hk : k < xs.length) : ∃ ad, A = some ad ∧ w.cell? (ad.add k) = some (.int .i64 xs[k]) := by
  obtain ⟨ad, e, hc⟩ := h.2.2 (by have := h.1; omega)
  refine ⟨ad, e, ?_⟩
  obtain ⟨c, hl, hK, hu⟩ := hc k xs[k] (List.getElem?_eq_getElem hk)
  have hK' : c = [.int .i64 xs[k]] := hK
  have := hu 0 (.int .i64 xs[k]) (by rw [hK']; rfl)
  simpa [Kd.int, Kd.scalar] using this
theorem k32_M (w : World) (base : Nat) (x : S32) : k32.M w base (fun _ => False) x [.int .i64 x.f0, .int .i64 x.f1] := ⟨[.int .i64 x.f0], [.int .i64 x.f1], rfl, rfl, rfl⟩

set_option maxHeartbeats 4000000 in
theorem lengths_any (b nn : Nat) (D0 : Dm) (w : World) (hown : OwnM w b nn D0) (hmax : Maps.size D0 ≤ 1099511627776) :
    Calls Try.prog 10 #[.map (some b)] w fun e w' => (∃ (v : Value) (ss : List Int), e = .returned v ∧ ss.Perm (intKeys D0) ∧
      k32.R 32 w' w.heap.size (fun _ => True) v ((ss.mergeSort (fun x y => decide (x ≤ y))).map (fun k => (⟨k, valD D0 k⟩ : S32)))) ∧ Below w.heap.size w w' := by
  have HO := Lib.hid hown
  clear hown
  go_enter Try.func10, Try.ntmps10
  go_wp2_with (first
    | (go_at_call 16; (with_reducible refine (keys_any (some b) _).mono ?_); rintro e w1 ⟨rfl, rfl⟩)
    | (go_at_call 15; (with_reducible refine (sorted_any b nn D0 _ HO.out hmax).mono ?_); rintro e w1 ⟨⟨v8, ss, rfl, hp, hr⟩, hb⟩; obtain ⟨ks, hks⟩ : ∃ ks, ks = ss.mergeSort (fun x y => decide (x ≤ y)) := ⟨_, rfl⟩; rw [← hks] at hr; have HKS := Lib.hid hks; clear hks; obtain ⟨A8, c8, rfl, hc8, hC8⟩ := Kd.R_reads hr; have HP := Lib.hid hp; have HB1 := Lib.hid hb; have HC8 := Lib.hid hC8; clear hp hr hb hC8))
  have hkl : ks.length ≤ 1099511627776 := by
    have h1 := (List.mergeSort_perm ss (fun x y => decide (x ≤ y))).length_eq
    rw [← HKS.out, HP.out.length_eq] at h1
    have h2 : (intKeys D0).length = Maps.size D0 := by cases D0 <;> simp [intKeys, Maps.size]
    omega
  have hwf : Hid (∀ k ∈ ks, (Lit.int .i64 k).wf = true) := Lib.hid (fun k hk => intKeys_wf HO.out Try.underlying3 k (HP.out.mem_iff.1 ((List.mergeSort_perm ss _).mem_iff.1 (by rw [HKS.out] at hk; exact hk))))
  have HO1 := Lib.hid (ownM_below HO.out HB1.out)
  clear hc8
  go_loopw [3, 10] (fun v i wr => ∃ (j : Nat), i = .int .i64 j ∧ j ≤ ks.length ∧ Hid (k32.R 32 wr w1.heap.size (fun _ => True) v ((ks.take j).map (fun k => (⟨k, valD D0 k⟩ : S32)))) ∧ Hid (Below w1.heap.size w1 wr)) (fun _ i _ => ks.length - (intOf i).toNat)
  case atStart => exact ⟨0, rfl, Nat.zero_le _, Lib.hid (Kd.R_nil _ _ _ _ _), Lib.hid (Below.refl _ _)⟩
  case round =>
    obtain ⟨j, rfl, hj, hR, hB⟩ := hrel
    by_cases hlt : j < ks.length
    · have d1 : decide (j < ks.length) = true := decide_eq_true hlt
      obtain ⟨ad, rfl, hc⟩ := ints_at HC8.out j hlt
      have hcr := (hB.out.cell (World.block_lt_of_cell? w1 _ hc)).trans hc
      have hkey : keyOf Try.prog 3 (.int .i64 ks[j]) = some (.int .i64 ks[j]) := keyOf_int_mk Try.underlying3 (hwf.out _ (List.getElem_mem hlt))
      have HKEY := Lib.hid hkey
      have HOr := Lib.hid (ownM_below HO1.out hB.out)
      clear hc hkey
      go_wp2_with (first
        | (at_lookup; refine wpList_lookup_own_int _ rfl _ _ 34 rfl 3 3 .i64 lawI Try.underlying34 Try.underlying3 (zeroI _) b nn D0 rfl HOr.out _ _ rfl HKEY.out ?_; intro c hat hwc; have HAT : Hid (valD D0 ks[j] = c) := Lib.hid (by unfold valD; rw [hat]); clear hat hwc)
        | (at_builtin; refine Kd.R_append k32 (w0 := w1) w1.heap.size rfl (.tmp 14) (.tmp 20) 22 32 (.agg #[.int .i64 0, .int .i64 0]) 16 rfl Try.underlying22 lenInfo rfl (by decide) (by decide) _ ((ks.take j).map (fun k => (⟨k, valD D0 k⟩ : S32))) ⟨ks[j], c⟩ [.int .i64 ks[j], .int .i64 c] (fun _ => True) (fun _ => False) rfl rfl (k32_M _ _ ⟨ks[j], c⟩) (fun _ h => h.elim) (fun _ _ => trivial) hR.out hB.out hB.out.size (by rw [List.length_map, List.length_take]; omega) ?_; intro v' w3 ho hb' hg' hat; have HR3 := Lib.hid ho; have HB3 := Lib.hid hb'; clear ho hb' hg' hat))
      go_roundw
      case rel => exact ⟨j + 1, by go_num, hlt, Lib.hid (by rw [List.take_succ_eq_append_getElem hlt, List.map_append, List.map_cons, List.map_nil, HAT.out]; exact HR3.out), HB3⟩
      case measure => simp [intOf]; omega
    · have d1 : decide (j < ks.length) = false := decide_eq_false hlt
      go_wp2_with fail
      go_ret
      refine ⟨⟨_, ss, rfl, HP.out, ?_⟩, below_step HB1.out hB.out⟩
      have := hR.out
      rw [List.take_of_length_le (by omega), HKS.out] at this
      exact Kd.R_lower this HB1.out.size
end Go.Proofs.Ytpgaimpppehpcad
