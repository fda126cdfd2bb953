/- caesuralaw29.whole, lengths: the walks. -/
import Derived.Test.YtpgaimpppehpcadBjTally
import Derived.Test.YtpgaimpppehpcadPBatchJoinsx12
import Derived.Deep.QuietTactic
import Derived.Test.YtpgaimpppehpcadApp
namespace Go.Proofs.Ytpgaimpppehpcad
open Go.RowKit Go.Maps Go.Proofs.YtpgaimpppehpcadW.PrintWords Go.Proofs.Ytpgaimpppehpcad.PBatchJoins

theorem C_left {w : World} {A : Option Addr} {l m : List S32} (h : k32.C w A (l ++ m).length (l ++ m)) : LensAt w A l := by
  refine ⟨rfl, by have := h.2.1; rw [List.length_append] at this; omega, fun h0 => ?_⟩
  obtain ⟨ad, e, hc⟩ := h.2.2 (by rw [List.length_append]; omega)
  exact ⟨ad, e, fun j p hp => hc j p (by rw [List.getElem?_append_left (List.getElem?_eq_some_iff.1 hp).1]; exact hp)⟩
theorem same_any (a0 a1 a2 a3 : Int) (A B : Option Addr) (c d : Nat) (l : List S32) (w : World) (hl : l.length ≤ 1099511627776) (hA : LensAt w A l) (hB : LensAt w B l) (hc : l.length ≤ c) (hd : l.length ≤ d) :
    Calls Try.prog 7 #[.agg #[.int .i64 a0, .int .i64 a1, .int .i64 a2, .int .i64 a3, .slice A l.length c], .agg #[.int .i64 a0, .int .i64 a1, .int .i64 a2, .int .i64 a3, .slice B l.length d]] w fun e w' => e = .returned (.bool true) ∧ Below w.heap.size w w' :=
  caesuraref0_SameTally.calls (l.length + 2) a0 a1 a2 a3 A c l a0 a1 a2 a3 B d l true w hA hc hB hd (same_f a0 a1 a2 a3 l hl)

set_option maxHeartbeats 8000000 in
set_option maxRecDepth 100000 in
theorem whole_any (a0 a1 a2 a3 : Int) (A B : Option Addr) (cap c : Nat) (l : List S32) (w : World) (hl : l.length ≤ 1073741824) (hA : k32.C w A (l.length + 64) (l ++ mkT)) (hcap : l.length + 64 ≤ cap) (hB : LensAt w B l) (hc : l.length ≤ c) :
    Calls Try.prog 9 #[.agg #[.int .i64 a0, .int .i64 a1, .int .i64 a2, .int .i64 a3, .slice A l.length cap], .agg #[.int .i64 a0, .int .i64 a1, .int .i64 a2, .int .i64 a3, .slice B l.length c]] w fun e w' => e = .returned (.bool true) ∧ Below w.heap.size w w' := by
  have hlen : (l ++ mkT).length = l.length + 64 := by simp [mkT]
  have hA' : k32.C w A (l ++ mkT).length (l ++ mkT) := by rw [hlen]; exact hA
  have HA := Lib.hid hA'
  have HB := Lib.hid hB
  have HLEN := Lib.hid hlen
  clear hA hB hA' hlen
  have hcap' : (l.length : Int) + 64 ≤ cap := by omega
  go_enter Try.func9, Try.ntmps9
  go_upto_region 2 with (go_at_call 7; (with_reducible refine (same_any a0 a1 a2 a3 A B cap c l _ (by omega) (Kd.C_alloc (Kd.C_alloc (C_left HA.out) _) _) (Kd.C_alloc (Kd.C_alloc HB.out _) _) (by omega) hc).mono ?_); rintro e w1 ⟨rfl, hb⟩; have hb2 := hb; have HBL := Lib.hid ((((Below.refl _ w).alloc (Nat.le_refl _) _).alloc (by simp) _).trans (hb.mono (by simp; omega))); have HA1 := Lib.hid (Kd.C_below HA.out HBL.out); have n2 : w1.cell? ⟨w.heap.size, 4, none⟩ = some (.slice A l.length cap) := (hb2.cell (by simp; omega)).trans (by go_simp); have n3 : w1.cell? ⟨w.heap.size + 1, 4, none⟩ = some (.slice B l.length c) := (hb2.cell (by simp)).trans (by go_simp); clear hb hb2)
  go_wp2_with fail
  go_loopw [7] (fun i wr => ∃ (j n : Nat), i = .int .i64 j ∧ l.length ≤ j ∧ j ≤ l.length + 64 ∧ wr = w1.drewN n) (fun i _ => l.length + 64 - (intOf i).toNat)
  case atStart => exact ⟨l.length, 0, rfl, Nat.le_refl _, by omega, rfl⟩
  case round =>
    obtain ⟨j, n, rfl, hj0, hj, rfl⟩ := hrel
    by_cases h64 : j < l.length + 64
    · have d2 : decide ((j : Int) < (l.length : Int) + 64) = true := decide_eq_true (by omega)
      obtain ⟨ad, rfl, e0, e1⟩ := len_at HA1.out j (by rw [HLEN.out]; exact h64)
      have hx : (l ++ mkT)[j]'(by rw [HLEN.out]; exact h64) = ⟨-66, -66⟩ := by rw [List.getElem_append_right hj0]; exact List.getElem_replicate ..
      rw [hx] at e0 e1
      clear hx
      go_wp2_with fail
      go_roundw
      case rel => exact ⟨j + 1, n, by go_num, by omega, by omega, rfl⟩
      case measure => simp [intOf]; omega
    · have d2 : decide ((j : Int) < (l.length : Int) + 64) = false := decide_eq_false (by omega)
      go_wp2_with fail
      go_ret
      exact ⟨rfl, below_drewN HBL.out _⟩

theorem k32_self {w : World} {base : Nat} {ok : Nat → Prop} {v : Value} {xs : List S32} (h : k32.R 32 w base ok v xs) : k32.R 32 w base (fun k => some k = v.ownBlock) v xs := ⟨fun _ hk => hk.symm, h.2⟩

set_option maxHeartbeats 4000000 in
theorem grown_any (u : Value) (l : List S32) (m : Int) (w0 w : World) (hl : l.length ≤ 1073741824) (hb : Below w0.heap.size w0 w) (hu : k32.R 32 w w0.heap.size (fun _ => True) u l) :
    Calls Try.prog 13 #[u, .int .i64 m] w fun e w' => ∃ v, e = .returned v ∧ Grw k32 32 w0 w w' u v l (l ++ List.replicate 64 ⟨m, 0⟩) := by
  have HG := Lib.hid (Grw.start hu hb)
  clear hu hb
  go_enter Try.func13, Try.ntmps13
  go_wp2_with fail
  go_loopw [0, 5] (fun v i wr => ∃ (j : Nat) (xs : List S32), i = .int .i64 j ∧ j ≤ 64 ∧ xs.length = l.length + j ∧ Hid (xs = l ++ List.replicate j ⟨m, 0⟩) ∧ Hid (Grw k32 32 w0 w wr u v l xs)) (fun _ i _ => 64 - (intOf i).toNat)
  case atStart => exact ⟨0, l, rfl, by omega, rfl, Lib.hid (by simp), HG⟩
  case round =>
    clear HG
    obtain ⟨j, xs, rfl, hj, hxl, hx, HG⟩ := hrel
    have HXL := Lib.hid hxl
    have hxb : xs.length ≤ 1073741888 := by omega
    clear hxl
    by_cases h64 : j < 64
    · have d2 : decide ((j : Int) < 64) = true := decide_eq_true (by omega)
      go_wp2_with (at_builtin; refine R_append_two k32 (w0 := w0) w0.heap.size rfl (.tmp 10) (.tmp 13) 22 32 (.agg #[.int .i64 0, .int .i64 0]) 16 rfl Try.underlying22 lenInfo rfl (by decide) (by decide) _ xs ⟨m, 0⟩ [.int .i64 m, .int .i64 0] (fun _ => True) (fun _ => False) rfl rfl (k32_M _ _ ⟨m, 0⟩) (fun _ h => h.elim) (fun _ _ => trivial) HG.out.r HG.out.below HG.out.below.size (by omega) ?_; intro v' w6 ho hb' hat; have HG2 := Lib.hid (HG.out.step ho hb' hat); clear ho hb' hat)
      go_roundw
      case rel => exact ⟨j + 1, xs ++ [⟨m, 0⟩], by go_num, by omega, by have := HXL.out; simp only [List.length_append, List.length_singleton]; omega, Lib.hid (by rw [hx.out, List.replicate_succ', List.append_assoc]), HG2⟩
      case measure => simp [intOf]; omega
    · have d2 : decide ((j : Int) < 64) = false := decide_eq_false (by omega)
      obtain rfl : j = 64 := by omega
      go_wp2_with fail
      go_ret
      exact ⟨_, rfl, by rw [← hx.out]; exact HG.out⟩

theorem full_any (m : Int) (A : Option Addr) (c : Nat) (l : List S32) (w : World) (hl : l.length ≤ 1099511627776) (hc : l.length ≤ c) (h : k32.C w A l.length l) (hm : ∀ j (hj : j < l.length), l[j].f0 = m) :
    Calls Try.prog 14 #[.slice A l.length c, .int .i64 m] w fun e w' => e = .returned (.bool true) ∧ Below w.heap.size w w' :=
  (caesuralaw29_full.calls (l.length + 1) A c l m true w h hc (full_f m l hl hm)).mono fun _ _ ⟨he, hd⟩ => ⟨he, hd.below⟩
theorem all_marks {r : List S32} {m : Int} (h : ∀ j (hj : j < r.length), r[j] = ⟨m, 0⟩) : ∀ j (hj : j < (r ++ List.replicate 64 (⟨m, 0⟩ : S32)).length), (r ++ List.replicate 64 (⟨m, 0⟩ : S32))[j].f0 = m := fun j hj => by
  rw [List.getElem_append]
  split
  · rename_i h'; rw [h j h']
  · rw [List.getElem_replicate]

/-- Two rows apart, written full and grown: what they are then is as it should be; nothing else is written. -/
theorem lengths_law (Au Av : Option Addr) (cu cv : Nat) (xs ys : List S32) (w0 w : World) (hb : Below w0.heap.size w0 w) (hx : k32.R 32 w w0.heap.size (fun _ => True) (.slice Au xs.length cu) xs) (hy : k32.R 32 w w0.heap.size (fun _ => True) (.slice Av ys.length cv) ys)
    (hne : ∀ k, some k = (Value.slice Au xs.length cu).ownBlock → ¬ some k = (Value.slice Av ys.length cv).ownBlock) (hxl : xs.length ≤ 1073741824) (hyl : ys.length ≤ 1073741824) :
    Calls Try.prog 8 #[.slice Au xs.length cu, .slice Av ys.length cv] w fun e w' => e = .returned (.bool true) ∧ Kept w w' (fun k => some k = (Value.slice Au xs.length cu).ownBlock ∨ some k = (Value.slice Av ys.length cv).ownBlock) ∧ Below w0.heap.size w0 w' := by
  obtain ⟨r1, hf1, hl1, he1⟩ := fill_f (-71) xs (by omega)
  obtain ⟨r2, hf2, hl2, he2⟩ := fill_f (-72) ys (by omega)
  have HF1 := Lib.hid hf1
  have HF2 := Lib.hid hf2
  have HE1 := Lib.hid he1
  have HE2 := Lib.hid he2
  have hr1 : r1.length ≤ 1073741824 := by omega
  have hr2 : r2.length ≤ 1073741824 := by omega
  have HL1 := Lib.hid hl1
  have HL2 := Lib.hid hl2
  obtain ⟨u, hu⟩ : ∃ u, u = Value.slice Au xs.length cu := ⟨_, rfl⟩
  obtain ⟨v, hv⟩ : ∃ v, v = Value.slice Av ys.length cv := ⟨_, rfl⟩
  rw [← hu] at hx hne ⊢
  rw [← hv] at hy hne ⊢
  have HU := Lib.hid hu
  have HV := Lib.hid hv
  have HX := Lib.hid (k32_self hx)
  have HY := Lib.hid (k32_self hy)
  have HB := Lib.hid hb
  have HNE := Lib.hid hne
  clear hx hy hb hne hu hv hf1 hf2 he1 he2 hl1 hl2
  go_enter Try.func8, Try.ntmps8
  go_upto_region 5 with (first
    | (go_at_call 12; (with_reducible refine (caesuralaw29_fill.calls _ (fun k => some k = u.ownBlock) u xs (-71) r1 w0 _ HB.out HX.out HF1.out).mono ?_); rintro e w1 ⟨rfl, hr, hb, hk⟩; have HX1 := Lib.hid (k32_self hr); have HB1 := Lib.hid hb; have HK1 := Lib.hid (hk.mono (S' := fun k => some k = u.ownBlock ∨ some k = v.ownBlock) (fun k h => .inl h)); have HY1 := Lib.hid (Kd.R_kept HY.out hk (fun k h h' => HNE.out k h' h)); clear hr hb hk)
    | (go_at_call 12; (with_reducible refine (caesuralaw29_fill.calls _ (fun k => some k = v.ownBlock) v ys (-72) r2 w0 _ HB1.out HY1.out HF2.out).mono ?_); rintro e w2 ⟨rfl, hr, hb, hk⟩; have HY2 := Lib.hid (k32_self hr); have HB2 := Lib.hid hb; have HX2 := Lib.hid (Kd.R_kept HX1.out hk (fun k h h' => HNE.out k h h')); have HK2 := Lib.hid (HK1.out.then_ hk (fun k h => .inl (.inr h))); clear hr hb hk)
    | (go_at_call 13; (with_reducible refine (grown_any u r1 (-71) w0 _ hr1 HB2.out (Kd.R_mono HX2.out (fun _ _ => trivial))).mono ?_); rintro e w3 ⟨a, rfl, hg⟩; have HG3 := Lib.hid hg; have HY3 := Lib.hid (Kd.R_kept HY2.out hg.kept (fun k h h' => HNE.out k h' h)); have HK3 := Lib.hid (HK2.out.then_ hg.kept (fun k h => .inl (.inl h))); clear hg)
    | (go_at_call 13; (with_reducible refine (grown_any v r2 (-72) w0 _ hr2 HG3.out.below (Kd.R_mono HY3.out (fun _ _ => trivial))).mono ?_); rintro e w4 ⟨b, rfl, hg⟩; have HG4 := Lib.hid hg; have HX4 := Lib.hid (Kd.R_kept (k32_self HG3.out.u) hg.kept (fun k h h' => HNE.out k h h')); have HA4 := Lib.hid (Kd.R_kept (k32_self HG3.out.r) hg.kept (fun k h h' => by { rcases HG3.out.own with e | ⟨q, e, hq⟩; exact HNE.out k (h.trans e) h'; rw [e] at h; injection h with h; have := Kd.R_lt HY2.out k h'.symm; omega })); have HK4 := Lib.hid (HK3.out.then_ hg.kept (fun k h => .inl (.inr h))); clear hg))
  obtain ⟨A1, c1, hA1, hc1, hC1⟩ := Kd.R_reads HA4.out
  obtain ⟨A2, c2, hA2, hc2, hC2⟩ := Kd.R_reads HG4.out.r
  obtain ⟨A3, c3, hA3, hc3, hC3⟩ := Kd.R_reads HX4.out
  obtain ⟨A4, c4, hA4, hc4, hC4⟩ := Kd.R_reads HG4.out.u
  obtain ⟨q1, hq1⟩ : ∃ q1, q1 = r1 ++ List.replicate 64 (⟨-71, 0⟩ : S32) := ⟨_, rfl⟩
  obtain ⟨q2, hq2⟩ : ∃ q2, q2 = r2 ++ List.replicate 64 (⟨-72, 0⟩ : S32) := ⟨_, rfl⟩
  rw [← hq1] at hA1 hc1 hC1
  rw [← hq2] at hA2 hc2 hC2
  rw [hA1, hA2]
  have HM1 : Hid (∀ j (hj : j < q1.length), q1[j].f0 = -71) := Lib.hid (by subst hq1; exact all_marks HE1.out)
  have HM2 : Hid (∀ j (hj : j < q2.length), q2[j].f0 = -72) := Lib.hid (by subst hq2; exact all_marks HE2.out)
  have hb1 : q1.length ≤ 1099511627776 := by rw [hq1]; simp; omega
  have hb2 : q2.length ≤ 1099511627776 := by rw [hq2]; simp; omega
  have H1 := Lib.hid hC1; have H2 := Lib.hid hC2; have H3 := Lib.hid hC3; have H4 := Lib.hid hC4
  rw [hA3, hA4]
  have HBE := Lib.hid HG4.out.below
  clear hC1 hC2 hC3 hC4 hA1 hA2 hq1 hq2
  go_wp2_with (first
    | (go_at_call 14; (with_reducible refine (full_any (-71) A1 c1 q1 _ hb1 hc1 H1.out HM1.out).mono ?_); rintro e x1 ⟨rfl, hb⟩; have HF1 := Lib.hid hb; clear hb)
    | (go_at_call 14; (with_reducible refine (full_any (-72) A2 c2 q2 _ hb2 hc2 (Kd.C_below H2.out HF1.out) HM2.out).mono ?_); rintro e x2 ⟨rfl, hb⟩; have HF2 := Lib.hid (below_step HF1.out hb); clear hb)
    | (go_at_call 14; (with_reducible refine (full_any (-71) A3 c3 r1 _ (by omega) hc3 (Kd.C_below H3.out HF2.out) (fun j hj => by rw [HE1.out j hj])).mono ?_); rintro e x3 ⟨rfl, hb⟩; have HF3 := Lib.hid (below_step HF2.out hb); clear hb)
    | (go_at_call 14; (with_reducible refine (full_any (-72) A4 c4 r2 _ (by omega) hc4 (Kd.C_below H4.out HF3.out) (fun j hj => by rw [HE2.out j hj])).mono ?_); rintro e x4 ⟨rfl, hb⟩; have HF4 := Lib.hid (below_step HF3.out hb); clear hb))
  go_ret
  exact ⟨rfl, HK4.out.below HF4.out, HBE.out.trans (HF4.out.mono HBE.out.size)⟩
end Go.Proofs.Ytpgaimpppehpcad
