/- caesuralaw29.tally, whole: the walks. -/
import Derived.Test.YtpgaimpppehpcadBjJoin
namespace Go.Proofs.Ytpgaimpppehpcad
open Go.RowKit Go.Maps Go.Proofs.YtpgaimpppehpcadW.PrintWords Go.Proofs.Ytpgaimpppehpcad.PBatchJoins

def mkT : List S32 := List.replicate 64 ⟨-66, -66⟩
theorem mkT_snoc (j : Nat) (l : List S32) : l ++ List.replicate (j + 1) (⟨-66, -66⟩ : S32) = (l ++ List.replicate j ⟨-66, -66⟩) ++ [⟨-66, -66⟩] := by
  rw [List.replicate_succ', List.append_assoc]
structure TSt (w wr : World) (va : Array Value) (a0 a1 a2 a3 : Int) (v : Value) (xs : List S32) : Prop where
  ba : wr.heap[w.heap.size]? = some (.cells va 24 (0, 0))
  br : wr.heap[w.heap.size + 1]? = some (.cells #[.int .i64 0, .int .i64 0, .int .i64 0, .int .i64 0, .slice none 0 0] 24 (0, 0))
  bu : wr.heap[w.heap.size + 1 + 1]? = some (.cells #[.int .i64 a0, .int .i64 a1, .int .i64 a2, .int .i64 a3, v] 24 (0, 0))
  r : k32.R 32 wr w.heap.size (fun _ => True) v xs
  below : Below w.heap.size w wr
theorem TSt.app {w wr w' : World} {va : Array Value} {a0 a1 a2 a3 : Int} {v v' : Value} {xs xs' : List S32} (h : TSt w wr va a0 a1 a2 a3 v xs) (ho : k32.R 32 w' w.heap.size (fun _ => True) v' xs') (hg : wr.grownBy w' v.ownBlock) (hb : Below w.heap.size w w') :
    TSt w (w'.setCell ⟨w.heap.size + 1 + 1, 4, none⟩ v') va a0 a1 a2 a3 v' xs' := by
  have n0 := blk_grown h.ba hg (Kd.R_ne h.r h.ba (by decide))
  have n1 := blk_grown h.br hg (Kd.R_ne h.r h.br (by decide))
  have n2 := blk_grown h.bu hg (Kd.R_ne h.r h.bu (by decide))
  refine ⟨(Below.heap_setCell _ _ _ _ (by simp; omega)).trans n0, (Below.heap_setCell _ _ _ _ (by simp)).trans n1, blk_put n2 4 _ rfl, ?_, hb.setCell (p := ⟨_, 4, none⟩) (by simp; omega) _⟩
  exact Kd.R_mono (Kd.R_far (p := ⟨w.heap.size + 1 + 1, 4, none⟩) (Kd.R_types ho n2 (by decide)) (fun k hk => hk.2) _) (fun k hk => hk.1)
theorem TSt.grownCells {w wr w' : World} {va : Array Value} {a0 a1 a2 a3 : Int} {v : Value} {xs : List S32} (h : TSt w wr va a0 a1 a2 a3 v xs) (hg : wr.grownBy w' v.ownBlock) :
    w'.cell? ⟨w.heap.size + 1 + 1, 4, none⟩ = some v ∧ w'.frozen? ⟨w.heap.size + 1 + 1, 4, none⟩ = false :=
  have n2 := blk_grown h.bu hg (Kd.R_ne h.r h.bu (by decide))
  ⟨(blk_cell n2 4).trans rfl, blk_frozen n2 4⟩
theorem lens_km (W : World) (base : Nat) (x : S32) (cs : List Value) (h : k32.K W x cs) : k32.M W base (fun _ => False) x cs := h
theorem heap_new (W : World) (o : Obj) : (W.alloc o).heap[W.heap.size]? = some o := by show (W.heap.push o)[W.heap.size]? = _; exact Array.getElem?_push_size
theorem heap_old (W : World) (o : Obj) (k : Nat) (h : k < W.heap.size) : (W.alloc o).heap[k]? = W.heap[k]? := Below.heap_alloc W o k h

set_option maxHeartbeats 8000000 in
set_option maxRecDepth 100000 in
theorem tally_any (a0 a1 a2 a3 : Int) (A : Option Addr) (c : Nat) (l : List S32) (w : World) (hl : l.length ≤ 1073741824) (hA : LensAt w A l) :
    Calls Try.prog 4 #[.agg #[.int .i64 a0, .int .i64 a1, .int .i64 a2, .int .i64 a3, .slice A l.length c]] w fun e w' =>
      (∃ g cap, e = .returned (.agg #[.int .i64 a0, .int .i64 a1, .int .i64 a2, .int .i64 a3, .slice (some ⟨g, 0, none⟩) l.length cap]) ∧ k32.R 32 w' w.heap.size (fun _ => True) (.slice (some ⟨g, 0, none⟩) (l.length + 64) cap) (l ++ mkT)) ∧ Below w.heap.size w w' := by
  have HA := Lib.hid hA
  clear hA
  obtain ⟨va, hva⟩ : ∃ va : Array Value, va = #[.int .i64 a0, .int .i64 a1, .int .i64 a2, .int .i64 a3, .slice A l.length c] := ⟨_, rfl⟩
  have HVA := Lib.hid hva
  clear hva
  go_enter Try.func4, Try.ntmps4
  go_upto_region 2 with fail
  generalize hW : (World.alloc _ (.cells #[.int .i64 a0, .int .i64 a1, .int .i64 a2, .int .i64 a3, .slice none 0 0] 24)) = W
  have HT : Hid (TSt w W va a0 a1 a2 a3 (.slice none 0 0) []) := Lib.hid (by
    rw [← hW, HVA.out]
    refine ⟨?_, ?_, ?_, Kd.R_nil _ _ _ _ _, (((Below.refl _ _).alloc (Nat.le_refl _) _).alloc (by simp) _).alloc (by simp; omega) _⟩
    · rw [heap_old _ _ _ (by simp only [World.size_alloc]; omega), heap_old _ _ _ (by simp only [World.size_alloc]; omega)]; exact heap_new _ _
    · rw [heap_old _ _ _ (by simp only [World.size_alloc]; omega)]
      have := heap_new (w.alloc (.cells #[.int .i64 a0, .int .i64 a1, .int .i64 a2, .int .i64 a3, .slice A l.length c] 24)) (.cells #[.int .i64 0, .int .i64 0, .int .i64 0, .int .i64 0, .slice none 0 0] 24)
      simpa only [World.size_alloc] using this
    · have := heap_new ((w.alloc (.cells #[.int .i64 a0, .int .i64 a1, .int .i64 a2, .int .i64 a3, .slice A l.length c] 24)).alloc (.cells #[.int .i64 0, .int .i64 0, .int .i64 0, .int .i64 0, .slice none 0 0] 24)) (.cells #[.int .i64 a0, .int .i64 a1, .int .i64 a2, .int .i64 a3, .slice none 0 0] 24)
      simpa only [World.size_alloc] using this)
  have HAW := Lib.hid (Kd.C_below HA.out HT.out.below)
  have z4 : W.cell? ⟨w.heap.size + 1 + 1, 4, none⟩ = some (.slice none 0 0) := (blk_cell HT.out.bu 4).trans rfl
  have y4 : W.cell? ⟨w.heap.size, 4, none⟩ = some (.slice A l.length c) := (blk_cell (by have := HT.out.ba; rw [HVA.out] at this; exact this) 4).trans rfl
  clear hW
  go_upto_region 3 with (at_builtin; refine Kd.R_append_rows k32 (w0 := w) w.heap.size rfl (.tmp 15) (.tmp 17) 22 32 (.agg #[.int .i64 0, .int .i64 0]) 16 rfl Try.underlying22 lenInfo rfl (by decide) (by decide) (.slice none 0 0) [] l A _ c (fun _ => True) (fun _ => False) rfl rfl HT.out.r HAW.out (lens_km _ _) (fun _ h => h.elim) (fun _ _ => trivial) HT.out.below HT.out.below.size (by simp; omega) ?_; intro v' w3 ho hb' hg' hat; rw [List.nil_append] at ho; obtain ⟨Ao, co, rfl⟩ := Kd.R_slice ho; obtain ⟨f0, f1⟩ := HT.out.grownCells hg'; have HT3 := Lib.hid (HT.out.app ho hg' hb'); clear ho hb' hg' hat)
  obtain ⟨W3, hW3⟩ : ∃ W3, W3 = w3.setCell ⟨w.heap.size + 1 + 1, 4, none⟩ (.slice Ao l.length co) := ⟨_, rfl⟩
  rw [← hW3] at HT3 ⊢
  clear hW3 f0 f1 z4 y4 HT
  go_wp2_with fail
  go_loopw [4] (fun i wr => ∃ (j : Nat) (A0 : Option Addr) (c0 : Nat) (xs : List S32), i = .int .i64 j ∧ j ≤ 64 ∧ xs.length = l.length + j ∧ Hid (xs = l ++ List.replicate j ⟨-66, -66⟩) ∧ Hid (TSt w wr va a0 a1 a2 a3 (.slice A0 xs.length c0) xs)) (fun i _ => 64 - (intOf i).toNat)
  case atStart => exact ⟨0, Ao, co, l, rfl, by omega, rfl, Lib.hid (by simp), HT3⟩
  case round =>
    clear HT3
    obtain ⟨j, A0, c0, xs, rfl, hj, hxl, hx, HT⟩ := hrel
    have HXL := Lib.hid hxl
    have hxb : xs.length ≤ 1073741888 := by omega
    clear hxl
    have z4 : wr.cell? ⟨w.heap.size + 1 + 1, 4, none⟩ = some (.slice A0 xs.length c0) := (blk_cell HT.out.bu 4).trans rfl
    have zf : wr.frozen? ⟨w.heap.size + 1 + 1, 4, none⟩ = false := blk_frozen HT.out.bu 4
    by_cases h64 : j < 64
    · have d2 : decide ((j : Int) < 64) = true := decide_eq_true (by omega)
      go_wp2_with (at_builtin; refine Kd.R_append k32 (w0 := w) w.heap.size rfl (.tmp 25) (.tmp 27) 22 32 (.agg #[.int .i64 0, .int .i64 0]) 16 rfl Try.underlying22 lenInfo rfl (by decide) (by decide) (.slice A0 xs.length c0) xs ⟨-66, -66⟩ [.int .i64 (-66), .int .i64 (-66)] (fun _ => True) (fun _ => False) rfl rfl (k32_M _ _ ⟨-66, -66⟩) (fun _ h => h.elim) (fun _ _ => trivial) HT.out.r HT.out.below HT.out.below.size (by omega) ?_; intro v' w6 ho hb' hg' hat; obtain ⟨Ao, co, rfl⟩ := Kd.R_slice ho; obtain ⟨f0, f1⟩ := HT.out.grownCells hg'; have HTa := Lib.hid (HT.out.app ho hg' hb'); simp only [List.length_append, List.length_singleton] at HTa; clear ho hb' hg' hat)
      go_roundw
      case rel => exact ⟨j + 1, Ao, co, xs ++ [⟨-66, -66⟩], by go_num, by omega, by have := HXL.out; simp only [List.length_append, List.length_singleton]; omega, Lib.hid (by rw [mkT_snoc, hx.out]), by simp only [List.length_append, List.length_singleton]; exact HTa⟩
      case measure => simp [intOf]; omega
    · have d2 : decide ((j : Int) < 64) = false := decide_eq_false (by omega)
      obtain rfl : j = 64 := by omega
      obtain ⟨g0, k0, ha, _⟩ := Kd.R_form HT.out.r (by have := HXL.out; omega)
      injection ha with ha1 _ ha3
      subst ha1 ha3
      have hcap := (Kd.R_reads' HT.out.r).2.1
      have hxl := HXL.out
      rw [hxl] at hcap
      have hq0 : l.length ≤ c0 := by omega
      have HT6 : Hid (TSt w wr va a0 a1 a2 a3 (.slice (some ⟨g0, 0, none⟩) (l.length + 64) c0) (l ++ mkT)) := by
        have := HT.out
        rw [hxl, hx.out] at this
        exact Lib.hid this
      rw [hxl] at z4
      have y4 : wr.cell? ⟨w.heap.size, 4, none⟩ = some (.slice A l.length c) := (blk_cell (by have := HT.out.ba; rw [HVA.out] at this; exact this) 4).trans rfl
      have y0 : wr.cell? ⟨w.heap.size + 1 + 1, 0, none⟩ = some (.int .i64 a0) := (blk_cell HT.out.bu 0).trans rfl
      have y1 : wr.cell? ⟨w.heap.size + 1 + 1, 1, none⟩ = some (.int .i64 a1) := (blk_cell HT.out.bu 1).trans rfl
      have y2 : wr.cell? ⟨w.heap.size + 1 + 1, 2, none⟩ = some (.int .i64 a2) := (blk_cell HT.out.bu 2).trans rfl
      have y3 : wr.cell? ⟨w.heap.size + 1 + 1, 3, none⟩ = some (.int .i64 a3) := (blk_cell HT.out.bu 3).trans rfl
      have x0 : wr.cell? ⟨w.heap.size + 1, 0, none⟩ = some (.int .i64 0) := (blk_cell HT.out.br 0).trans rfl
      have x1 : wr.cell? ⟨w.heap.size + 1, 1, none⟩ = some (.int .i64 0) := (blk_cell HT.out.br 1).trans rfl
      have x2 : wr.cell? ⟨w.heap.size + 1, 2, none⟩ = some (.int .i64 0) := (blk_cell HT.out.br 2).trans rfl
      have x3 : wr.cell? ⟨w.heap.size + 1, 3, none⟩ = some (.int .i64 0) := (blk_cell HT.out.br 3).trans rfl
      have x4 : wr.cell? ⟨w.heap.size + 1, 4, none⟩ = some (.slice none 0 0) := (blk_cell HT.out.br 4).trans rfl
      have f0 : wr.frozen? ⟨w.heap.size + 1, 0, none⟩ = false := blk_frozen HT.out.br 0
      have f1 : wr.frozen? ⟨w.heap.size + 1, 1, none⟩ = false := blk_frozen HT.out.br 1
      have f2 : wr.frozen? ⟨w.heap.size + 1, 2, none⟩ = false := blk_frozen HT.out.br 2
      have f3 : wr.frozen? ⟨w.heap.size + 1, 3, none⟩ = false := blk_frozen HT.out.br 3
      have f4 : wr.frozen? ⟨w.heap.size + 1, 4, none⟩ = false := blk_frozen HT.out.br 4
      clear HXL hxl hx HT hcap
      go_wp2_with fail
      generalize hW9 : World.setCell _ ⟨w.heap.size + 1, 4, none⟩ _ = W9
      have hb9 : W9.heap[w.heap.size + 1]? = some (.cells #[.int .i64 a0, .int .i64 a1, .int .i64 a2, .int .i64 a3, .slice (some ⟨g0, 0, none⟩) l.length c0] 24 (0, 0)) := by
        rw [← hW9]
        exact blk_put (blk_put (blk_put (blk_put (blk_put ((Below.heap_setCell _ _ _ _ (by simp)).trans HT6.out.br) 0 _ rfl) 1 _ rfl) 2 _ rfl) 3 _ rfl) 4 _ rfl
      have n0 := (blk_cell hb9 0).trans rfl
      have n1 := (blk_cell hb9 1).trans rfl
      have n2 := (blk_cell hb9 2).trans rfl
      have n3 := (blk_cell hb9 3).trans rfl
      have n4 := (blk_cell hb9 4).trans rfl
      have HW9 := Lib.hid hW9
      clear hb9 hW9 z4 zf y0 y1 y2 y3 y4 x0 x1 x2 x3 x4 f0 f1 f2 f3 f4
      refine bodyPost_ret (v := .agg #[.int .i64 a0, .int .i64 a1, .int .i64 a2, .int .i64 a3, .slice (some ⟨g0, 0, none⟩) l.length c0]) (by simp [results, Try.results4, go_sem, n0, n1, n2, n3, n4]) rfl ?_
      have hR := Kd.R_mono (Kd.R_types (Kd.R_types HT6.out.r HT6.out.br (by decide)) HT6.out.bu (by decide)) (ok' := fun k => k ≠ w.heap.size + 1 ∧ k ≠ w.heap.size + 1 + 1) (fun k hk => ⟨hk.1.2, hk.2⟩)
      refine ⟨⟨_, _, rfl, ?_⟩, ?_⟩
      all_goals rw [← HW9.out]
      · exact Kd.R_mono (Kd.R_far (Kd.R_far (Kd.R_far (Kd.R_far (Kd.R_far (Kd.R_far hR (fun k hk => hk.2) _) (fun k hk => hk.1) _) (fun k hk => hk.1) _) (fun k hk => hk.1) _) (fun k hk => hk.1) _) (fun k hk => hk.1) _) (fun _ _ => trivial)
      · exact (((((HT6.out.below.setCell (p := ⟨_, 4, none⟩) (by simp; omega) _).setCell (p := ⟨_, 0, none⟩) (by simp) _).setCell (p := ⟨_, 1, none⟩) (by simp) _).setCell (p := ⟨_, 2, none⟩) (by simp) _).setCell (p := ⟨_, 3, none⟩) (by simp) _).setCell (p := ⟨_, 4, none⟩) (by simp) _
end Go.Proofs.Ytpgaimpppehpcad
