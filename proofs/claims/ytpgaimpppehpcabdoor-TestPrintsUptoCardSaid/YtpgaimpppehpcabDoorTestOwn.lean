/- caesuralaw23.own: the walk. -/
import Derived.Test.YtpgaimpppehpcabDoorTestGs
import Derived.StillTailTactics
import Derived.Deep.RegionHeld3
import Derived.Deep.DeepCutAuto
namespace Go.Proofs.YtpgaimpppehpcabDoor
open Go.RowKit Go.Proofs.YtpgaimpppehpcabDoorW.PrintWords

theorem rep_snoc (l : List Int) (j : Nat) (z : Int) : l ++ List.replicate (j + 1) z = (l ++ List.replicate j z) ++ [z] := by
  rw [List.replicate_succ', List.append_assoc]
theorem take_inl {cs : List Case} {k : Nat} (h : k < cs.length) : (cs.take (k + 1)).map (Sum.inl (β := Case)) = (cs.take k).map Sum.inl ++ [Sum.inl cs[k]] := by
  rw [List.take_succ_eq_append_getElem h, List.map_append]; rfl

set_option maxHeartbeats 8000000 in
set_option maxRecDepth 100000 in
theorem own_any (A : Option Addr) (c : Nat) (cs : List Case) (w : World) (hl : cs.length ≤ 2097152) (hs : ∀ k (h : k < cs.length), cs[k].1.length ≤ 2097152 ∧ cs[k].2.length ≤ 2097152) (h : CasesAt w A cs) :
    Calls Tryd.prog 5 #[.slice A cs.length c] w fun e w' => (∃ g cap, e = .returned (.slice (some ⟨g, 0, none⟩) cs.length cap) ∧ gK.R 36 w' w.heap.size (fun k => w.heap.size ≤ k) (.slice (some ⟨g, 0, none⟩) (cs.length + 64) cap) (withEx cs)) ∧ Below w.heap.size w w' := by
  have HI := Lib.hid h
  have HSZ := Lib.hid hs
  clear h hs
  go_enter Tryd.func5, Tryd.ntmps5
  go_wp2_with fail
  go_loopw [3, 4] (fun v i wr => ∃ (k : Nat), i = .int .i64 k ∧ k ≤ cs.length ∧ Hid (gK.R 36 wr w.heap.size (fun k => w.heap.size ≤ k) v ((cs.take k).map .inl)) ∧ Hid (Below w.heap.size w wr)) (fun _ i _ => cs.length - (intOf i).toNat)
  case atStart => exact ⟨0, rfl, Nat.zero_le _, Lib.hid (Kd.R_nil _ _ _ _ _), Lib.hid (Below.refl _ _)⟩
  case round =>
    obtain ⟨k, rfl, hk, hO, hB⟩ := hrel
    by_cases hlt : k < cs.length
    · have d1 : decide (k < cs.length) = true := decide_eq_true hlt
      obtain ⟨ad, v0, v1, rfl, hc0, hc1, PA, pc, BA, bc, rfl, rfl, hP, hQ, _, _⟩ := HI.out k hlt
      have hsz := HSZ.out k hlt
      have HL : Hid (∀ X, Below w.heap.size w X → X.cell? (ad.add (k * 2)) = some (.slice PA cs[k].1.length pc) ∧ X.cell? ⟨(ad.add (k * 2)).block, (ad.add (k * 2)).off + 1, none⟩ = some (.slice BA cs[k].2.length bc) ∧ IntsAt X PA cs[k].1 ∧ IntsAt X BA cs[k].2) := Lib.hid (fun X hX =>
        ⟨(hX.cell (World.block_lt_of_cell? w _ hc0)).trans hc0, by rw [← Go.Proofs.YtpgaimpppehpcabDoorW.PrintWords.add_field ad (k * 2) 1 (by decide)]; exact (hX.cell (World.block_lt_of_cell? w _ hc1)).trans hc1, hP.below hX, hQ.below hX⟩)
      have HST := Lib.hid (OwnSt.start hO.out hB.out)
      clear hc0 hc1 hP hQ
      go_wp2_with fail
      obtain ⟨W1, hW1⟩ : ∃ W1, W1 = wr.alloc (.cells #[.slice none 0 0, .slice none 0 0] 36) := ⟨_, rfl⟩
      rw [← hW1] at HST ⊢
      clear hW1
      obtain ⟨C, hC⟩ : ∃ C, C = wr.heap.size := ⟨_, rfl⟩
      rw [← hC] at HST ⊢
      clear hC hO hB
      refine wp_region_still_tail 7 (by kernel_rfl) (by kernel_rfl) ?_
      simp only [List.take_succ_cons, List.take_zero, List.drop_succ_cons, List.drop_zero]
      obtain ⟨W2, hW2⟩ : ∃ W2 : World, W2 = { W1 with drawn := W1.drawn + 1 } := ⟨_, rfl⟩
      have HST2 : Hid (OwnSt w W2 C u3 (cs.take k) (.slice none 0 0) (.slice none 0 0) [] []) := Lib.hid (by rw [hW2]; exact HST.out.drew)
      rw [← hW2]
      clear hW2 HST
      obtain ⟨e0, e1, hP, hQ⟩ := HL.out _ HST2.out.below
      have HP := Lib.hid hP
      have HQ := Lib.hid hQ
      obtain ⟨z0, z1, z2, z3⟩ := HST2.out.cells
      clear hP hQ
      repeat still_step
      try refine wpStill_nil ?_
      go_wp2_with (at_builtin; refine Kd.R_append_rows iK (w0 := w) w.heap.size rfl (.tmp 15) (.tmp 20) 34 3 (.int .i64 0) 8 rfl Tryd.underlying34 intInfo rfl (by decide) (by decide) (.slice none 0 0) [] cs[k].1 PA _ pc (fun k => w.heap.size ≤ k ∧ some k ≠ (Value.slice none 0 0).ownBlock) (fun _ => False) rfl rfl HST2.out.r0 (C_of_ints HP.out (by omega)) (fun _ _ h => h) (fun _ h => h.elim) ?hf HST2.out.below HST2.out.below.size (by simp; omega) ?_; (case hf => exact fun k hk => ⟨Nat.le_trans HST2.out.below.size hk, by simp [Value.ownBlock]⟩); intro v' w3 ho hb' hg' hat; rw [List.nil_append] at ho; obtain ⟨Ao, co, rfl⟩ := Kd.R_slice ho; obtain ⟨f0, f1, f2, f3⟩ := HST2.out.kept0 hg'; have HST3 := Lib.hid (HST2.out.app0 ho hg' hat hb'); clear ho hb' hg' hat)
      clear z0 z1 z2 z3 f0 f1 f2 f3 e0 e1 HP HQ HST2
      obtain ⟨W3, hW3⟩ : ∃ W3, W3 = w3.setCell ⟨C, 0, none⟩ (.slice Ao cs[k].1.length co) := ⟨_, rfl⟩
      rw [← hW3] at HST3 ⊢
      clear hW3
      refine wp_region_still_tail 7 (by kernel_rfl) (by kernel_rfl) ?_
      simp only [List.take_succ_cons, List.take_zero, List.drop_succ_cons, List.drop_zero]
      obtain ⟨W4, hW4⟩ : ∃ W2 : World, W2 = { W3 with drawn := W3.drawn + 1 } := ⟨_, rfl⟩
      have HST4 : Hid (OwnSt w W4 C u3 (cs.take k) (.slice Ao cs[k].1.length co) (.slice none 0 0) cs[k].1 []) := Lib.hid (by rw [hW4]; exact HST3.out.drew)
      rw [← hW4]
      clear hW4 HST3
      obtain ⟨e0, e1, hP, hQ⟩ := HL.out _ HST4.out.below
      have HP := Lib.hid hP
      have HQ := Lib.hid hQ
      obtain ⟨z0, z1, z2, z3⟩ := HST4.out.cells
      clear hP hQ
      repeat still_step
      try refine wpStill_nil ?_
      go_wp2_with (at_builtin; refine Kd.R_append_rows iK (w0 := w) w.heap.size rfl (.tmp 24) (.tmp 29) 34 3 (.int .i64 0) 8 rfl Tryd.underlying34 intInfo rfl (by decide) (by decide) (.slice none 0 0) [] cs[k].2 BA _ bc (fun b => w.heap.size ≤ b ∧ some b ≠ (Value.slice Ao cs[k].1.length co).ownBlock) (fun _ => False) rfl rfl HST4.out.r1 (C_of_ints HQ.out (by omega)) (fun _ _ h => h) (fun _ h => h.elim) ?hf HST4.out.below HST4.out.below.size (by simp; omega) ?_; (case hf => exact fun b hk => ⟨Nat.le_trans HST4.out.below.size hk, fun e => by have := Kd.R_lt HST4.out.r0 b e.symm; omega⟩); intro v' w5 ho hb' hg' hat; rw [List.nil_append] at ho; obtain ⟨Bo, do_, rfl⟩ := Kd.R_slice ho; obtain ⟨f0, f1, f2, f3⟩ := HST4.out.kept1 hg'; have HST5 := Lib.hid (HST4.out.app1 ho hg' hat hb'); clear ho hb' hg' hat)
      clear z0 z1 z2 z3 f0 f1 f2 f3 e0 e1 HP HQ HST4
      obtain ⟨W5, hW5⟩ : ∃ W5, W5 = w5.setCell ⟨C, 1, none⟩ (.slice Bo cs[k].2.length do_) := ⟨_, rfl⟩
      rw [← hW5] at HST5 ⊢
      clear hW5
      obtain ⟨wo, rfl⟩ : ∃ wo : World, wo = wr := ⟨_, rfl⟩
      go_loopw [6] (fun i wr => ∃ (j : Nat) (A0 A1 : Option Addr) (c0 c1 : Nat) (p q : List Int), i = .int .i64 j ∧ j ≤ 64 ∧ p.length = cs[k].1.length + j ∧ q.length = cs[k].2.length + j ∧ Hid (p = cs[k].1 ++ List.replicate j (-66)) ∧ Hid (q = cs[k].2 ++ List.replicate j (-67)) ∧ Hid (OwnSt w wr C u3 (cs.take k) (.slice A0 p.length c0) (.slice A1 q.length c1) p q)) (fun i _ => 64 - (intOf i).toNat)
      case atStart => exact ⟨0, Ao, Bo, co, do_, cs[k].1, cs[k].2, rfl, by omega, rfl, rfl, Lib.hid (by simp), Lib.hid (by simp), HST5⟩
      case round =>
        clear HST5
        obtain ⟨j, A0, A1, c0, c1, p, q, rfl, hj, hpl, hql, hp, hq, HST⟩ := hrel
        have HPL := Lib.hid hpl
        have HQL := Lib.hid hql
        have hpb : p.length ≤ 2097216 := by omega
        have hqb : q.length ≤ 2097216 := by omega
        clear hpl hql
        obtain ⟨z0, z1, z2, z3⟩ := HST.out.cells
        by_cases h64 : j < 64
        · have d2 : decide ((j : Int) < 64) = true := decide_eq_true (by omega)
          go_upto_region 12 with (at_builtin; refine Kd.R_append iK (w0 := w) w.heap.size rfl (.tmp 37) (.tmp 38) 34 3 (.int .i64 0) 8 rfl Tryd.underlying34 intInfo rfl (by decide) (by decide) (.slice A0 p.length c0) p (-66) [.int .i64 (-66)] (fun b => w.heap.size ≤ b ∧ some b ≠ (Value.slice A1 q.length c1).ownBlock) (fun _ => False) rfl rfl rfl (fun _ h => h.elim) ?hf HST.out.r0 HST.out.below HST.out.below.size (by omega) ?_; (case hf => exact fun b hk => ⟨Nat.le_trans HST.out.below.size hk, fun e => by have := Kd.R_lt HST.out.r1 b e.symm; omega⟩); intro v' w6 ho hb' hg' hat; obtain ⟨Ao, co, rfl⟩ := Kd.R_slice ho; obtain ⟨f0, f1, f2, f3⟩ := HST.out.kept0 hg'; have HSTa := Lib.hid (HST.out.app0 ho hg' hat hb'); simp only [List.length_append, List.length_singleton] at HSTa; clear ho hb' hg' hat)
          clear z0 z1 z2 z3 f0 f1 f2 f3 HST
          obtain ⟨W6, hW6⟩ : ∃ W6, W6 = w6.setCell ⟨C, 0, none⟩ (.slice Ao (p.length + 1) co) := ⟨_, rfl⟩
          rw [← hW6] at HSTa ⊢
          clear hW6
          obtain ⟨z0, z1, z2, z3⟩ := HSTa.out.cells
          go_wp2_with (at_builtin; refine Kd.R_append iK (w0 := w) w.heap.size rfl (.tmp 42) (.tmp 43) 34 3 (.int .i64 0) 8 rfl Tryd.underlying34 intInfo rfl (by decide) (by decide) (.slice A1 q.length c1) q (-67) [.int .i64 (-67)] (fun b => w.heap.size ≤ b ∧ some b ≠ (Value.slice Ao (p.length + 1) co).ownBlock) (fun _ => False) rfl rfl rfl (fun _ h => h.elim) ?hf HSTa.out.r1 HSTa.out.below HSTa.out.below.size (by omega) ?_; (case hf => exact fun b hk => ⟨Nat.le_trans HSTa.out.below.size hk, fun e => by have := Kd.R_lt HSTa.out.r0 b e.symm; omega⟩); intro v' w7 ho hb' hg' hat; obtain ⟨Bo, do_, rfl⟩ := Kd.R_slice ho; obtain ⟨g0, g1, g2, g3⟩ := HSTa.out.kept1 hg'; have HSTb := Lib.hid (HSTa.out.app1 ho hg' hat hb'); simp only [List.length_append, List.length_singleton] at HSTb; clear ho hb' hg' hat)
          go_roundw
          case rel => exact ⟨j + 1, Ao, Bo, co, do_, p ++ [-66], q ++ [-67], by go_num, by omega, by have := HPL.out; simp only [List.length_append, List.length_singleton]; omega, by have := HQL.out; simp only [List.length_append, List.length_singleton]; omega, Lib.hid (by rw [rep_snoc, hp.out]), Lib.hid (by rw [rep_snoc, hq.out]), by simp only [List.length_append, List.length_singleton]; exact HSTb⟩
          case measure => simp [intOf]; omega
        · have d2 : decide ((j : Int) < 64) = false := decide_eq_false (by omega)
          obtain rfl : j = 64 := by omega
          clear z0 z1 z2 z3
          obtain ⟨g0, k0, ha, _⟩ := Kd.R_form HST.out.r0 (by have := HPL.out; omega)
          obtain ⟨g1, k1, hb, _⟩ := Kd.R_form HST.out.r1 (by have := HQL.out; omega)
          injection ha with ha1 _ ha3
          injection hb with hb1 _ hb3
          subst ha1 ha3 hb1 hb3
          have hcap0 := (Kd.R_reads' HST.out.r0).2.1
          have hcap1 := (Kd.R_reads' HST.out.r1).2.1
          have hpl := HPL.out
          have hql := HQL.out
          rw [hpl] at hcap0
          rw [hql] at hcap1
          have HST6 : Hid (OwnSt w wr C u3 (cs.take k) (.slice (some ⟨g0, 0, none⟩) (cs[k].1.length + 64) c0) (.slice (some ⟨g1, 0, none⟩) (cs[k].2.length + 64) c1) (cs[k].1 ++ mk66) (cs[k].2 ++ mk67)) := by
            have := HST.out
            rw [hpl, hql, hp.out, hq.out] at this
            exact Lib.hid this
          clear HPL HQL hpl hql hp hq HST
          have hq0 : cs[k].1.length ≤ c0 := by omega
          have hq1 : cs[k].2.length ≤ c1 := by omega
          go_wp2_with fail
          obtain ⟨e0, e1, _, _⟩ := HL.out _ HST6.out.below
          obtain ⟨z0, z1, z2, z3⟩ := HST6.out.cells
          have hEl := Lib.hid HST6.out.drew.elem
          have hM : Hid (gK.R 36 wr.drew w.heap.size (fun b => w.heap.size ≤ b) u3 ((cs.take k).map .inl)) := Lib.hid (Kd.R_mono HST6.out.drew.m (fun b hb => hb.1.1))
          go_region_held3 (fun w' => w'.cell? ⟨C, 0, none⟩ = some (.slice (some ⟨g0, 0, none⟩) (cs[k].1.length + 64) c0) ∧ w'.cell? ⟨C, 1, none⟩ = some (.slice (some ⟨g1, 0, none⟩) (cs[k].2.length + 64) c1) ∧ w'.cell? (ad.add (k * 2)) = some (.slice PA cs[k].1.length pc) ∧ w'.cell? ⟨(ad.add (k * 2)).block, (ad.add (k * 2)).off + 1, none⟩ = some (.slice BA cs[k].2.length bc))
            (first | go_keep | exact ⟨k0, k1, k2, k3⟩)
            ((refine Kd.R_append_step gK (w0 := w) (W := wr.drew) w.heap.size (by rfl) (.tmp 46) (.tmp 66) 22 36 (.agg #[.slice none 0 0, .slice none 0 0]) 48 (by rfl) Tryd.underlying22 caseInfo rfl (by decide) (by decide) u3 ((cs.take k).map .inl) (.inl cs[k]) [.slice (some ⟨g0, 0, none⟩) cs[k].1.length c0, .slice (some ⟨g1, 0, none⟩) cs[k].2.length c1] (fun b => w.heap.size ≤ b) (fun b => w.heap.size ≤ b ∧ some b ≠ u3.ownBlock) (by rfl) (by rfl) hEl.out (fun _ h => h) ?hf hM.out HST6.out.drew.below HST6.out.drew.below.size (by rw [List.length_map, List.length_take]; omega) ?_; (case hf => exact fun b hk => Nat.le_trans HST6.out.below.size hk); intro v' w8 ho hb' hg' hat; have hbk := blk_grown HST6.out.drew.blk hg' (fun e => (HST6.out.m.1 C e.symm).1.2.1 rfl); have k0 := (blk_cell hbk 0).trans rfl; have k1 := (blk_cell hbk 1).trans rfl; obtain ⟨k2, k3, _, _⟩ := HL.out _ hb'))
          go_wp2_with fail
          go_roundw
          case rel => exact ⟨k + 1, by go_num, hlt, Lib.hid (by rw [take_inl hlt]; exact ho), Lib.hid hb'⟩
          case measure => simp [intOf]; omega
    · have d1 : decide (k < cs.length) = false := decide_eq_false hlt
      go_wp2_with fail
      obtain ⟨wo, rfl⟩ : ∃ wo : World, wo = wr := ⟨_, rfl⟩
      go_loopw [3, 7] (fun v i wr => ∃ (j : Nat), i = .int .i64 j ∧ j ≤ 64 ∧ Hid (gK.R 36 wr w.heap.size (fun k => w.heap.size ≤ k) v (cs.map .inl ++ List.replicate j exS)) ∧ Hid (Below w.heap.size w wr)) (fun _ i _ => 64 - (intOf i).toNat)
      case atStart => exact ⟨0, rfl, by omega, Lib.hid (by have := hO.out; rw [List.take_of_length_le (by omega)] at this; simpa using this), hB⟩
      case round =>
        clear hO hB
        obtain ⟨j, rfl, hj, hO, hB⟩ := hrel
        by_cases h64 : j < 64
        · have d2 : decide ((j : Int) < 64) = true := decide_eq_true (by omega)
          have hR : Hid (gK.M (wr.alloc (.cells #[.int .i64 (-68)] 3)) w.heap.size (fun b => wr.heap.size ≤ b) exS [.slice (some ⟨wr.heap.size, 0, none⟩) 1 1, .slice none 0 0]) := Lib.hid
            ⟨[_], [_], rfl, ⟨_, rfl, Kd.R_of_own (xs := [-68]) (World.ownsRow_lit wr #[.int .i64 (-68)] 1 hB.out.size (by decide) rfl) (fun b hb => by simp [Value.ownBlock] at hb; omega)⟩, ⟨_, rfl, Kd.R_nil _ _ _ _ _⟩⟩
          go_wp2_with (at_builtin; refine Kd.R_append gK (w0 := w) w.heap.size rfl (.tmp 72) (.tmp 75) 22 36 (.agg #[.slice none 0 0, .slice none 0 0]) 48 rfl Tryd.underlying22 caseInfo rfl (by decide) (by decide) _ (cs.map .inl ++ List.replicate j exS) exS [.slice (some ⟨wr.heap.size, 0, none⟩) 1 1, .slice none 0 0] (fun b => w.heap.size ≤ b) (fun b => wr.heap.size ≤ b) rfl (by simp only [World.size_alloc]; rfl) hR.out ?hk ?hf (Kd.R_alloc hO.out _) (hB.out.alloc hB.out.size _) (by simp; have := hB.out.size; omega) (by simp; omega) ?_; (case hf => exact fun b hk => Nat.le_trans (by have := hB.out.size; simp; omega) hk); (case hk => exact fun b hk => ⟨Nat.le_trans hB.out.size hk, fun e => by have := Kd.R_lt hO.out b e.symm; omega⟩); intro v' w8 ho hb' hg' hat)
          go_roundw
          case rel => exact ⟨j + 1, by go_num, by omega, Lib.hid (by rw [List.replicate_succ', ← List.append_assoc]; exact ho), Lib.hid hb'⟩
          case measure => simp [intOf]; omega
        · have d2 : decide ((j : Int) < 64) = false := decide_eq_false (by omega)
          obtain rfl : j = 64 := by omega
          obtain ⟨g, cap, rfl, _⟩ := Kd.R_form hO.out (by simp)
          have hcap := (Kd.R_reads' hO.out).2.1
          simp only [List.length_append, List.length_map, List.length_replicate] at hcap hO
          have hcl : cs.length ≤ cap := by omega
          clear hcap
          go_wp2_with fail
          go_ret
          exact ⟨⟨g, cap, rfl, hO.out⟩, hB.out⟩
end Go.Proofs.YtpgaimpppehpcabDoor
