/- testfile.Parse: the walk. testfile.Parse: the walk. -/
import Derived.Test.YtliimcemjjhmaacGreatDoorTpFam
import Derived.Test.YtliimcemjjhmaacGreatDoorTpRd
import Derived.Test.YtliimcemjjhmaacGreatDoorTpPl
import Derived.Test.YtliimcemjjhmaacGreatDoorTpAs
namespace Go.Proofs.YtliimcemjjhmaacGreatDoor
section
open Go.RowKit Go.Proofs.YtliimcemjjhmaacGreatDoorW.PrintWords Go.Proofs.YtliimcemjjhmaacGreatDoor.PTestShort

abbrev ErrT (W : World) : Prop := W.cell? ⟨2, 0, none⟩ = some (.iface 91 (.agg #[.pointer (some ⟨10, 25, none⟩)]))
theorem caseInfo : (Tryz.prog.info? 34).map (fun i => (i.zero, i.size, i.bytes)) = some (some (.agg #[.slice none 0 0, .slice none 0 0]), 2, 48) := by kernel_rfl

def ParsePost (a : Nat → Addr) (t : Bs) (w : World) (e : Ending) (w' : World) : Prop :=
  ∃ v hs, e = .returned (.tuple #[v, .int .i64 (parseOut t).2.1, errV a (parseOut t).2.2.toNat]) ∧ CasesOwn w' w.heap.size v hs (parseOut t).1 ∧ Below w.heap.size w w'
theorem ParsePost.of {a : Nat → Addr} {t : Bs} {w w' : World} {v : Value} {hs : List Hd} {cs : List S34} {n : Int} {k : Nat} {u : Value} (h : parseOut t = (cs, n, (k : Int))) (hu : u = errV a k) (hc : CasesOwn w' w.heap.size v hs cs) (hb : Below w.heap.size w w') : ParsePost a t w (.returned (.tuple #[v, .int .i64 n, u])) w' := by
  subst hu
  unfold ParsePost
  rw [h]
  exact ⟨v, hs, rfl, hc, hb⟩
theorem ParsePost.err {a : Nat → Addr} {t : Bs} {w w' : World} {n : Int} {k : Nat} {u : Value} (h : parseOut t = ([], n, (k : Int))) (hu : u = errV a k) (hb : Below w.heap.size w w') : ParsePost a t w (.returned (.tuple #[.slice none 0 0, .int .i64 n, u])) w' :=
  ParsePost.of h hu (CasesOwn.nil _ _) hb

theorem fileL_one (l : Bs) (acc : List S34) (n : Int) : fileL [l] acc n = fileL (l :: linesB [] []) acc n := by
  have e : ∀ acc n, fileL (linesB [] []) acc n = fileL [] acc n := fun acc n => fileL_end acc n
  simp only [fileL, e]
/-- The line that is read next, and what stays. -/
theorem lines_next {s : Bs} {acc : List S34} {n : Int} : fileL (linesB s []) acc n = fileL ((if (10 : UInt8) ∈ s then dropCR (s.takeWhile (· != 10)) else s) :: linesB (s.dropWhile (· != 10)).tail []) acc n := by
  rw [linesB_cut s []]
  by_cases h : (10 : UInt8) ∈ s
  · rw [if_pos h, if_pos h, List.nil_append]
  · rw [if_neg h, if_neg h, dropWhile_none h, List.nil_append]; exact fileL_one _ _ _
theorem file_skip {x : Bs} {r : List Bs} {acc : List S34} {n : Int} (h : wordsLn x = []) : fileL (x :: r) acc n = fileL r acc (n + 1) := by rw [fileL, if_pos h]
theorem file_text {x : Bs} {r : List Bs} {acc : List S34} {n : Int} (h : wordsLn x ≠ []) (h2 : saidW (wordsLn x) false [] [] = none) : fileL (x :: r) acc n = ([], n, ((2 : Nat) : Int)) := by rw [fileL, if_neg h, h2]; rfl
theorem file_arg {x : Bs} {r : List Bs} {acc : List S34} {n : Int} {pb : List Int × List Int} (h : wordsLn x ≠ []) (h2 : saidW (wordsLn x) false [] [] = some pb) (h3 : ¬ pb.1.all scalarB = true) : fileL (x :: r) acc n = ([], n, ((1 : Nat) : Int)) := by
  rw [fileL, if_neg h, h2]; simp only [h3]; rfl
theorem file_many {x : Bs} {r : List Bs} {acc : List S34} {n : Int} {pb : List Int × List Int} (h : wordsLn x ≠ []) (h2 : saidW (wordsLn x) false [] [] = some pb) (h3 : pb.1.all scalarB = true) (h4 : 20000 ≤ acc.length) : fileL (x :: r) acc n = ([], n, ((3 : Nat) : Int)) := by
  rw [fileL, if_neg h, h2]; simp only [h3, if_true]; rw [if_pos h4]; rfl
theorem file_ok {x : Bs} {r : List Bs} {acc : List S34} {n : Int} {pb : List Int × List Int} (h : wordsLn x ≠ []) (h2 : saidW (wordsLn x) false [] [] = some pb) (h3 : pb.1.all scalarB = true) (h4 : ¬ 20000 ≤ acc.length) : fileL (x :: r) acc n = fileL r (acc ++ [⟨pb.1, pb.2⟩]) (n + 1) := by
  rw [fileL, if_neg h, h2]; simp only [h3, if_true]; rw [if_neg h4]

/-- A case of rows made since: behind the others. -/
theorem CasesOwn.fam_more {W0 W : World} {base : Nat} {v : Value} {hs : List Hd} {cs : List S34} {v1 v2 : Value} {c : S34} (h : CasesOwn W0 base v hs cs) (hb : Below W0.heap.size W0 W) (hw : base ≤ W0.heap.size)
    (r1 : iK.R 3 W W0.heap.size (fun k => W0.heap.size ≤ k ∧ some k ≠ v2.ownBlock) v1 c.f0) (r2 : iK.R 3 W W0.heap.size (fun k => W0.heap.size ≤ k ∧ some k ≠ v1.ownBlock) v2 c.f1) : Fam W base (flatR (hs ++ [(v1, v2)]) (cs ++ [c])) := by
  rw [flatR_app h.len]
  refine Fam.new h.fam hb ⟨fun p hp => ?_, ?_⟩ hw
  · simp only [flatR, List.mem_cons, List.mem_nil_iff, or_false] at hp
    rcases hp with rfl | rfl
    · exact iK_self r1
    · exact iK_self r2
  · simp only [flatR]
    refine List.pairwise_cons.2 ⟨fun q hq k hk => ?_, List.pairwise_singleton _ _⟩
    simp only [List.mem_singleton] at hq
    subst hq
    exact (r1.1 k hk.symm).2
theorem CasesOwn.appended {W0 W w1 : World} {base : Nat} {v v' : Value} {hs : List Hd} {cs : List S34} {h2 : Hd} {c : S34} (h : CasesOwn W0 base v hs cs) (hb : Below W0.heap.size W0 W) (hf : Fam W base (flatR (hs ++ [h2]) (cs ++ [c])))
    (hr : (rK 2).R 34 w1 base (fun _ => True) v' (hs.map hdV ++ [hdV h2])) (hg : W.grownBy w1 v.ownBlock) : CasesOwn w1 base v' (hs ++ [h2]) (cs ++ [c]) := by
  refine ⟨by rw [List.map_append]; exact ⟨fun _ hk => hk.symm, (hr.2).imp_ (fun _ _ hp => hp)⟩, by simp [h.len], ?_⟩
  refine hf.keptBy (Kept.of_grown (w := W) hg (Kept.refl _ (fun k => v.ownBlock = some k)) (fun k hk => .inl hk)) (fun k hk e => ?_)
  obtain ⟨c1, h1⟩ := hf.typed hk
  obtain ⟨c3, h3⟩ := Kd.R_typed (Kd.R_below h.row hb) k e
  rw [h1] at h3
  injection h3 with h3
  injection h3 with _ h3
  exact absurd h3 (by decide)
end

section
open Go.RowKit Go.Proofs.YtliimcemjjhmaacGreatDoorW.PrintWords Go.Proofs.YtliimcemjjhmaacGreatDoor.PTestShort

theorem as_set (v : Value) (hv : v.oneCell' = true) (t : Addr) (old : Value) (w : World) (hg : ErrT w) (ht0 : w.cell? t = some old) (hf0 : w.frozen? t = false) :
    Calls Tryz.prog 11 #[.iface 41 (.agg #[v]), .iface 43 (.pointer (some t))] w fun ev w' => ev = .returned (.bool true) ∧ w'.cell? t = some v ∧ Below t.block w w' := by
  refine (as_hit v hv t old w hg ht0 hf0).mono fun ev w' ⟨h1, h2⟩ => ⟨h1, ?_, ?_⟩
  · have htl : t.block < w.heap.size := World.block_lt_of_cell? w _ ht0
    obtain ⟨x, hx⟩ : ∃ x, ((((w.alloc (.cells #[.pointer (some t)] 43)).alloc (.cells #[.pointer (some ⟨10, 43, none⟩), .pointer (some ⟨w.heap.size, 0, none⟩), .int .u64 150] 61)).alloc (.cells #[.pointer (some ⟨10, 43, none⟩), .pointer (some ⟨w.heap.size, 0, none⟩), .int .u64 150] 61)).alloc (.cells #[v] 41)).cell? t = some x :=
      ⟨old, by rw [World.cell?_alloc_lt _ _ t (by simp; omega), World.cell?_alloc_lt _ _ t (by simp; omega), World.cell?_alloc_lt _ _ t (by simp; omega), World.cell?_alloc_lt _ _ t htl]; exact ht0⟩
    rw [h2]
    exact World.cell?_setCell_same _ _ _ hx
  · have htl : t.block ≤ w.heap.size := Nat.le_of_lt (World.block_lt_of_cell? w _ ht0)
    rw [h2]
    exact ((((Below.refl _ _).alloc htl _).alloc (by simp; omega) _).alloc (by simp; omega) _ |>.alloc (by simp; omega) _).setCell (Nat.le_refl _) _
theorem errT_below {w w' : World} (h : ErrT w) (hb : Below w.heap.size w w') : ErrT w' := (hb.cell (World.block_lt_of_cell? w _ h)).trans h
theorem errF1 (a : Nat → Addr) : errF a 1 = .iface 41 (.agg #[.iface 130 (.pointer (some (a 1)))]) := rfl

set_option maxHeartbeats 16000000 in
set_option maxRecDepth 100000 in
theorem Parse_any (a : Nat → Addr) (t : ByteArray) (w : World) (hs : Sent a w) (he : ErrT w) :
    Calls Tryz.prog 5 #[.string t] w (ParsePost a (toB t) w) := by
  have HS := Lib.hid hs
  have HE := Lib.hid he
  clear hs he
  by_cases hbig : 1048576 < t.size
  · have d0 : decide (1048576 < (t.size : Int)) = true := decide_eq_true (by omega)
    have HF : Hid (parseOut (toB t) = ([], 0, ((3 : Nat) : Int))) := Lib.hid (by unfold parseOut; rw [if_pos (by rw [len_str]; omega)]; rfl)
    have hg3 : w.cell? ⟨0, 0, none⟩ = some (.iface 130 (.pointer (some (a 3)))) := HS.out.cell 3 (by decide)
    clear hbig
    go_enter Tryz.func5, Tryz.ntmps5
    go_wp2_with fail
    go_quiet (fail)
    go_wp2_with fail
    go_ret3
    exact ParsePost.err HF.out rfl (below_of_drewN _ _ _)
  · have d0 : decide (1048576 < (t.size : Int)) = false := decide_eq_false (by omega)
    have hts : t.size ≤ 1048576 := by omega
    have HF0 : Hid (fileL (linesB (toB t) []) [] 1 = parseOut (toB t)) := Lib.hid (by unfold parseOut; rw [if_neg (by rw [len_str]; omega)])
    clear hbig
    go_enter Tryz.func5, Tryz.ntmps5
    go_wp2_with fail
    go_loopw [0, 5, 6] (fun tx o n wr => ∃ (s : ByteArray) (hs : List Hd) (cs : List S34) (k : Nat), tx = .string s ∧ n = .int .i64 k ∧ k + s.size ≤ 1048577 ∧ s.size ≤ 1048576 ∧ cs.length ≤ 20000 ∧ Hid (CasesOwn wr w.heap.size o hs cs) ∧ Hid (Below w.heap.size w wr) ∧ Hid (fileL (linesB (toB s) []) cs k = parseOut (toB t))) (fun tx _ _ _ => match tx with | .string s => s.size | _ => 0)
    case atStart => exact ⟨t, [], [], 1, rfl, rfl, by omega, hts, by simp, Lib.hid (CasesOwn.nil _ _), Lib.hid (Below.refl _ _), HF0⟩
    case round =>
      obtain ⟨s, hs, cs, k, rfl, rfl, hk, hss, hcl, HC, HB, HF⟩ := hrel
      clear HF0 hts d0
      obtain ⟨A0, c0, rfl⟩ := HC.out.form
      rcases Nat.eq_zero_or_pos s.size with h0 | h0
      · have hn : s.toList = [] := str_nil h0
        have HP : Hid (parseOut (toB t) = (cs, 0, ((0 : Nat) : Int))) := Lib.hid (by rw [← HF.out, show toB s = [] from List.length_eq_zero_iff.1 (by rw [len_str]; exact h0)]; exact fileL_end _ _)
        clear h0
        go_wp2_with fail
        go_ret3
        exact ParsePost.of HP.out rfl HC.out HB.out
      · have hn : s.toList.isEmpty = false := str_emp h0
        have hCut := fun W => cut_any s 10 W (by omega)
        have HCut := Lib.hid hCut
        clear hCut
        have hlt : ∀ y : ByteArray, toB y = ((toB s).dropWhile (· != 10)).tail → y.size < s.size := fun y hy => by
          have h1 := congrArg List.length hy
          have h2 : ((toB s).dropWhile (· != 10)).length ≤ (toB s).length := (List.dropWhile_sublist _).length_le
          rw [List.length_tail, len_str] at h1
          rw [len_str] at h2
          omega
        have HLT := Lib.hid hlt
        clear hlt
        have hmem : Hid ((10 : UInt8) ∈ toB s) ∨ Hid ((10 : UInt8) ∉ toB s) := by
          by_cases hm : (10 : UInt8) ∈ toB s
          · exact .inl (Lib.hid hm)
          · exact .inr (Lib.hid hm)
        rcases hmem with HM | HM
        all_goals first
          | (have hmb : memB 10 (toB s) = true := decide_eq_true HM.out
             go_upto_region 11 with (first | (go_at_call 8; refine (HCut.out _).mono ?_; rintro e w1 ⟨⟨n, rfl⟩, x, y, rfl, hx, hy⟩; rw [hmb]; have HX := Lib.hid hx; have HY := Lib.hid hy; have hys := (HLT.out y hy); have hxs : x.size ≤ 1048576 := (by have h1 : (toB x).length ≤ (toB s).length := (by rw [show toB x = _ from hx]; exact (List.takeWhile_sublist _).length_le); rw [len_str, len_str] at h1; omega); clear hx hy) | (go_at_call 9; refine (trim_any _ hxs _).mono ?_; rintro e w2 ⟨⟨x2, rfl, hx2⟩, hb2⟩; have HX2 := Lib.hid hx2; have HB2 := Lib.hid hb2; clear hx2 hb2))
             have HFX : Hid (fileL (toB x2 :: linesB (toB y) []) cs k = parseOut (toB t)) := Lib.hid (by rw [← HF.out, lines_next, if_pos HM.out, HX2.out, show toB x = _ from HX.out, show toB y = _ from HY.out])
             have hxs2 : x2.size ≤ 1048576 := (by have h1 := dropCR_len (toB x); rw [← HX2.out, len_str, len_str] at h1; omega)
             have HCX : Hid (CasesOwn w2 w.heap.size (.slice A0 cs.length c0) hs cs) := Lib.hid (HC.out.below (below_step (below_of_drewN wr n _) HB2.out))
             have HBX : Hid (Below w.heap.size w w2) := Lib.hid (below_step HB.out (below_step (below_of_drewN wr n _) HB2.out))
             obtain ⟨xl, rfl⟩ : ∃ z, z = x2 := ⟨_, rfl⟩
             obtain ⟨X, rfl⟩ : ∃ z, z = w2 := ⟨_, rfl⟩
             clear HB2 HX2 HX HY hxs)
          | (have hmb : memB 10 (toB s) = false := decide_eq_false HM.out
             go_upto_region 11 with (go_at_call 8; refine (HCut.out _).mono ?_; rintro e w1 ⟨⟨n, rfl⟩, x, y, rfl, hx, hy⟩; rw [hmb]; have HX := Lib.hid hx; have HY := Lib.hid hy; have hys := (HLT.out y hy); have hxs : x.size ≤ 1048576 := (by have h1 : (toB x).length ≤ (toB s).length := (by rw [show toB x = _ from hx]; exact (List.takeWhile_sublist _).length_le); rw [len_str, len_str] at h1; omega); clear hx hy)
             have HFX : Hid (fileL (toB x :: linesB (toB y) []) cs k = parseOut (toB t)) := Lib.hid (by rw [← HF.out, lines_next, if_neg HM.out, show toB x = _ from HX.out, show toB y = _ from HY.out, takeWhile_all HM.out])
             have hxs2 := hxs
             have HCX : Hid (CasesOwn (wr.drewN n) w.heap.size (.slice A0 cs.length c0) hs cs) := Lib.hid (HC.out.below (below_of_drewN wr n _))
             have HBX : Hid (Below w.heap.size w (wr.drewN n)) := Lib.hid (below_step HB.out (below_of_drewN wr n _))
             obtain ⟨xl, rfl⟩ : ∃ z, z = x := ⟨_, rfl⟩
             obtain ⟨X, hX⟩ : ∃ z, z = wr.drewN n := ⟨_, rfl⟩
             rw [← hX] at HCX HBX ⊢
             clear hX HX HY hxs)
        all_goals
          clear HM hmb HCut HLT HF HC HB
          have HSX := Lib.hid (HS.out.below HBX.out)
          by_cases hw : wordsLn (toB xl) = []
          · have HW := Lib.hid hw
            have HN : Hid (fileL (linesB (toB y) []) cs ((k + 1 : Nat) : Int) = parseOut (toB t)) := Lib.hid (by rw [← HFX.out, file_skip hw]; rfl)
            clear hw
            go_wp2_with (first | (go_at_call 10; refine (read_any a xl X hxs2 HSX.out).mono ?_; rintro e w3 hR; obtain rfl := hR.none_ HW.out; have HB3 := Lib.hid hR.below; clear hR) | (go_at_call 11; refine (as_nil _ _).mono ?_; rintro e w4 ⟨rfl, rfl⟩))
            have HB4 := Lib.hid ((HB3.out.alloc HB3.out.size (.cells #[.slice none 0 0, .slice none 0 0] 34)).alloc (by have := HB3.out.size; simp; omega) (.cells #[.nilIface] 41))
            go_roundw
            case rel => exact ⟨y, hs, cs, k + 1, rfl, by go_num, by omega, by omega, hcl, Lib.hid (HCX.out.below HB4.out), Lib.hid (below_step HBX.out HB4.out), HN⟩
            case measure => exact hys
          · have HW := Lib.hid hw
            clear hw
            rcases hsd : saidW (wordsLn (toB xl)) false [] [] with _ | pb
            · have HSD := Lib.hid hsd
              clear hsd
              have HP : Hid (parseOut (toB t) = ([], (k : Int), ((2 : Nat) : Int))) := Lib.hid (by rw [← HFX.out]; exact file_text HW.out HSD.out)
              go_wp2_with (first | (go_at_call 10; refine (read_any a xl X hxs2 HSX.out).mono ?_; rintro e w3 hR; have hR2 := hR.text HW.out HSD.out; rw [errF2] at hR2; subst hR2; have HB3 := Lib.hid hR.below; clear hR) | (go_at_call 11; refine (as_set _ rfl _ .nilIface _ ?_ ?_ ?_).mono ?_; (· exact errT_below HE.out ((HBX.out.trans (HB3.out.mono (by have := HBX.out.size; omega)) |>.alloc (by have := HBX.out.size; have := HB3.out.size; omega) _).alloc (by have := HBX.out.size; have := HB3.out.size; simp; omega) _)); (· simp); (· simp); rintro e w4 ⟨rfl, hc4, hb4⟩; have HC4 := Lib.hid hc4; have HB4 := Lib.hid ((Go.Proofs.YtliimcemjjhmaacGreatDoorW.PrintWords.below_weaken ((HBX.out.trans (HB3.out.mono (by have := HBX.out.size; omega)) |>.alloc (by have := HBX.out.size; have := HB3.out.size; omega) _).alloc (by have := HBX.out.size; have := HB3.out.size; simp; omega) _) (by have := HBX.out.size; have := HB3.out.size; simp; omega) hb4)); clear hb4))
              go_quiet (fail)
              go_wp2_with fail
              go_ret3
              exact ParsePost.err HP.out rfl (below_drewN HB4.out _)
            · have HSD := Lib.hid hsd
              clear hsd
              by_cases hsc : pb.1.all scalarB = true
              · have HSC := Lib.hid hsc
                clear hsc
                by_cases hm : 20000 ≤ cs.length
                · have HM := Lib.hid hm
                  clear hm
                  have HP : Hid (parseOut (toB t) = ([], (k : Int), ((3 : Nat) : Int))) := Lib.hid (by rw [← HFX.out]; exact file_many HW.out HSD.out HSC.out HM.out)
                  have hq : ((cs.length : Int) == 20000) = true := beqI_true (by have := HM.out; omega)
                  go_wp2_with (first | (go_at_call 10; refine (read_any a xl X hxs2 HSX.out).mono ?_; rintro e w3 hR; obtain ⟨v1, v2, rfl, hr1, hr2⟩ := hR.case_ HW.out pb HSD.out HSC.out; have HB3 := Lib.hid hR.below; have HR1 := Lib.hid hr1; have HR2 := Lib.hid hr2; clear hR hr1 hr2; obtain ⟨A1, c1, rfl⟩ := Kd.R_slice HR1.out; obtain ⟨A2, c2, rfl⟩ := Kd.R_slice HR2.out; have hg3 : (w3.alloc (.cells #[.slice A1 pb.1.length c1, .slice A2 pb.2.length c2] 34)).cell? ⟨0, 0, none⟩ = some (.iface 130 (.pointer (some (a 3)))) := alloc_cell ((HSX.out.below HB3.out).cell 3 (by decide)) _) | (go_at_call 11; refine (as_set _ rfl _ .nilIface _ ?_ ?_ ?_).mono ?_; (· exact errT_below HE.out (((HBX.out.trans (HB3.out.mono (by have := HBX.out.size; omega)) |>.alloc (by have := HBX.out.size; have := HB3.out.size; omega) _)).alloc (by have := HBX.out.size; have := HB3.out.size; simp; omega) _)); (· simp); (· simp); rintro e w4 ⟨rfl, hc4, hb4⟩; have HC4 := Lib.hid hc4; have HB4 := Lib.hid ((Go.Proofs.YtliimcemjjhmaacGreatDoorW.PrintWords.below_weaken (((HBX.out.trans (HB3.out.mono (by have := HBX.out.size; omega)) |>.alloc (by have := HBX.out.size; have := HB3.out.size; omega) _)).alloc (by have := HBX.out.size; have := HB3.out.size; simp; omega) _) (by have := HBX.out.size; have := HB3.out.size; simp; omega) hb4)); clear hb4))
                  go_quiet (fail)
                  go_wp2_with fail
                  go_ret3
                  exact ParsePost.err HP.out rfl (below_drewN HB4.out _)
                · have HM := Lib.hid hm
                  clear hm
                  have HN : Hid (fileL (linesB (toB y) []) (cs ++ [⟨pb.1, pb.2⟩]) ((k + 1 : Nat) : Int) = parseOut (toB t)) := Lib.hid (by rw [← HFX.out, file_ok HW.out HSD.out HSC.out HM.out]; rfl)
                  have hq : ((cs.length : Int) == 20000) = false := beqI_false (by have := HM.out; omega)
                  have hcl2 : cs.length < 20000 := by have := HM.out; omega
                  go_wp2_with (first | (go_at_call 10; refine (read_any a xl X hxs2 HSX.out).mono ?_; rintro e w3 hR; obtain ⟨v1, v2, rfl, hr1, hr2⟩ := hR.case_ HW.out pb HSD.out HSC.out; have HB3 := Lib.hid hR.below; have HR1 := Lib.hid hr1; have HR2 := Lib.hid hr2; clear hR hr1 hr2; obtain ⟨A1, c1, rfl⟩ := Kd.R_slice HR1.out; obtain ⟨A2, c2, rfl⟩ := Kd.R_slice HR2.out; have HB4 : Hid (Below X.heap.size X ((w3.alloc (.cells #[.slice A1 pb.1.length c1, .slice A2 pb.2.length c2] 34)).alloc (.cells #[.nilIface] 41))) := Lib.hid ((HB3.out.alloc HB3.out.size _).alloc (by have := HB3.out.size; simp; omega) _); have HFM : Hid (Fam ((w3.alloc (.cells #[.slice A1 pb.1.length c1, .slice A2 pb.2.length c2] 34)).alloc (.cells #[.nilIface] 41)) w.heap.size (flatR (hs ++ [(.slice A1 pb.1.length c1, .slice A2 pb.2.length c2)]) (cs ++ [⟨pb.1, pb.2⟩]))) := Lib.hid (HCX.out.fam_more HB4.out HBX.out.size (Kd.R_alloc (Kd.R_alloc HR1.out _) _) (Kd.R_alloc (Kd.R_alloc HR2.out _) _))) | (go_at_call 11; refine (as_nil _ _).mono ?_; rintro e w4 ⟨rfl, rfl⟩) | (at_builtin; refine Kd.R_append (rK 2) (w0 := w) w.heap.size rfl (.tmp 58) (.tmp 60) 23 34 (.agg #[.slice none 0 0, .slice none 0 0]) 48 rfl Tryz.underlying23 caseInfo rfl (by decide) (by decide) (.slice A0 cs.length c0) (hs.map hdV) (hdV (.slice A1 pb.1.length c1, .slice A2 pb.2.length c2)) [.slice A1 pb.1.length c1, .slice A2 pb.2.length c2] (fun _ => True) (fun _ => False) rfl (by rw [World.size_alloc, World.size_alloc]; rfl) ?aP (fun _ hk => hk.elim) (fun _ _ => trivial) (Kd.R_mono (Kd.R_below HCX.out.row HB4.out) (fun _ _ => trivial)) (below_step HBX.out HB4.out) (below_step HBX.out HB4.out).size (by rw [List.length_map, HCX.out.len]; omega) ?_; (case aP => exact ⟨rfl, rfl, fun u hu => by simp at hu; rcases hu with rfl | rfl <;> rfl⟩); intro v' w13 ho hb' hg' hat; have HCN := Lib.hid (HCX.out.appended HB4.out HFM.out ho hg'); have HBN := Lib.hid hb'; clear ho hb' hg' hat))
                  go_roundw
                  case rel => exact ⟨y, hs ++ [_], cs ++ [⟨pb.1, pb.2⟩], k + 1, rfl, by go_num, by omega, by omega, by simp; omega, HCN, HBN, HN⟩
                  case measure => exact hys
              · have HSC := Lib.hid hsc
                clear hsc
                have HP : Hid (parseOut (toB t) = ([], (k : Int), ((1 : Nat) : Int))) := Lib.hid (by rw [← HFX.out]; exact file_arg HW.out HSD.out HSC.out)
                go_wp2_with (first | (go_at_call 10; refine (read_any a xl X hxs2 HSX.out).mono ?_; rintro e w3 hR; have hR2 := hR.arg HW.out pb HSD.out HSC.out; rw [errF1] at hR2; subst hR2; have HB3 := Lib.hid hR.below; clear hR) | (go_at_call 11; refine (as_set _ rfl _ .nilIface _ ?_ ?_ ?_).mono ?_; (· exact errT_below HE.out ((HBX.out.trans (HB3.out.mono (by have := HBX.out.size; omega)) |>.alloc (by have := HBX.out.size; have := HB3.out.size; omega) _).alloc (by have := HBX.out.size; have := HB3.out.size; simp; omega) _)); (· simp); (· simp); rintro e w4 ⟨rfl, hc4, hb4⟩; have HC4 := Lib.hid hc4; have HB4 := Lib.hid ((Go.Proofs.YtliimcemjjhmaacGreatDoorW.PrintWords.below_weaken ((HBX.out.trans (HB3.out.mono (by have := HBX.out.size; omega)) |>.alloc (by have := HBX.out.size; have := HB3.out.size; omega) _).alloc (by have := HBX.out.size; have := HB3.out.size; simp; omega) _) (by have := HBX.out.size; have := HB3.out.size; simp; omega) hb4)); clear hb4))
                go_quiet (fail)
                go_wp2_with fail
                go_ret3
                exact ParsePost.err HP.out rfl (below_drewN HB4.out _)
end
end Go.Proofs.YtliimcemjjhmaacGreatDoor
