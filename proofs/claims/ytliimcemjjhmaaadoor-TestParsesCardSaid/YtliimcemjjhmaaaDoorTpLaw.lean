/- caesuralaw23.TestParses: the walk. -/
import Derived.Test.YtliimcemjjhmaaaDoorTpLw
namespace Go.Proofs.YtliimcemjjhmaaaDoor
open Go.RowKit Go.Proofs.YtliimcemjjhmaaaDoorW.PrintWords Go.Proofs.YtliimcemjjhmaaaDoor.PTestParses

theorem lists_n {n : Nat} (A : Option Addr) (c : Nat) (hs : List Hd) (w : World) (hn : hs.length = n) (hl : n ≤ 20000) (hA : HdsAt w A hs) :
    Calls Tryd.prog 8 #[.slice A n c] w fun e w' => (∃ v, e = .returned v ∧ (rK 1).R 38 w' w.heap.size (fun _ => True) v (flatV hs)) ∧ Below w.heap.size w w' := by
  subst hn; exact lists_any A c hs w hl hA
theorem apart_n {n m : Nat} (w0 w : World) (c : Nat) (A : Option Addr) (v : Nat → Value) (x : Nat → List Int) (hm : m = n) (hn : n ≤ 100000) (hx : ∀ j, j < n → (x j).length ≤ 2097152) (hS : ApSt w0 w w n (.slice A n c) v x) :
    Calls Tryd.prog 9 #[.slice A m c] w fun e w' => e = .returned (.bool true) ∧ Below w0.heap.size w0 w' ∧ Kept w w' (InI n v) := by
  subst hm; exact apart_any w0 w m c A v x hn hx hS
theorem outer_n {n m : Nat} (w0 w : World) (A1 A2 : Option Addr) (c1 c2 : Nat) (ls ms : List (List Value)) (hn : ls.length = n) (hm : ms.length = m) (h1 : n ≤ 20000) (h2 : m ≤ 20000)
    (hl : (rK 2).R 40 w w0.heap.size (fun k => some k = (Value.slice A1 n c1).ownBlock) (.slice A1 n c1) ls) (hr : (rK 2).R 40 w w0.heap.size (fun k => some k = (Value.slice A2 m c2).ownBlock) (.slice A2 m c2) ms)
    (ha : ∀ k, some k = (Value.slice A1 n c1).ownBlock → some k ≠ (Value.slice A2 m c2).ownBlock) (hb : Below w0.heap.size w0 w) :
    Calls Tryd.prog 10 #[.slice A1 n c1, .slice A2 m c2] w fun e w' => e = .returned (.bool true) ∧ Below w0.heap.size w0 w' ∧ Kept w w' (fun k => some k = (Value.slice A1 n c1).ownBlock ∨ some k = (Value.slice A2 m c2).ownBlock) := by
  subst hn hm; exact outer_any w0 w A1 A2 c1 c2 ls ms h1 h2 (OuSt.start hl hr ha hb)
theorem case_kept {X Y : World} {base b n : Nat} {ok : Nat → Prop} {u : Value} {l : List (List Value)} {v : Nat → Value} {x : Nat → List Int} (h : (rK 2).R 40 X base ok u l) (hf : FamI X b n v x) (hk : Kept X Y (InI n v)) : (rK 2).R 40 Y base (fun k => some k = u.ownBlock) u l :=
  Kd.R_kept (raw_self h) hk (fun k e ⟨j, hj, e2⟩ => by
    obtain ⟨c1, h1⟩ := hf.typed hj e2
    obtain ⟨c3, h3⟩ := Kd.R_typed h k e.symm
    rw [h1] at h3
    injection h3 with h3
    injection h3 with _ h3
    exact absurd h3 (by decide))
/-- What was made behind the world's end stays when elder rows are written. -/
theorem late_kept {α : Type} {d : Kd α} {e : Nat} {W X Y : World} {ok S : Nat → Prop} {v : Value} {xs : List α} (h : d.R e X W.heap.size ok v xs) (hk : Kept X Y S) (hS : ∀ k, S k → k < W.heap.size) : d.R e Y W.heap.size ok v xs :=
  Kd.R_mono (Kd.R_kept (Kd.R_bound h) hk (fun k hb hs => by have := hS k hs; have := hb.2.1; omega)) (fun _ hb => hb.1)

set_option maxHeartbeats 16000000 in
set_option maxRecDepth 100000 in
theorem testParses_walk (a : Nat → Addr) (t : ByteArray) (w : World) (hs : Sent a w) (he : ErrT w) :
    Calls Tryd.prog 3 #[.string t] w fun e w' => e = .returned (.bool true) ∧ Below w.heap.size w w' := by
  have HS := Lib.hid hs
  have HE := Lib.hid he
  obtain ⟨cs, line, en, hp, hen, hcl, hlp⟩ := parse_num (toB t)
  have HP := Lib.hid hp
  have HLP := Lib.hid hlp
  have HREF : Hid (caesuraref23_Parse.f 6000000 t = some (cs, line, ((en : Nat) : Int))) := Lib.hid (by rw [parse_f, hp])
  clear hs he hp hlp
  go_enter Tryd.func3, Tryd.ntmps3
  go_upto_region 2 with (go_at_call 4; refine (Parse_any a t w HS.out HE.out).mono ?_; intro e w1 hp; obtain ⟨A1, c1, hs1, rfl, hc, hb⟩ := Parse_is HP.out hp; have HC1 := Lib.hid hc; have HB1 := Lib.hid hb; clear hp hc hb)
  go_upto_region 3 with (go_at_call 4; refine (Parse_any a t w1 (HS.out.below HB1.out) (errT_below HE.out HB1.out)).mono ?_; intro e w2 hp; obtain ⟨A2, c2, hs2, rfl, hc, hb⟩ := Parse_is HP.out hp; have HC2 := Lib.hid hc; have HB2 := Lib.hid hb; clear hp hc hb)
  have HB12 := Lib.hid (below_step HB1.out HB2.out)
  go_upto_region 4 with (go_at_call 5; refine (caesuraref23_Parse.calls 6000000 t cs line _ w2 HREF.out).mono ?_; rintro e w3 ⟨v3, rfl, hm, hb⟩; obtain ⟨A3, c3, rfl⟩ := Kd.R_slice (Kd.S_R hm); have HM := Lib.hid (Kd.S_R hm); have HB3 := Lib.hid hb; clear hm hb)
  have HB13 := Lib.hid (below_step HB12.out HB3.out)
  have HCM := Lib.hid (Kd.R_reads' HM.out)
  go_upto_region 5 with (go_at_call 6; refine (same_any A1 A3 c1 c3 cs w3 hcl HLP.out (Kd.C_below (Kd.C_below HC1.out.reads.2.2 HB2.out) HB3.out) HC1.out.reads.2.1 HCM.out.2.2 HCM.out.2.1).mono ?_; rintro e w4 ⟨rfl, hb⟩; have HB4 := Lib.hid hb; clear hb)
  go_upto_region 6 with (go_at_call 6; refine (same_any A2 A3 c2 c3 cs w4 hcl HLP.out (Kd.C_below (Kd.C_below HC2.out.reads.2.2 HB3.out) HB4.out) HC2.out.reads.2.1 (Kd.C_below HCM.out.2.2 HB4.out) HCM.out.2.1).mono ?_; rintro e w5 ⟨rfl, hb⟩; have HB5 := Lib.hid hb; clear hb)
  have HB35 := Lib.hid (below_step HB4.out HB5.out)
  have HB15 := Lib.hid (below_step HB13.out HB35.out)
  go_upto_region 8 with (go_at_call 7; refine (num_any a en (by omega) w5 (HS.out.below HB15.out)).mono ?_; rintro e w6 ⟨rfl, rfl⟩)
  obtain ⟨w5, rfl⟩ : ∃ z : World, z = w6 := ⟨_, rfl⟩
  have HC15 := Lib.hid (((HC1.out.below HB2.out).below HB3.out).below HB35.out)
  have HC25 := Lib.hid ((HC2.out.below HB3.out).below HB35.out)
  go_upto_region 9 with (first
    | (go_at_call 8; (with_reducible refine (lists_n A1 c1 hs1 w5 HC1.out.len hcl HC15.out.at).mono ?_); rintro e w6 ⟨⟨va, rfl, hr⟩, hb⟩; have HRA := Lib.hid hr; have HB6 := Lib.hid hb; clear hr hb)
    | (go_at_call 8; (with_reducible refine (lists_n A2 c2 hs2 w6 HC2.out.len hcl (HC25.out.below HB6.out).at).mono ?_); rintro e w7 ⟨⟨vb, rfl, hr⟩, hb⟩; obtain ⟨Ab, cb, rfl⟩ := Kd.R_slice hr; have HRB := Lib.hid (Kd.R_reads' hr).2.2; have HB7 := Lib.hid hb; clear hr hb)
    | (at_builtin; refine Kd.R_append_rows (rK 1) (Rr := fun x cs => cs = x ∧ cs.length = 1 ∧ ∀ u ∈ cs, u.oneCell' = true) (w0 := w5) w5.heap.size rfl (.tmp 60) (.tmp 62) 31 38 (.slice none 0 0) 24 rfl Tryd.underlying31 sliceInfo rfl (by decide) (by decide) va (flatV hs1) (flatV hs2) Ab _ cb (fun _ => True) (fun _ => False) rfl rfl (Kd.R_below HRA.out HB7.out) HRB.out (fun _ _ h => h) (fun _ h => h.elim) (fun _ _ => trivial) (below_step HB6.out HB7.out) (below_step HB6.out HB7.out).size (by rw [flatV_len, flatV_len, HC1.out.len, HC2.out.len]; omega) ?_; intro v8 w8 ho hb hg hat; have HR8 := Lib.hid ho; have HB58 := Lib.hid hb; clear ho hb hg hat))
  obtain ⟨A8, c8, rfl⟩ := Kd.R_slice HR8.out
  have HC18 := Lib.hid (HC15.out.below HB58.out)
  have HC28 := Lib.hid (HC25.out.below HB58.out)
  have HM8 := Lib.hid (Kd.R_below (Kd.R_below HM.out HB35.out) HB58.out)
  have HB18 := Lib.hid (below_step HB15.out HB58.out)
  have HFM : Hid (Fam w8 w.heap.size (flatR hs1 cs ++ flatR hs2 cs)) := Lib.hid (Fam.new HC1.out.fam (below_step HB2.out (below_step HB3.out (below_step HB35.out HB58.out))) HC28.out.fam HB1.out.size)
  have hL : (flatR hs1 cs ++ flatR hs2 cs).length = 4 * cs.length := by rw [List.length_append, flatR_len HC1.out.len, flatR_len HC2.out.len]; omega
  have hm8 : (flatV hs1 ++ flatV hs2).length = (flatR hs1 cs ++ flatR hs2 cs).length := by rw [flatV_R hs1 cs HC1.out.len, flatV_R hs2 cs HC2.out.len]; simp
  have HAP : Hid (ApSt w w8 w8 (flatR hs1 cs ++ flatR hs2 cs).length (.slice A8 (flatR hs1 cs ++ flatR hs2 cs).length c8) (vOf (flatR hs1 cs ++ flatR hs2 cs)) (xOf (flatR hs1 cs ++ flatR hs2 cs))) := Lib.hid ⟨famI_of HFM.out, by
    have h := Kd.R_lower (base' := w.heap.size) HR8.out HB15.out.size
    rw [hm8] at h
    rw [hdrs_of, List.map_append, ← flatV_R hs1 cs HC1.out.len, ← flatV_R hs2 cs HC2.out.len]
    exact h, HB18.out, Kept.refl _ _⟩
  have HLX : Hid (∀ p ∈ flatR hs1 cs ++ flatR hs2 cs, p.2.length ≤ 2097152) := Lib.hid (fun p hp => (List.mem_append.1 hp).elim (flatR_lens HLP.out p) (flatR_lens HLP.out p))
  have HLT : Hid (∀ k, InI (flatR hs1 cs ++ flatR hs2 cs).length (vOf (flatR hs1 cs ++ flatR hs2 cs)) k → k < w2.heap.size) := Lib.hid (fun k hk => by
    rcases InFam.app.1 (inI_of hk) with h | h
    · have h1 := (HC1.out.fam.lt h).2; have := HB2.out.size; omega
    · exact (HC2.out.fam.lt h).2)
  have hL4 : (flatR hs1 cs ++ flatR hs2 cs).length ≤ 100000 := by omega
  obtain ⟨m8, hm8e⟩ : ∃ m, m = (flatV hs1 ++ flatV hs2).length := ⟨_, rfl⟩
  rw [← hm8e]
  rw [← hm8e] at hm8
  have HM8l := Lib.hid hm8
  clear hm8e
  generalize flatR hs1 cs ++ flatR hs2 cs = L at *
  clear hL hm8
  have hown1 : ∀ k, some k = (Value.slice A1 cs.length c1).ownBlock → w.heap.size ≤ k ∧ k < w1.heap.size := fun k e => ⟨Kd.R_base HC1.out.row k e.symm, Kd.R_lt HC1.out.row k e.symm⟩
  have hown2 : ∀ k, some k = (Value.slice A2 cs.length c2).ownBlock → w1.heap.size ≤ k ∧ k < w2.heap.size := fun k e => ⟨Kd.R_base HC2.out.row k e.symm, Kd.R_lt HC2.out.row k e.symm⟩
  have HO1 := Lib.hid hown1
  have HO2 := Lib.hid hown2
  clear hown1 hown2
  go_upto_region 11 with (first
    | (go_at_call 9; (with_reducible refine (apart_n w w8 c8 A8 (vOf L) (xOf L) HM8l.out hL4 (xOf_len HLX.out) HAP.out).mono ?_); rintro e w9 ⟨rfl, hb, hk⟩; have HB9 := Lib.hid hb; have HK9 := Lib.hid hk; clear hb hk)
    | (go_at_call 10; (with_reducible refine (outer_n w w9 A1 A2 c1 c2 (hs1.map hdV) (hs2.map hdV) (by rw [List.length_map]; exact HC1.out.len) (by rw [List.length_map]; exact HC2.out.len) hcl hcl (case_kept HC18.out.row HAP.out.fam HK9.out) (Kd.R_lower (case_kept HC28.out.row HAP.out.fam HK9.out) HB1.out.size) (fun k e1 e2 => by have := HO1.out k e1; have := HO2.out k e2; omega) HB9.out).mono ?_); rintro e w10 ⟨rfl, hb, hk⟩; have HB10 := Lib.hid hb; have HK10 := Lib.hid hk; clear hb hk))
  have HM10 := Lib.hid (late_kept (late_kept HM8.out HK9.out HLT.out) HK10.out (fun k hk => by
    rcases hk with e | e
    · have := HO1.out k e; have := HB2.out.size; omega
    · exact (HO2.out k e).2))
  go_upto_region 12 with (go_at_call 4; refine (Parse_any a t w10 (HS.out.below HB10.out) (errT_below HE.out HB10.out)).mono ?_; intro e w11 hp; obtain ⟨A11, c11, hs11, rfl, hc, hb⟩ := Parse_is HP.out hp; have HC11 := Lib.hid hc; have HB11 := Lib.hid hb; clear hp hc hb)
  have HM11 := Lib.hid (Kd.R_reads' (Kd.R_below HM10.out HB11.out)).2
  go_wp2_with (go_at_call 6; refine (same_any A11 A3 c11 c3 cs w11 hcl HLP.out HC11.out.reads.2.2 HC11.out.reads.2.1 HM11.out.2 HM11.out.1).mono ?_; rintro e w12 ⟨rfl, hb⟩; have HB12' := Lib.hid hb; clear hb)
  go_ret
  exact ⟨rfl, below_step (below_step HB10.out HB11.out) HB12'.out⟩
end Go.Proofs.YtliimcemjjhmaaaDoor
