/- testfile.read: the walk. -/
import Derived.Test.YtliimcemjjhmaacGreatDoorTpFf
namespace Go.Proofs.YtliimcemjjhmaacGreatDoor
open Go.RowKit Go.Proofs.YtliimcemjjhmaacGreatDoorW.PrintWords

theorem heap_new (w : World) (o : Obj) : (w.alloc o).heap[w.heap.size]? = some o := by show (w.heap.push _)[w.heap.size]? = _; exact Array.getElem?_push_size
theorem neq_mark (W : World) : (binOp .neq 56 (Value.func (.func 22) #[] #[]) .nilFunc).run Tryz.prog W = .ok (.bool true) W := by kernel_rfl
theorem neq_point (W : World) : (binOp .neq 56 (Value.func (.func 39) #[] #[]) .nilFunc).run Tryz.prog W = .ok (.bool true) W := by kernel_rfl
theorem neq_nil (W : World) : (binOp .neq 56 .nilFunc .nilFunc).run Tryz.prog W = .ok (.bool false) W := by kernel_rfl
theorem errF2 (a : Nat → Addr) : errF a 2 = .iface 41 (.agg #[.iface 130 (.pointer (some (a 2)))]) := rfl
def leftOf (g : Nat) (W : World) : Nat := match W.cell? ⟨g, 0, none⟩ with
  | some (.slice _ n _) => n
  | _ => 0
def tkN : Value → Nat
  | .nilFunc => 0
  | _ => 1
theorem LnSt.left {w X : World} {g h : Nat} {all : List ByteArray} {i : Nat} {v1 v2 : Value} {p b : List Int} {wr : Bool} (H : LnSt w X g h all i v1 v2 p b wr) : leftOf g X = all.length - i := by
  unfold leftOf
  rw [H.cells.1]
/-- Where the reading of a line stands: what is taken next, and that the rest says what the whole says. -/
def TkOk (R : Option (List Int × List Int)) (rest : List Bs) (p b : List Int) (tk : Value) : Prop :=
  (tk = (Value.func (.func 22) #[] #[]) ∧ saidW rest false p b = R) ∨ (tk = (Value.func (.func 39) #[] #[]) ∧ saidW rest true p b = R) ∨ (tk = .nilFunc ∧ R = some (p, b))
structure RdPost (a : Nat → Addr) (l : Bs) (w : World) (e : Ending) (Y : World) : Prop where
  none_ : wordsLn l = [] → e = .returned (.tuple #[.agg #[.slice none 0 0, .slice none 0 0], .bool false, .nilIface])
  text : wordsLn l ≠ [] → saidW (wordsLn l) false [] [] = none → e = .returned (.tuple #[.agg #[.slice none 0 0, .slice none 0 0], .bool true, errF a 2])
  arg : wordsLn l ≠ [] → ∀ pb, saidW (wordsLn l) false [] [] = some pb → ¬ pb.1.all scalarB = true → e = .returned (.tuple #[.agg #[.slice none 0 0, .slice none 0 0], .bool true, errF a 1])
  case_ : wordsLn l ≠ [] → ∀ pb, saidW (wordsLn l) false [] [] = some pb → pb.1.all scalarB = true → ∃ v1 v2, e = .returned (.tuple #[.agg #[v1, v2], .bool true, .nilIface]) ∧
    iK.R 3 Y w.heap.size (fun k => w.heap.size ≤ k ∧ some k ≠ v2.ownBlock) v1 pb.1 ∧ iK.R 3 Y w.heap.size (fun k => w.heap.size ≤ k ∧ some k ≠ v1.ownBlock) v2 pb.2
  below : Below w.heap.size w Y

theorem rb_at {X1 Y : World} {B : Nat} (hY : Below X1.heap.size X1 Y) (hr : X1.heap[B]? = some (.cells #[.slice none 0 0, .slice none 0 0] 34 (0, 0))) (hs : B < X1.heap.size) :
    Y.cell? ⟨B, 0, none⟩ = some (.slice none 0 0) ∧ Y.cell? ⟨B, 1, none⟩ = some (.slice none 0 0) ∧ Y.frozen? ⟨B, 0, none⟩ = false ∧ Y.frozen? ⟨B, 1, none⟩ = false := by
  have h := (hY.block B hs).trans hr
  exact ⟨(blk_cell h 0).trans rfl, (blk_cell h 1).trans rfl, blk_frozen h 0, blk_frozen h 1⟩
theorem rb_put {w X1 Y : World} {B : Nat} (hb : Below w.heap.size w X1) (hY : Below X1.heap.size X1 Y) (hr : X1.heap[B]? = some (.cells #[.slice none 0 0, .slice none 0 0] 34 (0, 0))) (hs : B < X1.heap.size ∧ w.heap.size ≤ B) (u0 u1 : Value) :
    Below w.heap.size w ((Y.setCell ⟨B, 0, none⟩ u0).setCell ⟨B, 1, none⟩ u1) ∧ ((Y.setCell ⟨B, 0, none⟩ u0).setCell ⟨B, 1, none⟩ u1).cell? ⟨B, 0, none⟩ = some u0 ∧ ((Y.setCell ⟨B, 0, none⟩ u0).setCell ⟨B, 1, none⟩ u1).cell? ⟨B, 1, none⟩ = some u1 := by
  have h := (hY.block B hs.1).trans hr
  have h2 : ((Y.setCell ⟨B, 0, none⟩ u0).setCell ⟨B, 1, none⟩ u1).heap[B]? = some (.cells #[u0, u1] 34 (0, 0)) := blk_put (blk_put h 0 u0 rfl) 1 u1 rfl
  exact ⟨below_set (below_set (below_step hb hY) hs.2) hs.2, (blk_cell h2 0).trans rfl, (blk_cell h2 1).trans rfl⟩
theorem bad_mark {w : Bs} {r : List Bs} {p b : List Int} (hy : w ≠ [195, 183]) (hn : w ≠ [195, 151]) : saidW (w :: r) false p b = none := by simp only [saidW]; rw [if_neg hy, if_neg hn]
theorem yes_mark {w : Bs} {r : List Bs} {p b : List Int} (hy : w = [195, 183]) : saidW (w :: r) false p b = saidW r true p (b ++ [(p.length : Int)]) := by simp only [saidW]; rw [if_pos hy]
theorem no_mark {w : Bs} {r : List Bs} {p b : List Int} (hn : w = [195, 151]) : saidW (w :: r) false p b = saidW r true p b := by subst hn; simp [saidW]
theorem bad_point {w : Bs} {r : List Bs} {p b : List Int} (h : pointOf w = none) : saidW (w :: r) true p b = none := by simp only [saidW]; rw [h]
theorem ok_point {w : Bs} {r : List Bs} {p b : List Int} {n : Int} (h : pointOf w = some n) : saidW (w :: r) true p b = saidW r false (p ++ [n]) b := by simp only [saidW]; rw [h]
theorem drop_map {ws : List ByteArray} {i : Nat} (h : i < ws.length) : (ws.drop i).map toB = toB ws[i] :: (ws.drop (i + 1)).map toB := by rw [List.drop_eq_getElem_cons h, List.map_cons]
theorem wrong_snoc (p : List Int) (n : Int) : (!(p.all scalarB) || !scalarB n) = !((p ++ [n]).all scalarB) := by simp [List.all_append, Bool.not_and]

set_option maxHeartbeats 16000000 in
set_option maxRecDepth 100000 in
theorem read_any (a : Nat → Addr) (t : ByteArray) (w : World) (ht : t.size ≤ 1048576) (hs : Sent a w) :
    Calls Tryz.prog 10 #[.string t] w (RdPost a (toB t) w) := by
  have HS := Lib.hid hs
  have HC := fun W => cut_any t 35 W (by omega)
  have HCC := Lib.hid HC
  clear HC hs
  go_enter Tryz.func10, Tryz.ntmps10
  go_upto_region 2 with (go_at_call 8; refine (HCC.out _).mono ?_; rintro e w1 ⟨⟨n, rfl⟩, x, y, rfl, hx, _⟩; have HX := Lib.hid hx; clear hx)
  have hxl : x.size ≤ 1048576 := by
    have h1 : (toB x).length ≤ (toB t).length := by rw [show toB x = _ from HX.out]; exact (List.takeWhile_sublist _).length_le
    rw [len_str, len_str] at h1; omega
  obtain ⟨B, hB⟩ : ∃ B, B = w.heap.size := ⟨_, rfl⟩
  obtain ⟨X1, hX1⟩ : ∃ X1, X1 = (w.alloc (.cells #[.slice none 0 0, .slice none 0 0] 34)).drewN n := ⟨_, rfl⟩
  have HB1 : Hid (Below w.heap.size w X1) := Lib.hid (by rw [hX1]; exact below_drewN ((Below.refl _ _).alloc (Nat.le_refl _) _) n)
  have HR1 : Hid (X1.heap[B]? = some (.cells #[.slice none 0 0, .slice none 0 0] 34 (0, 0))) := Lib.hid (by rw [hX1, hB]; exact heap_new _ _)
  have HSZ : Hid (B < X1.heap.size ∧ w.heap.size ≤ B) := Lib.hid ⟨by rw [hX1, hB]; simp, by omega⟩
  rw [← hX1, ← hB]
  clear hB
  have HS1 := Lib.hid (HS.out.below HB1.out)
  clear hX1 HCC
  go_upto_region 3 with (go_at_call 20; refine (fields_any x X1 hxl).mono ?_; rintro e w2 ⟨⟨A, ws, rfl, hws, hwr⟩, hb⟩; have HWS := Lib.hid hws; have HWR := Lib.hid hwr; have HB2 := Lib.hid hb; clear hws hwr hb)
  obtain ⟨g, hg⟩ : ∃ g, g = w2.heap.size := ⟨_, rfl⟩
  have HL0 : Hid (LnSt X1 (w2.alloc (.cells #[.slice (some ⟨A, 0, none⟩) ws.length ws.length, .slice none 0 0, .slice none 0 0, .bool false] 54)) g A ws 0 (.slice none 0 0) (.slice none 0 0) [] [] false) := Lib.hid
    ⟨by rw [hg]; unfold lnV; rw [show offW 0 ws.length = 0 by unfold offW; split <;> omega]; exact heap_new _ _, Kd.R_alloc HWR.out _, Kd.R_nil _ _ _ _ _, Kd.R_nil _ _ _ _ _, by rw [hg]; exact HB2.out.size, HB2.out.alloc HB2.out.size _⟩
  have hwl : ws.length ≤ 1048577 := by
    have h1 := fieldsB_len (toB x) []
    rw [← HWS.out, List.length_map, len_str] at h1; omega
  have HWW : Hid (ws.map toB = wordsLn (toB t)) := Lib.hid (by rw [HWS.out, show toB x = cutHash (toB t) from HX.out]; rfl)
  have HWZ : Hid (∀ z ∈ ws, z.size ≤ 1048576) := Lib.hid (fun z hz => by
    have := fieldsB_size (toB x) [] (toB z) (by rw [← HWS.out]; exact List.mem_map.2 ⟨z, hz, rfl⟩)
    rw [len_str, len_str] at this; simp at this; omega)
  rw [← hg]
  clear hg HWR HWS HX
  obtain ⟨X2, hX2⟩ : ∃ X2, X2 = w2.alloc (.cells #[.slice (some ⟨A, 0, none⟩) ws.length ws.length, .slice none 0 0, .slice none 0 0, .bool false] 54) := ⟨_, rfl⟩
  rw [← hX2] at HL0 ⊢
  clear hX2 HB2
  obtain ⟨z0, z1, z2, z3, f0, f1, f2, f3⟩ := HL0.out.cells
  rw [show offW 0 ws.length = 0 by unfold offW; split <;> omega, Nat.sub_zero] at z0
  have HR2 := Lib.hid ((HL0.out.below.block B HSZ.out.1).trans HR1.out)
  have r0 := (blk_cell HR2.out 0).trans rfl
  have r1 := (blk_cell HR2.out 1).trans rfl
  have q0 := blk_frozen HR2.out 0
  have q1 := blk_frozen HR2.out 1
  by_cases hempty : ws.length = 0
  · have hww : wordsLn (toB t) = [] := by rw [← HWW.out, List.length_eq_zero_iff.1 hempty]; rfl
    rw [hempty] at z0
    go_wp2_with fail
    obtain ⟨X3, hX3⟩ : ∃ X3, X3 = (X2.setCell ⟨B, 0, none⟩ (.slice none 0 0)).setCell ⟨B, 1, none⟩ (.slice none 0 0) := ⟨_, rfl⟩
    have HB3 : Hid (Below w.heap.size w X3) := Lib.hid (by rw [hX3]; exact below_set (below_set (below_step HB1.out HL0.out.below) HSZ.out.2) HSZ.out.2)
    have HR3 : Hid (X3.heap[B]? = some (.cells #[.slice none 0 0, .slice none 0 0] 34 (0, 0))) := Lib.hid (by rw [hX3]; exact blk_put (blk_put HR2.out 0 _ rfl) 1 _ rfl)
    rw [← hX3]
    clear hX3
    have k0 := (blk_cell HR3.out 0).trans rfl
    have k1 := (blk_cell HR3.out 1).trans rfl
    refine bodyPost_ret (v := .tuple #[.agg #[.slice none 0 0, .slice none 0 0], .bool false, .nilIface]) (by simp [results, Tryz.results10, go_sem, k0, k1]) rfl ?_
    exact ⟨fun _ => rfl, fun h => absurd hww h, fun h => absurd hww h, fun h => absurd hww h, HB3.out⟩
  · have hww : wordsLn (toB t) ≠ [] := fun e => hempty (by rw [← HWW.out] at e; simpa using congrArg List.length e)
    go_wp2_with fail
    rw [show ((ws.length : Int) == 0) = false from beqI_false (by omega)]
    clear z0 z1 z2 z3 f0 f1 f2 f3 r0 r1 q0 q1 HR2
    go_loopw [6] (fun tk W => ∃ (i : Nat) (v1 v2 : Value) (p b : List Int), Hid (LnSt X1 W g A ws i v1 v2 p b (!(p.all scalarB))) ∧ i ≤ ws.length ∧ p.length ≤ i ∧ b.length ≤ i ∧ Hid (TkOk (saidW (wordsLn (toB t)) false [] []) ((ws.drop i).map toB) p b tk)) (fun tk W => 2 * leftOf g W + tkN tk)
    case atStart => exact ⟨0, _, _, [], [], HL0, Nat.zero_le _, Nat.le_refl _, Nat.le_refl _, Lib.hid (.inl ⟨rfl, by rw [List.drop_zero, HWW.out]⟩)⟩
    case round =>
      clear HL0
      obtain ⟨i, v1, v2, p, b, HL, hi, hpi, hbi, htk⟩ := hrel
      rcases htk.out with ⟨rfl, hm⟩ | ⟨rfl, hm⟩ | ⟨rfl, hm⟩
      · clear htk
        have hleft := HL.out.left
        by_cases hlt : i < ws.length
        · rw [drop_map hlt] at hm
          by_cases hy : toB ws[i] = [195, 183]
          · rw [yes_mark hy] at hm
            have HM := Lib.hid hm
            clear hm
            have HC := Lib.hid (mark_yes HL.out hlt hwl (by omega) (by omega) hy)
            go_wp2_with fail
            rw [neq_mark]
            go_wp2_with (go_at_call 22; refine HC.out.mono ?_; rintro e Y ⟨rfl, v2', hL⟩; have HLn := Lib.hid hL; clear hL)
            go_roundw
            case rel => exact ⟨i + 1, v1, v2', p, b ++ [(p.length : Int)], HLn, by omega, by omega, by simp; omega, Lib.hid (.inr (.inl ⟨rfl, HM.out⟩))⟩
            case measure => rw [hleft, HLn.out.left]; simp [tkN]; omega
          · by_cases hn : toB ws[i] = [195, 151]
            · rw [no_mark hn] at hm
              have HM := Lib.hid hm
              clear hm
              have HC := Lib.hid (mark_no HL.out hlt hwl hn)
              go_wp2_with fail
              rw [neq_mark]
              go_wp2_with (go_at_call 22; refine HC.out.mono ?_; rintro e Y ⟨rfl, hL⟩; have HLn := Lib.hid hL; clear hL)
              go_roundw
              case rel => exact ⟨i + 1, v1, v2, p, b, HLn, by omega, by omega, by omega, Lib.hid (.inr (.inl ⟨rfl, HM.out⟩))⟩
              case measure => rw [hleft, HLn.out.left]; simp [tkN]; omega
            · rw [bad_mark hy hn] at hm
              have hR := hm.symm
              clear hm
              have HC := Lib.hid (mark_bad a HL.out hlt hwl hy hn HS1.out)
              rw [errF2] at HC
              go_wp2_with fail
              rw [neq_mark]
              go_wp2_with (go_at_call 22; refine (HC.out).mono ?_; rintro e Y ⟨rfl, hY⟩; have HY := Lib.hid hY; obtain ⟨r0, r1, q0, q1⟩ := rb_at hY HR1.out HSZ.out.1; clear hY)
              obtain ⟨hb3, k0, k1⟩ := rb_put HB1.out HY.out HR1.out HSZ.out (.slice none 0 0) (.slice none 0 0)
              have HB3 := Lib.hid hb3
              clear hb3
              generalize (Y.setCell ⟨B, 0, none⟩ (.slice none 0 0)).setCell ⟨B, 1, none⟩ (.slice none 0 0) = X3 at HB3 k0 k1 ⊢
              refine bodyPost_ret (v := .tuple #[.agg #[.slice none 0 0, .slice none 0 0], .bool true, .iface 41 (.agg #[.iface 130 (.pointer (some (a 2)))])]) (by simp [results, Tryz.results10, go_sem, k0, k1]) rfl ?_
              exact ⟨fun h => absurd h hww, fun _ _ => rfl, fun _ pb h => absurd (hR.symm.trans h) (by simp), fun _ pb h => absurd (hR.symm.trans h) (by simp), HB3.out⟩
        · obtain rfl : i = ws.length := by omega
          rw [List.drop_length] at hm
          have hR : saidW (wordsLn (toB t)) false [] [] = none := hm.symm
          clear hm
          have HC := Lib.hid (mark_end a HL.out HS1.out)
          rw [errF2] at HC
          go_wp2_with fail
          rw [neq_mark]
          go_wp2_with (go_at_call 22; refine (HC.out).mono ?_; rintro e Y ⟨rfl, hY⟩; have HY := Lib.hid hY; obtain ⟨r0, r1, q0, q1⟩ := rb_at hY HR1.out HSZ.out.1; clear hY)
          obtain ⟨hb3, k0, k1⟩ := rb_put HB1.out HY.out HR1.out HSZ.out (.slice none 0 0) (.slice none 0 0)
          have HB3 := Lib.hid hb3
          clear hb3
          generalize (Y.setCell ⟨B, 0, none⟩ (.slice none 0 0)).setCell ⟨B, 1, none⟩ (.slice none 0 0) = X3 at HB3 k0 k1 ⊢
          refine bodyPost_ret (v := .tuple #[.agg #[.slice none 0 0, .slice none 0 0], .bool true, .iface 41 (.agg #[.iface 130 (.pointer (some (a 2)))])]) (by simp [results, Tryz.results10, go_sem, k0, k1]) rfl ?_
          exact ⟨fun h => absurd h hww, fun _ _ => rfl, fun _ pb h => absurd (hR.symm.trans h) (by simp), fun _ pb h => absurd (hR.symm.trans h) (by simp), HB3.out⟩
      · clear htk
        have hleft := HL.out.left
        by_cases hlt : i < ws.length
        · rw [drop_map hlt] at hm
          cases hpt : pointOf (toB ws[i]) with
          | none =>
            rw [bad_point hpt] at hm
            have hR := hm.symm
            clear hm
            have HC := Lib.hid (point_bad a HL.out hlt hwl (HWZ.out _ (List.getElem_mem hlt)) hpt HS1.out)
            rw [errF2] at HC
            go_wp2_with fail
            rw [neq_point]
            go_wp2_with (go_at_call 39; refine (HC.out).mono ?_; rintro e Y ⟨rfl, hY⟩; have HY := Lib.hid hY; obtain ⟨r0, r1, q0, q1⟩ := rb_at hY HR1.out HSZ.out.1; clear hY)
            obtain ⟨hb3, k0, k1⟩ := rb_put HB1.out HY.out HR1.out HSZ.out (.slice none 0 0) (.slice none 0 0)
            have HB3 := Lib.hid hb3
            clear hb3
            generalize (Y.setCell ⟨B, 0, none⟩ (.slice none 0 0)).setCell ⟨B, 1, none⟩ (.slice none 0 0) = X3 at HB3 k0 k1 ⊢
            refine bodyPost_ret (v := .tuple #[.agg #[.slice none 0 0, .slice none 0 0], .bool true, .iface 41 (.agg #[.iface 130 (.pointer (some (a 2)))])]) (by simp [results, Tryz.results10, go_sem, k0, k1]) rfl ?_
            exact ⟨fun h => absurd h hww, fun _ _ => rfl, fun _ pb h => absurd (hR.symm.trans h) (by simp), fun _ pb h => absurd (hR.symm.trans h) (by simp), HB3.out⟩
          | some n =>
            rw [ok_point hpt] at hm
            have HM := Lib.hid hm
            clear hm
            have HC := Lib.hid (point_ok HL.out hlt hwl (by omega) hpt)
            rw [wrong_snoc] at HC
            go_wp2_with fail
            rw [neq_point]
            go_wp2_with (go_at_call 39; refine HC.out.mono ?_; rintro e Y ⟨rfl, v1', hL⟩; have HLn := Lib.hid hL; clear hL)
            go_roundw
            case rel => exact ⟨i + 1, v1', v2, p ++ [n], b, HLn, by omega, by simp; omega, by omega, Lib.hid (.inl ⟨rfl, HM.out⟩)⟩
            case measure => rw [hleft, HLn.out.left]; simp [tkN]; omega
        · obtain rfl : i = ws.length := by omega
          rw [List.drop_length] at hm
          have HM : Hid (saidW (wordsLn (toB t)) false [] [] = some (p, b)) := Lib.hid hm.symm
          clear hm
          have HC := Lib.hid (point_end HL.out)
          go_wp2_with fail
          rw [neq_point]
          go_wp2_with (go_at_call 39; refine HC.out.mono ?_; rintro e Y ⟨rfl, hL⟩; have HLn := Lib.hid hL; clear hL)
          go_roundw
          case rel => exact ⟨ws.length, v1, v2, p, b, HLn, Nat.le_refl _, by omega, by omega, Lib.hid (.inr (.inr ⟨rfl, HM.out⟩))⟩
          case measure => rw [hleft, HLn.out.left]; simp [tkN]
      · clear htk
        have HM := Lib.hid hm
        clear hm
        obtain ⟨A1, c1, rfl⟩ := Kd.R_slice HL.out.r1
        obtain ⟨A2, c2, rfl⟩ := Kd.R_slice HL.out.r2
        obtain ⟨z0, z1, z2, z3, f0, f1, f2, f3⟩ := HL.out.cells
        have HY := Lib.hid HL.out.below
        obtain ⟨r0, r1, q0, q1⟩ := rb_at HY.out HR1.out HSZ.out.1
        cases hsc : p.all scalarB with
        | true =>
          rw [hsc] at z3
          have HSC := Lib.hid hsc
          clear hsc
          simp only [Bool.not_true] at z3
          go_wp2_with fail
          rw [neq_nil]
          go_wp2_with fail
          have hblk := (HY.out.block B HSZ.out.1).trans HR1.out
          obtain ⟨hb3, k0, k1⟩ := rb_put HB1.out HY.out HR1.out HSZ.out (.slice A1 p.length c1) (.slice A2 b.length c2)
          have HB3 := Lib.hid hb3
          have HP1 := Lib.hid (Kd.R_set (Kd.R_set HL.out.r1 hblk (by decide) 0 (.slice A1 p.length c1)) (blk_put hblk 0 (.slice A1 p.length c1) rfl) (by decide) 1 (.slice A2 b.length c2))
          have HP2 := Lib.hid (Kd.R_set (Kd.R_set HL.out.r2 hblk (by decide) 0 (.slice A1 p.length c1)) (blk_put hblk 0 (.slice A1 p.length c1) rfl) (by decide) 1 (.slice A2 b.length c2))
          clear hb3 hblk
          generalize (wr.setCell ⟨B, 0, none⟩ (.slice A1 p.length c1)).setCell ⟨B, 1, none⟩ (.slice A2 b.length c2) = X3 at HB3 HP1 HP2 k0 k1 ⊢
          refine bodyPost_ret (v := .tuple #[.agg #[.slice A1 p.length c1, .slice A2 b.length c2], .bool true, .nilIface]) (by simp [results, Tryz.results10, go_sem, k0, k1]) rfl ?_
          refine ⟨fun h => absurd h hww, fun _ h => absurd (HM.out.symm.trans h) (by simp), fun _ pb h h' => ?_, fun _ pb h _ => ?_, HB3.out⟩
          · obtain rfl := Option.some.inj (HM.out.symm.trans h)
            exact absurd HSC.out h'
          · obtain rfl := Option.some.inj (HM.out.symm.trans h)
            exact ⟨_, _, rfl, Kd.R_mono (Kd.R_lower HP1.out HB1.out.size) (fun k hk => ⟨Nat.le_trans HB1.out.size hk.1, hk.2⟩), Kd.R_mono (Kd.R_lower HP2.out HB1.out.size) (fun k hk => ⟨Nat.le_trans HB1.out.size hk.1, hk.2⟩)⟩
        | false =>
          rw [hsc] at z3
          have HSC := Lib.hid hsc
          clear hsc
          simp only [Bool.not_false] at z3
          have c1 := (HS1.out.below HY.out).cell 1 (by decide)
          obtain ⟨hb3, k0, k1⟩ := rb_put (Y := wr) HB1.out HY.out HR1.out HSZ.out (.slice none 0 0) (.slice none 0 0)
          have cS := (HS.out.below hb3).cell 1 (by decide)
          have HB3 := Lib.hid hb3
          clear hb3
          go_wp2_with fail
          rw [neq_nil]
          go_wp2_with fail
          go_region_held3 (fun w' => w'.cell? ⟨1, 0, none⟩ = some (.iface 130 (.pointer (some (a 1))))) (first | exact c1 | exact cS | (go_keep; done)) (fail)
          go_wp2_with fail
          generalize (wr.setCell ⟨B, 0, none⟩ (.slice none 0 0)).setCell ⟨B, 1, none⟩ (.slice none 0 0) = X3 at HB3 k0 k1 cS ⊢
          replace k0 : X3.drew.cell? ⟨B, 0, none⟩ = _ := k0
          replace k1 : X3.drew.cell? ⟨B, 1, none⟩ = _ := k1
          refine bodyPost_ret (v := .tuple #[.agg #[.slice none 0 0, .slice none 0 0], .bool true, .iface 41 (.agg #[.iface 130 (.pointer (some (a 1)))])]) (by simp [results, Tryz.results10, go_sem, k0, k1]) rfl ?_
          refine ⟨fun h => absurd h hww, fun _ h => absurd (HM.out.symm.trans h) (by simp), fun _ pb _ _ => rfl, fun _ pb h h' => ?_, below_drew HB3.out⟩
          obtain rfl := Option.some.inj (HM.out.symm.trans h)
          exact absurd (HSC.out.symm.trans h') (by decide)
end Go.Proofs.YtliimcemjjhmaacGreatDoor
