/- testfile.short: the line of a case that may be. caesuraref23.short: the line of a case that may be. Print, the program's and the document's: the walks. -/
import Derived.Test.YtliimcemjjhmaacGreatDoorTestSpec
import Derived.Test.YtliimcemjjhmaacGreatDoorTestW
import Derived.Test.YtliimcemjjhmaacGreatDoorTestM
namespace Go.Proofs.YtliimcemjjhmaacGreatDoor
section
open Go.RowKit Go.Proofs.YtliimcemjjhmaacGreatDoorW.PrintWords

theorem digitsI_any (z : Int) (h0 : 0 ≤ z) (h1 : z ≤ 1114111) (w : World) : Calls Tryz.prog 32 #[.int .i64 z] w fun e w' => (∃ x : ByteArray, e = .returned (.string x) ∧ x.data.toList = hexZ z) ∧ w = w' := by
  obtain ⟨n, rfl⟩ := Int.eq_ofNat_of_zero_le h0
  exact digits_any n (by omega) w
def PtsOk (pl : List Int) : Prop := ∀ k (h : k < pl.length), 0 ≤ pl[k] ∧ pl[k] ≤ 1114111
theorem pts_ok {pl : List Int} (h : pl.all scal = true) : PtsOk pl := fun k hk => by
  have := List.all_eq_true.1 h _ (List.getElem_mem hk)
  unfold scal at this
  simp at this
  omega
theorem bytesL_app (x : List ByteArray) (y : ByteArray) : bytesL (x ++ [y]) = bytesL x ++ [y.data.toList] := by simp [bytesL]

theorem words_two {pl br : List Int} {k : Nat} {x : List ByteArray} {y m : ByteArray} (hx : bytesL x = wordsT pl br k) (hm : m.data.toList = markL (hasI br k)) (hk : k < pl.length) (hy : y.data.toList = hexZ pl[k]) : bytesL (x ++ [m] ++ [y]) = wordsT pl br (k + 1) := by
  rw [bytesL_app, bytesL_app, hx, hm, hy, wordsT, if_pos hk, getD_at hk]; simp
theorem words_one {pl br : List Int} {k : Nat} {x : List ByteArray} {m : ByteArray} (hx : bytesL x = wordsT pl br k) (hm : m.data.toList = markL (hasI br k)) (hk : ¬ k < pl.length) : bytesL (x ++ [m]) = wordsT pl br (k + 1) := by
  rw [bytesL_app, hx, hm, wordsT, if_neg hk]

set_option maxHeartbeats 4000000 in
theorem short_any (PA BA : Option Addr) (pc bc : Nat) (pl br : List Int) (w : World) (hp : pl.length ≤ 1073741824) (hb : br.length ≤ 1099511627776) (hP : IntsAt w PA pl) (hB : IntsAt w BA br) (hpts : PtsOk pl) :
    Calls Tryz.prog 15 #[.agg #[.slice PA pl.length pc, .slice BA br.length bc]] w fun e w' => (∃ x : ByteArray, e = .returned (.string x) ∧ x.data.toList = lineT pl br) ∧ Below w.heap.size w w' := by
  have HP := Lib.hid hP
  have HB := Lib.hid hB
  have HPT := Lib.hid hpts
  clear hP hB hpts
  go_enter Tryz.func15, Tryz.ntmps15
  go_wp2_with fail
  obtain ⟨W, hW⟩ : ∃ W, W = w.alloc (.cells #[.slice PA pl.length pc, .slice BA br.length bc] 34) := ⟨_, rfl⟩
  have hs : W.heap.size = w.heap.size + 1 := by rw [hW]; simp
  have c0 : W.cell? ⟨w.heap.size, 0, none⟩ = some (.slice PA pl.length pc) := by rw [hW]; exact World.cell?_alloc_at _ _ _ _ rfl
  have c1 : W.cell? ⟨w.heap.size, 1, none⟩ = some (.slice BA br.length bc) := by rw [hW]; exact World.cell?_alloc_at _ _ _ _ rfl
  have HBW : Hid (Below w.heap.size w W) := Lib.hid (by rw [hW]; exact (Below.refl _ w).alloc (Nat.le_refl _) _)
  have HPW := Lib.hid (HP.out.below HBW.out)
  have HBRW := Lib.hid (HB.out.below HBW.out)
  rw [← hW]
  have HS := Lib.hid hs
  have HC0 := Lib.hid c0
  have HC1 := Lib.hid c1
  clear hW hs c0 c1
  go_loopw [3, 10] (fun v i wr => ∃ (k : Nat) (x : List ByteArray), i = .int .i64 k ∧ k ≤ pl.length + 1 ∧ Hid (OwnStrs wr W.heap.size v x) ∧ Hid (Below W.heap.size W wr) ∧ Hid (bytesL x = wordsT pl br k)) (fun _ i _ => pl.length + 1 - (intOf i).toNat)
  case atStart => exact ⟨0, [], rfl, Nat.zero_le _, Lib.hid (Kd.R_nil _ _ _ _ _), Lib.hid (Below.refl _ _), Lib.hid rfl⟩
  case round =>
    obtain ⟨k, x, rfl, hk, hO, hB, hx⟩ := hrel
    have hsz := HS.out
    have e0 : wr.cell? ⟨w.heap.size, 0, none⟩ = some (.slice PA pl.length pc) := (hB.out.cell (by simp [hsz])).trans HC0.out
    have e1 : wr.cell? ⟨w.heap.size, 1, none⟩ = some (.slice BA br.length bc) := (hB.out.cell (by simp [hsz])).trans HC1.out
    have HBR := Lib.hid (HBRW.out.below hB.out)
    have hxl : x.length ≤ 2 * k := by have h1 := wordsT_len pl br k; rw [← hx.out] at h1; simpa [bytesL] using h1
    by_cases hlt : k < pl.length + 1
    · have d1 : decide ((k : Int) < (pl.length : Int) + 1) = true := decide_eq_true (by omega)
      cases hc : hasI br k
      all_goals
        have HC := Lib.hid hc
        by_cases hl2 : k < pl.length
        · have d2 : decide (k < pl.length) = true := decide_eq_true hl2
          obtain ⟨ad, rfl, hck⟩ := HPW.out k hl2
          have hpk := HPT.out k hl2
          have HCK := Lib.hid hck
          clear hck
          go_wp2_with (first
            | (go_at_call 31; with_reducible refine (containsInt_any BA bc br (k : Int) _ hb HBR.out).mono ?_; rintro e w1 ⟨rfl, rfl⟩; rw [hc])
            | (at_builtin; refine Kd.R_append Kd.string (w0 := W) W.heap.size rfl (.tmp 17) (.tmp 19) 46 9 (.string ⟨#[]⟩) 16 rfl Tryz.underlying46 strInfo rfl (by decide) (by omega) u3 x ⟨#[195, 151]⟩ [.string ⟨#[195, 151]⟩] (fun _ => True) (fun _ => False) rfl rfl ?aP (fun _ hk => hk.elim) (fun _ _ => trivial) hO.out hB.out hB.out.size (by omega) ?_; (case aP => exact rfl); intro v' w13 ho hb' hg' hat; have HO := Lib.hid ho; have HBE := Lib.hid hb'; have f0 : w13.cell? ⟨w.heap.size, 0, none⟩ = some (.slice (some ad) pl.length pc) := (hb'.cell (by simp [hsz])).trans HC0.out; have fk : w13.cell? (ad.add k) = some (.int .i64 pl[k]) := (hb'.cell (World.block_lt_of_cell? W _ HCK.out)).trans HCK.out; clear ho hb' hg' hat)
            | (at_builtin; refine Kd.R_append Kd.string (w0 := W) W.heap.size rfl (.tmp 17) (.tmp 19) 46 9 (.string ⟨#[]⟩) 16 rfl Tryz.underlying46 strInfo rfl (by decide) (by omega) u3 x ⟨#[195, 183]⟩ [.string ⟨#[195, 183]⟩] (fun _ => True) (fun _ => False) rfl rfl ?aP (fun _ hk => hk.elim) (fun _ _ => trivial) hO.out hB.out hB.out.size (by omega) ?_; (case aP => exact rfl); intro v' w13 ho hb' hg' hat; have HO := Lib.hid ho; have HBE := Lib.hid hb'; have f0 : w13.cell? ⟨w.heap.size, 0, none⟩ = some (.slice (some ad) pl.length pc) := (hb'.cell (by simp [hsz])).trans HC0.out; have fk : w13.cell? (ad.add k) = some (.int .i64 pl[k]) := (hb'.cell (World.block_lt_of_cell? W _ HCK.out)).trans HCK.out; clear ho hb' hg' hat)
            | (go_at_call 32; with_reducible refine (digitsI_any pl[k] hpk.1 hpk.2 _).mono ?_; rintro e w1 ⟨⟨y, rfl, hy⟩, rfl⟩; have HY := Lib.hid hy; clear hy)
            | (at_builtin; refine Kd.R_append Kd.string (w0 := W) W.heap.size rfl (.tmp 26) (.tmp 33) 46 9 (.string ⟨#[]⟩) 16 rfl Tryz.underlying46 strInfo rfl (by decide) (by omega) _ _ y [.string y] (fun _ => True) (fun _ => False) rfl rfl ?aP (fun _ hk => hk.elim) (fun _ _ => trivial) HO.out HBE.out HBE.out.size (by simp; omega) ?_; (case aP => exact rfl); intro v' w14 ho hb' hg' hat; have HO2 := Lib.hid ho; have HBE2 := Lib.hid hb'; clear ho hb' hg' hat))
          go_roundw
          case rel => exact ⟨k + 1, _, by go_num, by omega, HO2, HBE2, Lib.hid (words_two hx.out (by rw [HC.out]; rfl) hl2 HY.out)⟩
          case measure => simp [intOf]; omega
        · have d2 : decide (k < pl.length) = false := decide_eq_false hl2
          go_wp2_with (first
            | (go_at_call 31; with_reducible refine (containsInt_any BA bc br (k : Int) _ hb HBR.out).mono ?_; rintro e w1 ⟨rfl, rfl⟩; rw [hc])
            | (at_builtin; refine Kd.R_append Kd.string (w0 := W) W.heap.size rfl (.tmp 17) (.tmp 19) 46 9 (.string ⟨#[]⟩) 16 rfl Tryz.underlying46 strInfo rfl (by decide) (by omega) u3 x ⟨#[195, 151]⟩ [.string ⟨#[195, 151]⟩] (fun _ => True) (fun _ => False) rfl rfl ?aP (fun _ hk => hk.elim) (fun _ _ => trivial) hO.out hB.out hB.out.size (by omega) ?_; (case aP => exact rfl); intro v' w13 ho hb' hg' hat; have HO := Lib.hid ho; have HBE := Lib.hid hb'; have f0 : w13.cell? ⟨w.heap.size, 0, none⟩ = some (.slice PA pl.length pc) := (hb'.cell (by simp [hsz])).trans HC0.out; clear ho hb' hg' hat)
            | (at_builtin; refine Kd.R_append Kd.string (w0 := W) W.heap.size rfl (.tmp 17) (.tmp 19) 46 9 (.string ⟨#[]⟩) 16 rfl Tryz.underlying46 strInfo rfl (by decide) (by omega) u3 x ⟨#[195, 183]⟩ [.string ⟨#[195, 183]⟩] (fun _ => True) (fun _ => False) rfl rfl ?aP (fun _ hk => hk.elim) (fun _ _ => trivial) hO.out hB.out hB.out.size (by omega) ?_; (case aP => exact rfl); intro v' w13 ho hb' hg' hat; have HO := Lib.hid ho; have HBE := Lib.hid hb'; have f0 : w13.cell? ⟨w.heap.size, 0, none⟩ = some (.slice PA pl.length pc) := (hb'.cell (by simp [hsz])).trans HC0.out; clear ho hb' hg' hat))
          go_roundw
          case rel => exact ⟨k + 1, _, by go_num, by omega, HO, HBE, Lib.hid (words_one hx.out (by rw [HC.out]; rfl) hl2)⟩
          case measure => simp [intOf]; omega
    · have d1 : decide ((k : Int) < (pl.length : Int) + 1) = false := decide_eq_false (by omega)
      have hj : Lib.join (bytesL x) [32] = lineT pl br := by rw [hx.out, show k = pl.length + 1 from by omega, join_line]
      have hll : (Lib.join (bytesL x) [32]).length ≤ 140737488355328 := by rw [hj]; exact Nat.le_trans (lineT_len _ _) (by omega)
      have HJ := Lib.hid hj
      clear hj
      go_wp2_with (go_at_call 16; with_reducible refine (join_any ⟨#[32]⟩ W.heap.size _ x _ hO.out (by omega) hll).mono ?_; rintro e w1 ⟨⟨y, rfl, hy⟩, hbj⟩; have HY := Lib.hid hy; have HBJ := Lib.hid hbj; clear hy hbj)
      go_ret
      exact ⟨⟨y, rfl, by rw [HY.out]; exact HJ.out⟩, below_step (below_step HBW.out hB.out) HBJ.out⟩
end

section
open Go.RowKit Go.Proofs.YtliimcemjjhmaacGreatDoorW.PrintWords

theorem text_two {pl br : List Int} {k : Nat} {s m y : ByteArray} {r : ByteArray} (hs : s.data.toList = textT pl br k) (hm : m.data.toList = markL (hasI br k)) (hk : k < pl.length) (hy : y.data.toList = hexZ pl[k]) (hr : r.data.toList = ((s.data.toList ++ m.data.toList) ++ [32] ++ y.data.toList) ++ [32]) : r.data.toList = textT pl br (k + 1) := by
  rw [hr, hs, hm, hy, textT, if_pos hk, getD_at hk]; simp
theorem text_one {pl br : List Int} {k : Nat} {s m : ByteArray} (hs : s.data.toList = textT pl br k) (hm : m.data.toList = markL (hasI br k)) (hk : ¬ k < pl.length) : (s ++ m).data.toList = textT pl br (k + 1) := by
  rw [app_data, hs, hm, textT, if_neg hk]; simp

theorem hexZ_len (z : Int) : (hexZ z).length ≤ 8 := by have := hexL_len 8 z.toNat []; simpa [hexZ] using this
end

section
open Go.RowKit Go.Proofs.YtliimcemjjhmaacGreatDoorW.PrintWords

def linesT (cs : List Case) : List (List UInt8) := cs.map fun c => lineT c.1 c.2
def fileT (cs : List Case) : List UInt8 := Lib.join (linesT cs) [10]
def allOk (cs : List Case) : Bool := cs.all fun c => caseOk c.1 c.2
def printOut (cs : List Case) : List UInt8 × Nat :=
  if 20000 < cs.length then ([], 3) else if allOk cs = false then ([], 1) else if 1048576 < (fileT cs).length then ([], 3) else (fileT cs, 0)
def PrintPost (cs : List Case) (mk : Nat → Value) (w : World) (e : Ending) (w' : World) : Prop :=
  (∃ x : ByteArray, e = .returned (.tuple #[.string x, mk (printOut cs).2]) ∧ x.data.toList = (printOut cs).1) ∧ Below w.heap.size w w'
theorem PrintPost.of {cs : List Case} {mk : Nat → Value} {w w' : World} {x : ByteArray} {v : Value} {n : Nat} (h : printOut cs = (x.data.toList, n)) (hv : v = mk n) (hb : Below w.heap.size w w') : PrintPost cs mk w (.returned (.tuple #[.string x, v])) w' := by
  refine ⟨⟨x, ?_, ?_⟩, hb⟩ <;> rw [h]
  rw [hv]
def mkI (n : Nat) : Value := .int .i64 (n : Int)
def SmallC (cs : List Case) : Prop := ∀ k (h : k < cs.length), cs[k].1.length ≤ 2097152

theorem linesT_take {cs : List Case} {k : Nat} (h : k < cs.length) : linesT (cs.take (k + 1)) = linesT (cs.take k) ++ [lineT cs[k].1 cs[k].2] := by
  unfold linesT; rw [List.take_succ_eq_append_getElem h, List.map_append]; rfl
theorem join_more {l : List UInt8} {xs : List (List UInt8)} {sep : List UInt8} (h : xs ≠ []) : Lib.join (xs ++ [l]) sep = Lib.join xs sep ++ sep ++ l := by
  cases xs with
  | nil => exact absurd rfl h
  | cons a r => simp [Lib.join_cons, Lib.joinTail]
theorem fileT_first {cs : List Case} {k : Nat} (h : k < cs.length) (h0 : ¬ 0 < k) : fileT (cs.take (k + 1)) = lineT cs[k].1 cs[k].2 ∧ fileT (cs.take k) = [] := by
  obtain rfl : k = 0 := by omega
  unfold fileT; rw [linesT_take h]; simp [linesT, Lib.join_one, Lib.join_nil]
theorem fileT_next {cs : List Case} {k : Nat} (h : k < cs.length) (h0 : 0 < k) : fileT (cs.take (k + 1)) = fileT (cs.take k) ++ [10] ++ lineT cs[k].1 cs[k].2 := by
  unfold fileT
  rw [linesT_take h, join_more]
  unfold linesT
  intro e
  have := congrArg List.length e
  rw [List.length_map, List.length_take, List.length_nil] at this
  omega
theorem fileT_len {cs : List Case} (h : SmallC cs) : ∀ k, k ≤ cs.length → (fileT (cs.take k)).length ≤ 25165837 * k := by
  intro k
  induction k with
  | zero => intro _; simp [fileT, linesT, Lib.join]
  | succ k ih =>
    intro hk
    have h1 := lineT_len cs[k].1 cs[k].2
    have h2 := h k (by omega)
    rcases Nat.eq_zero_or_pos k with h0 | h0
    · rw [(fileT_first (k := k) (by omega) (by omega)).1]; omega
    · rw [fileT_next (by omega) h0]; have := ih (by omega); simp; omega
theorem ok_at {cs : List Case} (h : allOk cs = true) {k : Nat} (hk : k < cs.length) : brOk cs[k].1.length cs[k].2 cs[k].2.length = true ∧ PtsOk cs[k].1 := by
  have := List.all_eq_true.1 h _ (List.getElem_mem hk)
  unfold caseOk at this
  rw [Bool.and_eq_true] at this
  exact ⟨this.1, pts_ok this.2⟩

theorem shortC (c : Case) (v0 v1 : Value) (w : World) (h : CaseV w c v0 v1) (hs : c.1.length ≤ 2097152) (hok : brOk c.1.length c.2 c.2.length = true ∧ PtsOk c.1) : Calls Tryz.prog 15 #[.agg #[v0, v1]] w fun e w' => (∃ x : ByteArray, e = .returned (.string x) ∧ x.data.toList = lineT c.1 c.2) ∧ Below w.heap.size w w' := by
  obtain ⟨PA, pc, BA, bc, rfl, rfl, hP, hB, h1, h2⟩ := h
  exact short_any PA BA pc bc c.1 c.2 w (by omega) h2 hP hB hok.2
end
end Go.Proofs.YtliimcemjjhmaacGreatDoor
