/- Print, the program's and the document's: the walks. -/
import Derived.Test.YtpgaimpppehpcabDoorTestRs
namespace Go.Proofs.YtpgaimpppehpcabDoor
open Go.RowKit Go.Proofs.YtpgaimpppehpcabDoorW.PrintWords

def linesT (cs : List Case) : List (List UInt8) := cs.map fun c => lineT c.1 c.2
def fileT (cs : List Case) : List UInt8 := Lib.join (linesT cs) [10]
def allOk (cs : List Case) : Bool := cs.all fun c => caseOk c.1 c.2
def printOut (cs : List Case) : List UInt8 × Nat :=
  if 20000 < cs.length then ([], 3) else if allOk cs = false then ([], 1) else if 1048576 < (fileT cs).length then ([], 3) else (fileT cs, 0)
def PrintPost (cs : List Case) (mk : Nat → Value) (w : World) (e : Ending) (w' : World) : Prop :=
  (∃ x : ByteArray, e = .returned (.tuple #[.string x, mk (printOut cs).2]) ∧ x.data.toList = (printOut cs).1) ∧ Below w.heap.size w w'
theorem PrintPost.of {cs : List Case} {mk : Nat → Value} {w w' : World} {x : ByteArray} {v : Value} {n : Nat} (h : printOut cs = (x.data.toList, n)) (hv : v = mk n) (hb : Below w.heap.size w w') : PrintPost cs mk w (.returned (.tuple #[.string x, v])) w' := by
  refine ⟨⟨x, ?_, ?_⟩, hb⟩ <;> rw [h]
  rw [hv]
def mkI (n : Nat) : Value := .int .i64 (n : Int)
def SmallC (cs : List Case) : Prop := ∀ k (h : k < cs.length), cs[k].1.length ≤ 2097152

theorem linesT_take {cs : List Case} {k : Nat} (h : k < cs.length) : linesT (cs.take (k + 1)) = linesT (cs.take k) ++ [lineT cs[k].1 cs[k].2] := by
  unfold linesT; rw [List.take_succ_eq_append_getElem h, List.map_append]; rfl
theorem join_more {l : List UInt8} {xs : List (List UInt8)} {sep : List UInt8} (h : xs ≠ []) : Lib.join (xs ++ [l]) sep = Lib.join xs sep ++ sep ++ l := by
  cases xs with
  | nil => exact absurd rfl h
  | cons a r => simp [Lib.join_cons, Lib.joinTail]
theorem fileT_first {cs : List Case} {k : Nat} (h : k < cs.length) (h0 : ¬ 0 < k) : fileT (cs.take (k + 1)) = lineT cs[k].1 cs[k].2 ∧ fileT (cs.take k) = [] := by
  obtain rfl : k = 0 := by omega
  unfold fileT; rw [linesT_take h]; simp [linesT, Lib.join_one, Lib.join_nil]
theorem fileT_next {cs : List Case} {k : Nat} (h : k < cs.length) (h0 : 0 < k) : fileT (cs.take (k + 1)) = fileT (cs.take k) ++ [10] ++ lineT cs[k].1 cs[k].2 := by
  unfold fileT
  rw [linesT_take h, join_more]
  unfold linesT
  intro e
  have := congrArg List.length e
  rw [List.length_map, List.length_take, List.length_nil] at this
  omega
theorem fileT_len {cs : List Case} (h : SmallC cs) : ∀ k, k ≤ cs.length → (fileT (cs.take k)).length ≤ 25165837 * k := by
  intro k
  induction k with
  | zero => intro _; simp [fileT, linesT, Lib.join]
  | succ k ih =>
    intro hk
    have h1 := lineT_len cs[k].1 cs[k].2
    have h2 := h k (by omega)
    rcases Nat.eq_zero_or_pos k with h0 | h0
    · rw [(fileT_first (k := k) (by omega) (by omega)).1]; omega
    · rw [fileT_next (by omega) h0]; have := ih (by omega); simp; omega
theorem ok_at {cs : List Case} (h : allOk cs = true) {k : Nat} (hk : k < cs.length) : brOk cs[k].1.length cs[k].2 cs[k].2.length = true ∧ PtsOk cs[k].1 := by
  have := List.all_eq_true.1 h _ (List.getElem_mem hk)
  unfold caseOk at this
  rw [Bool.and_eq_true] at this
  exact ⟨this.1, pts_ok this.2⟩

theorem rshortC (c : Case) (v0 v1 : Value) (w : World) (h : CaseV w c v0 v1) (hs : c.1.length ≤ 2097152) (hok : brOk c.1.length c.2 c.2.length = true ∧ PtsOk c.1) : Calls Tryd.prog 18 #[.agg #[v0, v1]] w fun e w' => (∃ x : ByteArray, e = .returned (.string x) ∧ x.data.toList = lineT c.1 c.2) ∧ Below w.heap.size w w' := by
  obtain ⟨PA, pc, BA, bc, rfl, rfl, hP, hB, h1, h2⟩ := h
  exact rshort_any PA BA pc bc c.1 c.2 w (by omega) h2 hP hB hok.2 hok.1
theorem shortC (c : Case) (v0 v1 : Value) (w : World) (h : CaseV w c v0 v1) (hs : c.1.length ≤ 2097152) (hok : brOk c.1.length c.2 c.2.length = true ∧ PtsOk c.1) : Calls Tryd.prog 14 #[.agg #[v0, v1]] w fun e w' => (∃ x : ByteArray, e = .returned (.string x) ∧ x.data.toList = lineT c.1 c.2) ∧ Below w.heap.size w w' := by
  obtain ⟨PA, pc, BA, bc, rfl, rfl, hP, hB, h1, h2⟩ := h
  exact short_any PA BA pc bc c.1 c.2 w (by omega) h2 hP hB hok.2
theorem MayBeC (c : Case) (v0 v1 : Value) (w : World) (h : CaseV w c v0 v1) : Calls Tryd.prog 17 #[.agg #[v0, v1]] w fun e w' => e = .returned (.bool (caseOk c.1 c.2)) ∧ Below w.heap.size w w' := by
  obtain ⟨PA, pc, BA, bc, rfl, rfl, hP, hB, h1, h2⟩ := h
  exact MayBe_any PA BA pc bc c.1 c.2 w h1 h2 hP hB

set_option maxHeartbeats 4000000 in
theorem rPrint_any (A : Option Addr) (c : Nat) (cs : List Case) (w : World) (hl : cs.length ≤ 1099511627776) (hsm : SmallC cs) (h : CasesAt w A cs) :
    Calls Tryd.prog 8 #[.slice A cs.length c] w (PrintPost cs mkI w) := by
  have HI := Lib.hid h
  have HSM := Lib.hid hsm
  clear h hsm
  by_cases h2 : 20000 < cs.length
  · have d0 : decide (20000 < (cs.length : Int)) = true := decide_eq_true (by omega)
    have HF : Hid (printOut cs = ([], 3)) := Lib.hid (by unfold printOut; rw [if_pos h2])
    clear h2
    go_enter Tryd.func8, Tryd.ntmps8
    go_wp2_with fail
    go_ret2
    exact PrintPost.of HF.out rfl (Below.refl _ _)
  · have d0 : decide (20000 < (cs.length : Int)) = false := decide_eq_false (by omega)
    have H2 := Lib.hid h2
    have hl2 : cs.length ≤ 20000 := by omega
    clear h2
    go_enter Tryd.func8, Tryd.ntmps8
    go_wp2_with fail
    go_loopw [4] (fun i wr => ∃ k : Nat, i = .int .i64 k ∧ k ≤ cs.length ∧ Hid (allOk (cs.take k) = true) ∧ Hid (Below w.heap.size w wr)) (fun i _ => cs.length - (intOf i).toNat)
    case atStart => exact ⟨0, rfl, Nat.zero_le _, Lib.hid rfl, Lib.hid (Below.refl _ _)⟩
    case round =>
      obtain ⟨k, rfl, hk, ht, hB⟩ := hrel
      by_cases hlt : k < cs.length
      · have d1 : decide (k < cs.length) = true := decide_eq_true hlt
        obtain ⟨ad, v0, v1, rfl, hc0, hc1, hv⟩ := HI.out k hlt
        have e0 := (hB.out.cell (World.block_lt_of_cell? w _ hc0)).trans hc0
        have e1 := (hB.out.cell (World.block_lt_of_cell? w _ hc1)).trans hc1
        rw [Go.Proofs.YtpgaimpppehpcabDoorW.PrintWords.add_field ad (k * 2) 1 (by decide)] at e1
        have hvb : CaseV wr cs[k] v0 v1 := hv.below hB.out
        cases hs : caseOk cs[k].1 cs[k].2 with
        | true =>
          have hs2 : Hid (allOk (cs.take (k + 1)) = true) := Lib.hid (by unfold allOk; rw [List.take_succ_eq_append_getElem hlt, List.all_append]; have := ht.out; unfold allOk at this; rw [this]; simp [hs])
          go_wp2_with (go_at_call 17; with_reducible refine (MayBeC cs[k] v0 v1 _ hvb).mono ?_; rintro e w1 ⟨rfl, hb⟩; rw [hs]; have HB1 := Lib.hid (below_step hB.out hb); clear hb)
          go_roundw
          case rel => exact ⟨k + 1, by go_num, hlt, hs2, HB1⟩
          case measure => simp [intOf]; omega
        | false =>
          have HF : Hid (printOut cs = ([], 1)) := Lib.hid (by unfold printOut; rw [if_neg H2.out, if_pos (by unfold allOk; rw [List.all_eq_false]; exact ⟨_, List.getElem_mem hlt, by simp [hs]⟩)])
          go_wp2_with (go_at_call 17; with_reducible refine (MayBeC cs[k] v0 v1 _ hvb).mono ?_; rintro e w1 ⟨rfl, hb⟩; rw [hs]; have HB1 := Lib.hid (below_step hB.out hb); clear hb)
          go_ret2
          exact PrintPost.of HF.out rfl HB1.out
      · have d1 : decide (k < cs.length) = false := decide_eq_false hlt
        have hT : Hid (allOk cs = true) := Lib.hid (by have := ht.out; rwa [List.take_of_length_le (by omega)] at this)
        go_wp2_with fail
        obtain ⟨wo, rfl⟩ : ∃ wo : World, wo = wr := ⟨_, rfl⟩
        go_loopw [6, 7] (fun s i wq => ∃ (k : Nat) (x : ByteArray), s = .string x ∧ i = .int .i64 k ∧ k ≤ cs.length ∧ x.size ≤ 25165837 * k ∧ Hid (x.data.toList = fileT (cs.take k)) ∧ Hid (Below w.heap.size w wq)) (fun _ i _ => cs.length - (intOf i).toNat)
        case atStart => exact ⟨0, _, rfl, rfl, Nat.zero_le _, Nat.zero_le _, Lib.hid rfl, hB⟩
        case round =>
          obtain ⟨k, x, rfl, rfl, hk, hxs, hx, hB⟩ := hrel
          by_cases hlt : k < cs.length
          · have d1 : decide (k < cs.length) = true := decide_eq_true hlt
            obtain ⟨ad, v0, v1, rfl, hc0, hc1, hv⟩ := HI.out k hlt
            have e0 := (hB.out.cell (World.block_lt_of_cell? w _ hc0)).trans hc0
            have e1 := (hB.out.cell (World.block_lt_of_cell? w _ hc1)).trans hc1
            rw [Go.Proofs.YtpgaimpppehpcabDoorW.PrintWords.add_field ad (k * 2) 1 (by decide)] at e1
            have hvb : CaseV wr cs[k] v0 v1 := hv.below hB.out
            have hfl := fileT_len HSM.out (k + 1) hlt
            have HFL := Lib.hid hfl
            have hlk := lineT_len cs[k].1 cs[k].2
            have hsk := HSM.out k hlt
            clear hfl
            by_cases h0 : 0 < k
            · have b0 : decide (0 < k) = true := decide_eq_true h0
              have HN := Lib.hid (fileT_next hlt h0)
              go_wp2_with (go_at_call 18; with_reducible refine (rshortC cs[k] v0 v1 _ hvb hsk (ok_at hT.out hlt)).mono ?_; rintro e w1 ⟨⟨y, rfl, hy⟩, hb⟩; have hys : y.size ≤ 25165836 := (by rw [← len_str, hy]; omega); have HY := Lib.hid hy; have HB1 := Lib.hid (below_step hB.out hb); clear hy hb)
              go_roundw
              case rel => exact ⟨k + 1, _, rfl, by go_num, hlt, by rw [← len_str]; refine Nat.le_trans (Nat.le_of_eq ?_) HFL.out; rw [HN.out, ← hx.out, ← HY.out]; simp, Lib.hid (by rw [HN.out, ← hx.out, ← HY.out]; simp), HB1⟩
              case measure => simp [intOf]; omega
            · have b0 : decide (0 < k) = false := decide_eq_false h0
              have HN := Lib.hid (fileT_first hlt h0)
              clear h0
              go_wp2_with (go_at_call 18; with_reducible refine (rshortC cs[k] v0 v1 _ hvb hsk (ok_at hT.out hlt)).mono ?_; rintro e w1 ⟨⟨y, rfl, hy⟩, hb⟩; have hys : y.size ≤ 25165836 := (by rw [← len_str, hy]; omega); have HY := Lib.hid hy; have HB1 := Lib.hid (below_step hB.out hb); clear hy hb)
              go_roundw
              case rel => exact ⟨k + 1, _, rfl, by go_num, hlt, by rw [← len_str]; refine Nat.le_trans (Nat.le_of_eq ?_) HFL.out; rw [HN.out.1, ← HY.out]; simp [hx.out.trans HN.out.2], Lib.hid (by rw [HN.out.1, ← HY.out]; simp [hx.out.trans HN.out.2]), HB1⟩
              case measure => simp [intOf]; omega
          · have d1 : decide (k < cs.length) = false := decide_eq_false hlt
            have hxf : x.data.toList = fileT cs := by rw [hx.out, List.take_of_length_le (by omega)]
            have HXF := Lib.hid hxf
            clear hxf
            by_cases hb : 1048576 < x.size
            · have d3 : decide (1048576 < (x.size : Int)) = true := decide_eq_true (by omega)
              have HF : Hid (printOut cs = ([], 3)) := Lib.hid (by unfold printOut; rw [if_neg H2.out, if_neg (by rw [hT.out]; decide), if_pos (by rw [← HXF.out, len_str]; exact hb)])
              clear hb
              go_wp2_with fail
              go_ret2
              exact PrintPost.of HF.out rfl hB.out
            · have d3 : decide (1048576 < (x.size : Int)) = false := decide_eq_false (by omega)
              have HF : Hid (printOut cs = (x.data.toList, 0)) := Lib.hid (by unfold printOut; rw [if_neg H2.out, if_neg (by rw [hT.out]; decide), if_neg (by rw [← HXF.out, len_str]; exact hb), HXF.out])
              clear hb
              go_wp2_with fail
              go_ret2
              exact PrintPost.of HF.out rfl hB.out
end Go.Proofs.YtpgaimpppehpcabDoor
