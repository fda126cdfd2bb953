/- outer: two lists of cases, written full and grown: the walk. outer: the walk. -/
import Derived.Test.YtliimcemjjhmaaaDoorTpAp
namespace Go.Proofs.YtliimcemjjhmaaaDoor
section
open Go.RowKit Go.Proofs.YtliimcemjjhmaaaDoorW.PrintWords Go.Proofs.YtliimcemjjhmaaaDoor.PTestParses

def eOf (B : Nat) : List Value := [.slice (some ⟨B, 0, none⟩) 1 1, .slice none 0 0]
def fillE (B k : Nat) (l : List (List Value)) : List (List Value) := List.replicate k (eOf B) ++ l.drop k
theorem fillE_zero (B : Nat) (l : List (List Value)) : fillE B 0 l = l := by simp [fillE]
theorem fillE_len (B : Nat) {k : Nat} {l : List (List Value)} (h : k ≤ l.length) : (fillE B k l).length = l.length := by simp [fillE]; omega
theorem fillE_all (B : Nat) (l : List (List Value)) : fillE B l.length l = List.replicate l.length (eOf B) := by simp [fillE]
theorem fillE_set (B : Nat) {k : Nat} {l : List (List Value)} (h : k < l.length) : (fillE B k l).set k (eOf B) = fillE B (k + 1) l := by
  unfold fillE
  rw [List.set_append_right _ _ (by simp), List.length_replicate, Nat.sub_self, List.drop_eq_getElem_cons h, List.set_cons_zero, List.replicate_succ', List.append_assoc]; rfl
structure OuSt (w0 w X : World) (a b : Value) (B1 B2 : Nat × Int) (lv mv : Value) (ls ms : List (List Value)) : Prop where
  l : (rK 2).R 40 X w0.heap.size (fun k => some k = lv.ownBlock) lv ls
  m : (rK 2).R 40 X w0.heap.size (fun k => some k = mv.ownBlock) mv ms
  apart : ∀ k, some k = lv.ownBlock → some k ≠ mv.ownBlock
  one : X.heap[B1.1]? = some (.cells #[.int .i64 B1.2] 3 (0, 0))
  two : X.heap[B2.1]? = some (.cells #[.int .i64 B2.2] 3 (0, 0))
  below : Below w0.heap.size w0 X
  kept : Kept w X (fun k => some k = a.ownBlock ∨ some k = b.ownBlock)
  lo : lv.ownBlock = a.ownBlock ∨ ∃ g, lv.ownBlock = some g ∧ w.heap.size ≤ g
  mo : mv.ownBlock = b.ownBlock ∨ ∃ g, mv.ownBlock = some g ∧ w.heap.size ≤ g
section
variable {w0 w X Y : World} {a b lv mv : Value} {B1 B2 : Nat × Int} {k : Nat} {ls ms : List (List Value)}
theorem raw_self {n : Nat} {e base : Nat} {ok : Nat → Prop} {v : Value} {xs : List (List Value)} (h : (rK n).R e X base ok v xs) : (rK n).R e X base (fun k => some k = v.ownBlock) v xs := Kd.R_tight rfl h
theorem blk_int_ne {v : Value} {xs : List (List Value)} {B : Nat} {cells : Array Value} {base : Nat} {ok : Nat → Prop} (h : (rK 2).R 40 X base ok v xs) (hb : X.heap[B]? = some (.cells cells 3 (0, 0))) : some B ≠ v.ownBlock := Kd.R_ne h hb (by decide)
/-- List l has been written, in its row or by a new one. -/
theorem OuSt.wrote {lv' : Value} {ls' : List (List Value)} (h : OuSt w0 w X a b B1 B2 lv mv ls ms) (hr : (rK 2).R 40 Y w0.heap.size (fun _ => True) lv' ls') (hg : X.grownBy Y lv.ownBlock) (hat : lv'.ownBlock = lv.ownBlock ∨ ∃ g, lv'.ownBlock = some g ∧ X.heap.size ≤ g) : OuSt w0 w Y a b B1 B2 lv' mv ls' ms := by
  have hK : Kept X Y (fun k => lv.ownBlock = some k) := Kept.of_grown hg (Kept.refl _ _) (fun k hk => .inl hk)
  refine ⟨raw_self hr, Kd.R_kept h.m hK (fun k e e2 => h.apart k e2.symm e), fun k e e2 => ?_, ?_, ?_, ?_, ?_, ?_, h.mo⟩
  · rcases hat with e3 | ⟨g, e3, hle⟩
    · exact h.apart k (by rw [← e3]; exact e) e2
    · rw [e3] at e; injection e with e; have := Kd.R_lt h.m k e2.symm; omega
  · exact blk_kept h.one hK (fun e => blk_int_ne h.l h.one e.symm)
  · exact blk_kept h.two hK (fun e => blk_int_ne h.l h.two e.symm)
  · exact h.below.grown hg h.below.size (fun k e => Kd.R_base h.l k e)
  · refine h.kept.then_ hK (fun k e => ?_)
    rcases h.lo with e3 | ⟨g, e3, hle⟩
    · exact .inl (.inl (by rw [← e3]; exact e.symm))
    · rw [e3] at e; injection e with e; exact .inr (by omega)
  · rcases hat with e3 | ⟨g, e3, hle⟩
    · rcases h.lo with e4 | ⟨g, e4, hle⟩
      · exact .inl (e3.trans e4)
      · exact .inr ⟨g, e3.trans e4, hle⟩
    · exact .inr ⟨g, e3, Nat.le_trans h.kept.1 hle⟩
theorem OuSt.swap (h : OuSt w0 w X a b B1 B2 lv mv ls ms) : OuSt w0 w X b a B2 B1 mv lv ms ls :=
  ⟨h.m, h.l, fun k e e2 => h.apart k e2 e, h.two, h.one, h.below, h.kept.mono (fun _ hk => hk.symm), h.mo, h.lo⟩
theorem OuSt.box (h : OuSt w0 w X a b B1 B2 lv mv ls ms) (o : Obj) : OuSt w0 w (X.alloc o) a b B1 B2 lv mv ls ms :=
  ⟨Kd.R_alloc h.l o, Kd.R_alloc h.m o, h.apart, blk_alloc h.one o, blk_alloc h.two o, h.below.alloc h.below.size o, h.kept.alloc o, h.lo, h.mo⟩
/-- A store of a case at place k of l. -/
theorem OuSt.set {A : Option Addr} {n c : Nat} (h : OuSt w0 w X a b B1 B2 (.slice A n c) mv (fillE B1.1 k ls) ms) (hk : k < ls.length) : ∃ g, A = some ⟨g, 0, none⟩ ∧ (∃ u v, X.cell? ⟨g, k * 2, none⟩ = some u ∧ X.cell? ⟨g, k * 2 + 1, none⟩ = some v) ∧ X.frozen? ⟨g, k * 2, none⟩ = false ∧ X.frozen? ⟨g, k * 2 + 1, none⟩ = false ∧
    OuSt w0 w ((X.setCell ⟨g, k * 2, none⟩ (.slice (some ⟨B1.1, 0, none⟩) 1 1)).setCell ⟨g, k * 2 + 1, none⟩ (.slice none 0 0)) a b B1 B2 (.slice A n c) mv (fillE B1.1 (k + 1) ls) ms := by
  have hl := fillE_len B1.1 (Nat.le_of_lt hk)
  obtain ⟨g, c', hv, _⟩ := Kd.R_form h.l (by omega)
  injection hv with hA hn hc
  subst hA
  have hn' : n = ls.length := by omega
  obtain ⟨ce, hcl, hM, hcc, hfr⟩ := Kd.R_elem h.l [] (k : Int) (by omega) (by omega)
  have hP := Kd.R_seg h.l (k : Int) (by omega) (by omega) (seg := eOf B1.1) (j := 0) hcl hcc (show 2 ≤ 2 from by decide) (x' := eOf B1.1) (okp := fun _ => False) (by
    have : ce.take 0 ++ eOf B1.1 ++ ce.drop (0 + (eOf B1.1).length) = eOf B1.1 := by
      rw [List.drop_eq_nil_of_le (by rw [hcl]; exact Nat.le_refl _)]; simp
    rw [this]
    exact ⟨rfl, rfl, fun u hu => by simp [eOf] at hu; rcases hu with rfl | rfl <;> rfl⟩) (fun _ hk => hk.elim)
  rw [show ((k : Int)).toNat = k from rfl, fillE_set B1.1 hk] at hP
  match ce, hcl, hcc with
  | [u, v], _, hcc =>
    refine ⟨g, rfl, ⟨u, v, hcc 0 _ rfl, hcc 1 _ rfl⟩, hfr 0, hfr 1, ?_⟩
    exact h.wrote (Kd.R_mono hP.1 (fun _ _ => trivial)) hP.2 (.inl rfl)
theorem OuSt.read {A : Option Addr} {n c m i : Nat} (h : OuSt w0 w X a b B1 B2 (.slice A n c) mv (List.replicate m (eOf B1.1)) ms) (hi : i < m) : ∃ g, A = some ⟨g, 0, none⟩ ∧ n = m ∧ X.cell? ⟨g, i * 2, none⟩ = some (.slice (some ⟨B1.1, 0, none⟩) 1 1) ∧ X.cell? ⟨B1.1, 0, none⟩ = some (.int .i64 B1.2) := by
  obtain ⟨g, c', hv, _⟩ := Kd.R_form h.l (by simp; omega)
  injection hv with hA hn hc
  subst hA
  rw [List.length_replicate] at hn
  obtain ⟨ce, hcl, hM, hcc, hfr⟩ := Kd.R_elem h.l [] (i : Int) (by omega) (by omega)
  rw [show ((i : Int)).toNat = i from rfl, List.getD_eq_getElem?_getD, List.getElem?_replicate, if_pos hi] at hM
  have hM' : ce = eOf B1.1 ∧ _ := hM
  have h1 := hM'.1
  subst h1
  exact ⟨g, rfl, hn, hcc 0 _ rfl, (blk_cell h.one 0).trans rfl⟩
theorem OuSt.len {A : Option Addr} {n c : Nat} (h : OuSt w0 w X a b B1 B2 (.slice A n c) mv ls ms) : n = ls.length := (Kd.R_reads' h.l).1
end
theorem OuSt.start {w0 w : World} {lv mv : Value} {ls ms : List (List Value)} (hl : (rK 2).R 40 w w0.heap.size (fun k => some k = lv.ownBlock) lv ls) (hm : (rK 2).R 40 w w0.heap.size (fun k => some k = mv.ownBlock) mv ms)
    (ha : ∀ k, some k = lv.ownBlock → some k ≠ mv.ownBlock) (hb : Below w0.heap.size w0 w) : OuSt w0 w ((w.alloc (.cells #[.int .i64 1] 3)).alloc (.cells #[.int .i64 2] 3)) lv mv (w.heap.size, 1) (w.heap.size + 1, 2) lv mv ls ms :=
  ⟨Kd.R_alloc (Kd.R_alloc hl _) _, Kd.R_alloc (Kd.R_alloc hm _) _, ha, blk_alloc (blk_new _ _) _, (by have := blk_new (w.alloc (.cells #[.int .i64 1] 3)) (.cells #[.int .i64 2] 3); rwa [World.size_alloc] at this), (hb.alloc hb.size _).alloc (by have := hb.size; simp; omega) _, ((Kept.refl w _).alloc _).alloc _, .inl rfl, .inl rfl⟩
end

section
open Go.RowKit Go.Proofs.YtliimcemjjhmaaaDoorW.PrintWords Go.Proofs.YtliimcemjjhmaaaDoor.PTestParses

set_option maxHeartbeats 16000000 in
set_option maxRecDepth 100000 in
theorem outer_any (w0 w : World) (A1 A2 : Option Addr) (c1 c2 : Nat) (ls ms : List (List Value)) (h1 : ls.length ≤ 20000) (h2 : ms.length ≤ 20000)
    (hS : OuSt w0 w ((w.alloc (.cells #[.int .i64 1] 3)).alloc (.cells #[.int .i64 2] 3)) (.slice A1 ls.length c1) (.slice A2 ms.length c2) (w.heap.size, 1) (w.heap.size + 1, 2) (.slice A1 ls.length c1) (.slice A2 ms.length c2) ls ms) :
    Calls Tryd.prog 10 #[(.slice A1 ls.length c1), (.slice A2 ms.length c2)] w fun e w' => e = .returned (.bool true) ∧ Below w0.heap.size w0 w' ∧ Kept w w' (fun k => some k = (Value.slice A1 ls.length c1).ownBlock ∨ some k = (Value.slice A2 ms.length c2).ownBlock) := by
  have HS0 := Lib.hid hS
  clear hS
  go_enter Tryd.func10, Tryd.ntmps10
  go_wp2_with fail
  go_loopw [7] (fun iv wr => ∃ k : Nat, iv = .int .i64 k ∧ k ≤ ls.length ∧ Hid (OuSt w0 w wr (.slice A1 ls.length c1) (.slice A2 ms.length c2) (w.heap.size, 1) (w.heap.size + 1, 2) (.slice A1 ls.length c1) (.slice A2 ms.length c2) (fillE w.heap.size k ls) ms)) (fun iv _ => ls.length - (intOf iv).toNat)
  case atStart => exact ⟨0, rfl, Nat.zero_le _, Lib.hid (by rw [fillE_zero]; exact HS0.out)⟩
  case round =>
    clear HS0
    obtain ⟨k, rfl, hk, HS⟩ := hrel
    by_cases hlt : k < ls.length
    · have d1 : decide (k < ls.length) = true := decide_eq_true hlt
      obtain ⟨g, rfl, ⟨u, v, hu, hv⟩, hfu, hfv, hN⟩ := HS.out.set hlt
      have HN := Lib.hid hN
      clear hN
      go_wp2_with fail
      go_roundw
      case rel => exact ⟨k + 1, by go_num, hlt, HN⟩
      case measure => simp [intOf]; omega
    · have d1 : decide (k < ls.length) = false := decide_eq_false hlt
      obtain rfl : k = ls.length := by omega
      have H1 : Hid (OuSt w0 w wr (.slice A2 ms.length c2) (.slice A1 ls.length c1) (w.heap.size + 1, 2) (w.heap.size, 1) (.slice A2 ms.length c2) (.slice A1 ls.length c1) ms (List.replicate ls.length (eOf w.heap.size))) := Lib.hid (by rw [← fillE_all]; exact HS.out.swap)
      clear HS
      obtain ⟨Y, rfl⟩ : ∃ z : World, z = wr := ⟨_, rfl⟩
      go_wp2_with fail
      go_loopw [8] (fun iv wr => ∃ k : Nat, iv = .int .i64 k ∧ k ≤ ms.length ∧ Hid (OuSt w0 w wr (.slice A2 ms.length c2) (.slice A1 ls.length c1) (w.heap.size + 1, 2) (w.heap.size, 1) (.slice A2 ms.length c2) (.slice A1 ls.length c1) (fillE (w.heap.size + 1) k ms) (List.replicate ls.length (eOf w.heap.size)))) (fun iv _ => ms.length - (intOf iv).toNat)
      case atStart => exact ⟨0, rfl, Nat.zero_le _, Lib.hid (by rw [fillE_zero]; exact H1.out)⟩
      case round =>
        clear H1
        obtain ⟨k, rfl, hk, HS⟩ := hrel
        by_cases hlt : k < ms.length
        · have d1 : decide (k < ms.length) = true := decide_eq_true hlt
          obtain ⟨g, rfl, ⟨u, v, hu, hv⟩, hfu, hfv, hN⟩ := HS.out.set hlt
          have HN := Lib.hid hN
          clear hN
          go_wp2_with fail
          go_roundw
          case rel => exact ⟨k + 1, by go_num, hlt, HN⟩
          case measure => simp [intOf]; omega
        · have d1 : decide (k < ms.length) = false := decide_eq_false hlt
          obtain rfl : k = ms.length := by omega
          have H1 : Hid (OuSt w0 w wr (.slice A1 ls.length c1) (.slice A2 ms.length c2) (w.heap.size, 1) (w.heap.size + 1, 2) (.slice A1 ls.length c1) (.slice A2 ms.length c2) (List.replicate (ls.length + 0) (eOf w.heap.size)) (List.replicate (ms.length + 0) (eOf (w.heap.size + 1)))) := Lib.hid (by have h9 := HS.out; rw [fillE_all] at h9; exact h9.swap)
          clear HS
          obtain ⟨Z, rfl⟩ : ∃ z : World, z = wr := ⟨_, rfl⟩
          go_wp2_with fail
          go_loopw [0, 1, 9] (fun lv mv iv wr => ∃ k : Nat, iv = .int .i64 k ∧ k ≤ 64 ∧ Hid (OuSt w0 w wr (.slice A1 ls.length c1) (.slice A2 ms.length c2) (w.heap.size, 1) (w.heap.size + 1, 2) lv mv (List.replicate (ls.length + k) (eOf w.heap.size)) (List.replicate (ms.length + k) (eOf (w.heap.size + 1))))) (fun _ _ iv _ => 64 - (intOf iv).toNat)
          case atStart => exact ⟨0, rfl, by decide, H1⟩
          case round =>
            clear H1
            obtain ⟨k, rfl, hk, HS⟩ := hrel
            by_cases hlt : k < 64
            · have d1 : decide ((k : Int) < 64) = true := decide_eq_true (by omega)
              go_wp2_with (first | (at_builtin; refine Kd.R_append (rK 2) (w0 := wr) (W := wr) w0.heap.size rfl (.tmp 40) (.tmp 43) 22 40 (.agg #[.slice none 0 0, .slice none 0 0]) 48 rfl Tryd.underlying22 caseInfo rfl (by decide) (by decide) _ (List.replicate (ls.length + k) (eOf w.heap.size)) (eOf w.heap.size) (eOf w.heap.size) (fun _ => True) (fun _ => False) rfl rfl ?aP (fun _ h => h.elim) (fun _ _ => trivial) (Kd.R_mono HS.out.l (fun _ _ => trivial)) (Below.refl _ _) HS.out.below.size (by rw [List.length_replicate]; omega) ?_; (case aP => exact ⟨rfl, rfl, fun u hu => by simp [eOf] at hu; rcases hu with rfl | rfl <;> rfl⟩); intro v1 w1 ho hb' hg' hat; rw [← List.replicate_succ'] at ho; have HS2 := Lib.hid (HS.out.wrote ho hg' hat).swap; clear ho hb' hg' hat) | (at_builtin; refine Kd.R_append (rK 2) (w0 := w1) (W := w1) w0.heap.size rfl (.tmp 45) (.tmp 48) 22 40 (.agg #[.slice none 0 0, .slice none 0 0]) 48 rfl Tryd.underlying22 caseInfo rfl (by decide) (by decide) _ (List.replicate (ms.length + k) (eOf (w.heap.size + 1))) (eOf (w.heap.size + 1)) (eOf (w.heap.size + 1)) (fun _ => True) (fun _ => False) rfl rfl ?bP (fun _ h => h.elim) (fun _ _ => trivial) (Kd.R_mono HS2.out.l (fun _ _ => trivial)) (Below.refl _ _) HS2.out.below.size (by rw [List.length_replicate]; omega) ?_; (case bP => exact ⟨rfl, rfl, fun u hu => by simp [eOf] at hu; rcases hu with rfl | rfl <;> rfl⟩); intro v2 w2 ho hb' hg' hat; rw [← List.replicate_succ'] at ho; have HS3 := Lib.hid (HS2.out.wrote ho hg' hat).swap; clear ho hb' hg' hat))
              go_roundw
              case rel => exact ⟨k + 1, by go_num, by omega, HS3⟩
              case measure => simp [intOf]; omega
            · have d1 : decide ((k : Int) < 64) = false := decide_eq_false (by omega)
              obtain rfl : k = 64 := by omega
              obtain ⟨A3, c3, rfl⟩ := Kd.R_slice HS.out.l
              obtain ⟨A4, c4, rfl⟩ := Kd.R_slice HS.out.m
              rw [List.length_replicate, List.length_replicate] at HS
              go_wp2_with fail
              go_loop [10] (fun iv => ∃ i : Nat, iv = .int .i64 i ∧ i ≤ ls.length + 64) (fun iv => ls.length + 64 - (intOf iv).toNat)
              case atStart => exact ⟨0, rfl, Nat.zero_le _⟩
              case round =>
                obtain ⟨i, rfl, hi⟩ := hrel
                by_cases hlt : i < ls.length + 64
                · have d2 : decide ((i : Int) < ls.length + 64) = true := decide_eq_true (by omega)
                  obtain ⟨g, rfl, _, hc1, hc2⟩ := HS.out.read hlt
                  go_wp2_with fail
                  go_round
                  case rel => exact ⟨i + 1, by go_num, by omega⟩
                  case measure => simp [intOf]; omega
                · have d2 : decide ((i : Int) < ls.length + 64) = false := decide_eq_false (by omega)
                  go_wp2_with fail
                  go_loop [11] (fun iv => ∃ i : Nat, iv = .int .i64 i ∧ i ≤ ms.length + 64) (fun iv => ms.length + 64 - (intOf iv).toNat)
                  case atStart => exact ⟨0, rfl, Nat.zero_le _⟩
                  case round =>
                    obtain ⟨i, rfl, hi⟩ := hrel
                    by_cases hlt : i < ms.length + 64
                    · have d2 : decide ((i : Int) < ms.length + 64) = true := decide_eq_true (by omega)
                      obtain ⟨g, rfl, _, hc1, hc2⟩ := HS.out.swap.read hlt
                      go_wp2_with fail
                      go_round
                      case rel => exact ⟨i + 1, by go_num, by omega⟩
                      case measure => simp [intOf]; omega
                    · have d2 : decide ((i : Int) < ms.length + 64) = false := decide_eq_false (by omega)
                      go_wp2_with fail
                      go_ret
                      exact ⟨rfl, HS.out.below, HS.out.kept⟩
end
end Go.Proofs.YtliimcemjjhmaaaDoor
