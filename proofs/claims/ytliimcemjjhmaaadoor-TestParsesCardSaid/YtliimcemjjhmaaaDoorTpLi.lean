/- lists: the rows of cases, as a list of their slices: the walk. -/
import Derived.Test.YtliimcemjjhmaaaDoorTpPa
namespace Go.Proofs.YtliimcemjjhmaaaDoor
open Go.RowKit Go.Proofs.YtliimcemjjhmaaaDoorW.PrintWords Go.Proofs.YtliimcemjjhmaaaDoor.PTestParses

def flatV (hs : List Hd) : List (List Value) := hs.flatMap fun h => [[h.1], [h.2]]
theorem flatV_take {hs : List Hd} {k : Nat} (h : k < hs.length) : flatV (hs.take (k + 1)) = flatV (hs.take k) ++ [[hs[k].1], [hs[k].2]] := by
  unfold flatV; rw [List.take_succ_eq_append_getElem h, List.flatMap_append]; rfl
theorem flatV_len (hs : List Hd) : (flatV hs).length = 2 * hs.length := by
  unfold flatV; induction hs with
  | nil => rfl
  | cons h r ih => simp at ih ⊢; omega
theorem flatV_R : ∀ (hs : List Hd) (cs : List S40), hs.length = cs.length → flatV hs = (flatR hs cs).map fun p => [p.1]
  | [], [], _ => rfl
  | h :: hs, c :: cs, e => by
    have ih := flatV_R hs cs (by simpa using e)
    unfold flatV at ih ⊢
    simp [flatR, ih]
def HdsAt (w : World) (A : Option Addr) (hs : List Hd) : Prop := ∀ k (h : k < hs.length), ∃ ad A1 n1 c1 A2 n2 c2, A = some ad ∧ hs[k] = (.slice A1 n1 c1, .slice A2 n2 c2) ∧ w.cell? (ad.add (k * 2)) = some (.slice A1 n1 c1) ∧ w.cell? (ad.add (k * 2 + 1)) = some (.slice A2 n2 c2)
theorem CasesOwn.at {W : World} {base : Nat} {A : Option Addr} {n c : Nat} {hs : List Hd} {cs : List S40} (h : CasesOwn W base (.slice A n c) hs cs) : HdsAt W A hs := by
  intro k hk
  have hkc : k < cs.length := by rw [← h.len]; exact hk
  obtain ⟨h1, h2⟩ := flatR_at k hk hkc
  obtain ⟨A1, c1, e1⟩ := h.fam.form h1
  obtain ⟨A2, c2, e2⟩ := h.fam.form h2
  obtain ⟨_, _, hC⟩ := Kd.R_reads' h.row
  obtain ⟨ad, c', e, hl, hK, hcc⟩ := Kd.C_get hC [] (k : Int) (by omega) (by rw [List.length_map]; omega)
  rw [show ((k : Int)).toNat = k from rfl, List.getD_eq_getElem?_getD, List.getElem?_map, List.getElem?_eq_getElem hk] at hK
  have hK' : c' = hdV hs[k] ∧ _ := hK
  have hK1 := hK'.1
  subst hK1
  have e1' : hs[k].1 = .slice A1 cs[k].f0.length c1 := e1
  have e2' : hs[k].2 = .slice A2 cs[k].f1.length c2 := e2
  refine ⟨ad, A1, _, c1, A2, _, c2, e, Prod.ext e1' e2', ?_, ?_⟩
  · rw [← e1']; simpa [hdV, Kd.raw] using hcc 0 _ rfl
  · rw [← e2']; simpa [hdV, Kd.raw] using hcc 1 _ rfl
theorem HdsAt.below {w X : World} {A : Option Addr} {hs : List Hd} (h : HdsAt w A hs) (hb : Below w.heap.size w X) : HdsAt X A hs := by
  intro k hk
  obtain ⟨ad, A1, n1, c1, A2, n2, c2, e, e2, h1, h2⟩ := h k hk
  exact ⟨ad, A1, n1, c1, A2, n2, c2, e, e2, (hb.cell (World.block_lt_of_cell? w _ h1)).trans h1, (hb.cell (World.block_lt_of_cell? w _ h2)).trans h2⟩
theorem sliceInfo : (Tryd.prog.info? 38).map (fun i => (i.zero, i.size, i.bytes)) = some (some (.slice none 0 0), 1, 24) := by kernel_rfl
theorem two_rows {W : World} (u v : Value) (hu : u.oneCell' = true) (hv : v.oneCell' = true) (g : Nat) (h : W.heap[g]? = some (.cells #[u, v] 38 (0, 0))) :
    ReadsRow (fun x cs => cs = x ∧ cs.length = 1 ∧ ∀ u ∈ cs, u.oneCell' = true) 1 W (some ⟨g, 0, none⟩) 2 [[u], [v]] := by
  refine ⟨rfl, by decide, fun _ => ⟨_, rfl, fun j p hp => ?_⟩⟩
  match j, hp with
  | 0, hp =>
    obtain rfl := Option.some.inj hp
    refine ⟨[u], rfl, ⟨rfl, rfl, fun x hx => by rw [List.mem_singleton.1 hx]; exact hu⟩, fun i x hx => ?_⟩
    match i, hx with
    | 0, hx => obtain rfl := Option.some.inj hx; exact (blk_cell h 0).trans rfl
  | 1, hp =>
    obtain rfl := Option.some.inj hp
    refine ⟨[v], rfl, ⟨rfl, rfl, fun x hx => by rw [List.mem_singleton.1 hx]; exact hv⟩, fun i x hx => ?_⟩
    match i, hx with
    | 0, hx => obtain rfl := Option.some.inj hx; exact (blk_cell h 1).trans rfl

set_option maxHeartbeats 4000000 in
set_option maxRecDepth 100000 in
theorem lists_any (A : Option Addr) (c : Nat) (hs : List Hd) (w : World) (hl : hs.length ≤ 20000) (hA : HdsAt w A hs) :
    Calls Tryd.prog 8 #[.slice A hs.length c] w fun e w' => (∃ v, e = .returned v ∧ (rK 1).R 38 w' w.heap.size (fun _ => True) v (flatV hs)) ∧ Below w.heap.size w w' := by
  have HI := Lib.hid hA
  clear hA
  go_enter Tryd.func8, Tryd.ntmps8
  go_wp2_with fail
  go_loopw [3, 4] (fun v i wr => ∃ k : Nat, i = .int .i64 k ∧ k ≤ hs.length ∧ Hid ((rK 1).R 38 wr w.heap.size (fun _ => True) v (flatV (hs.take k))) ∧ Hid (Below w.heap.size w wr)) (fun _ i _ => hs.length - (intOf i).toNat)
  case atStart => exact ⟨0, rfl, Nat.zero_le _, Lib.hid (Kd.R_nil _ _ _ _ _), Lib.hid (Below.refl _ _)⟩
  case round =>
    obtain ⟨k, rfl, hk, HR, HB⟩ := hrel
    by_cases hlt : k < hs.length
    · have d1 : decide (k < hs.length) = true := decide_eq_true hlt
      obtain ⟨ad, A1, n1, c1, A2, n2, c2, rfl, he, h0w, h1w⟩ := HI.out k hlt
      rw [Go.Proofs.YtliimcemjjhmaaaDoorW.PrintWords.add_field ad (k * 2) 1 (by decide)] at h1w
      have HL : Hid (∀ w8, Below w.heap.size w w8 → w8.cell? (ad.add (k * 2)) = some (.slice A1 n1 c1) ∧ w8.cell? ⟨(ad.add (k * 2)).block, (ad.add (k * 2)).off + 1, none⟩ = some (.slice A2 n2 c2)) := Lib.hid (fun w8 hb => ⟨(hb.cell (World.block_lt_of_cell? w _ h0w)).trans h0w, (hb.cell (World.block_lt_of_cell? w _ h1w)).trans h1w⟩)
      obtain ⟨h0, h1⟩ := HL.out _ HB.out
      clear h0w h1w
      have HH := Lib.hid he
      clear he
      have hkl : (flatV (hs.take k)).length = 2 * k := by rw [flatV_len, List.length_take, Nat.min_eq_left hk]
      have HKL := Lib.hid hkl
      clear hkl
      go_wp2_with fail
      have HBW : Hid (Below w.heap.size w (wr.drew.alloc (.cells #[.slice A1 n1 c1, .slice A2 n2 c2] 38))) := Lib.hid ((below_drew HB.out).alloc HB.out.size _)
      have HRW : Hid ((rK 1).R 38 (wr.drew.alloc (.cells #[.slice A1 n1 c1, .slice A2 n2 c2] 38)) w.heap.size (fun _ => True) u3 (flatV (hs.take k))) := Lib.hid (Kd.R_alloc (Kd.R_drew HR.out) _)
      go_region_held3 (fun w' => w'.cell? (ad.add (k * 2)) = some (.slice A1 n1 c1) ∧ w'.cell? ⟨(ad.add (k * 2)).block, (ad.add (k * 2)).off + 1, none⟩ = some (.slice A2 n2 c2)) (first | (go_keep; done) | exact ⟨h0, h1⟩ | exact ⟨k0, k1⟩)
        ((refine Kd.R_append_rows_step (rK 1) (Rr := fun x cs => cs = x ∧ cs.length = 1 ∧ ∀ u ∈ cs, u.oneCell' = true) (w0 := w) (W := wr.drew.alloc (.cells #[.slice A1 n1 c1, .slice A2 n2 c2] 38)) w.heap.size (by rfl) (.tmp 11) (.tmp 22) 31 38 (.slice none 0 0) 24 (by rfl) Tryd.underlying31 sliceInfo rfl (by decide) (by decide) u3 (flatV (hs.take k)) [[.slice A1 n1 c1], [.slice A2 n2 c2]] (some ⟨wr.drew.heap.size, 0, none⟩) 2 2 (fun _ => True) (fun _ => False) (by rfl) (by rfl) HRW.out (two_rows _ _ rfl rfl _ (blk_new _ _)) (fun _ _ h => h) (fun _ h => h.elim) (fun _ _ => trivial) HBW.out HBW.out.size (by rw [HKL.out]; omega) ?_; intro v' w8 ho hb' hg' hat; have HN := Lib.hid ho; have HBN := Lib.hid hb'; obtain ⟨k0, k1⟩ := HL.out w8 hb'; clear ho hb' hg' hat))
      go_wp2_with fail
      go_roundw
      case rel => exact ⟨k + 1, by go_num, hlt, Lib.hid (by rw [flatV_take hlt, HH.out]; exact HN.out), HBN⟩
      case measure => simp [intOf]; omega
    · have d1 : decide (k < hs.length) = false := decide_eq_false hlt
      obtain rfl : k = hs.length := by omega
      go_wp2_with fail
      go_ret
      refine ⟨⟨_, rfl, ?_⟩, HB.out⟩
      have := HR.out
      rw [List.take_length] at this
      exact this
end Go.Proofs.YtliimcemjjhmaaaDoor
