/- own: what holds while rows with marks are made. -/
import Derived.Test.YtpgaimpppehpcabDoorTestG
namespace Go.Proofs.YtpgaimpppehpcabDoor
open Go.RowKit Go.Proofs.YtpgaimpppehpcabDoorW.PrintWords

theorem intInfo : (Tryd.prog.info? 3).map (fun i => (i.zero, i.size, i.bytes)) = some (some (.int .i64 0), 1, 8) := by kernel_rfl
theorem caseInfo : (Tryd.prog.info? 36).map (fun i => (i.zero, i.size, i.bytes)) = some (some (.agg #[.slice none 0 0, .slice none 0 0]), 2, 48) := by kernel_rfl

theorem C_of_ints {w : World} {A : Option Addr} {xs : List Int} (h : IntsAt w A xs) (hl : xs.length ≤ 9223372036854775807) : iK.C w A xs.length xs := by
  refine ⟨rfl, hl, fun h0 => ?_⟩
  obtain ⟨ad, e, _⟩ := h 0 h0
  refine ⟨ad, e, fun j p hp => ?_⟩
  obtain ⟨hj, rfl⟩ := List.getElem?_eq_some_iff.1 hp
  obtain ⟨ad', e', hc⟩ := h j hj
  obtain rfl : ad' = ad := Option.some.inj (e'.symm.trans e)
  refine ⟨[.int .i64 xs[j]], rfl, rfl, fun i u hu => ?_⟩
  match i, hu with
  | 0, hu => rw [← Option.some.inj hu]; simpa [Kd.int, Kd.scalar] using hc

structure OwnSt (w wr : World) (C : Nat) (v : Value) (xs : List Case) (v0 v1 : Value) (p q : List Int) : Prop where
  m : gK.R 36 wr w.heap.size (fun k => (w.heap.size ≤ k ∧ k ≠ C ∧ some k ≠ v1.ownBlock) ∧ some k ≠ v0.ownBlock) v (xs.map .inl)
  r0 : iK.R 3 wr w.heap.size (fun k => w.heap.size ≤ k ∧ some k ≠ v1.ownBlock) v0 p
  r1 : iK.R 3 wr w.heap.size (fun k => w.heap.size ≤ k ∧ some k ≠ v0.ownBlock) v1 q
  blk : wr.heap[C]? = some (.cells #[v0, v1] 36 (0, 0))
  hC : w.heap.size ≤ C
  below : Below w.heap.size w wr

theorem OwnSt.app0 {w wr w' : World} {C : Nat} {v : Value} {xs : List Case} {v0 v1 v0' : Value} {p q p' : List Int} (h : OwnSt w wr C v xs v0 v1 p q)
    (ho : iK.R 3 w' w.heap.size (fun k => w.heap.size ≤ k ∧ some k ≠ v1.ownBlock) v0' p') (hg : wr.grownBy w' v0.ownBlock) (hat : v0'.ownBlock = v0.ownBlock ∨ ∃ b, v0'.ownBlock = some b ∧ wr.heap.size ≤ b) (hb : Below w.heap.size w w') :
    OwnSt w (w'.setCell ⟨C, 0, none⟩ v0') C v xs v0' v1 p' q := by
  have hne : some C ≠ v0.ownBlock := Kd.R_ne h.r0 h.blk (by decide)
  have hb' : w'.heap[C]? = some (.cells #[v0, v1] 36 (0, 0)) := (hg.block C (blk_lt h.blk) hne).trans h.blk
  refine ⟨?_, ?_, ?_, ?_, h.hC, hb.setCell (p := ⟨C, 0, none⟩) h.hC _⟩
  · exact Kd.R_far (p := ⟨C, 0, none⟩) (Kd.R_after h.m hg hat) (fun k hk => hk.1.2.1) _
  · exact Kd.R_mono (Kd.R_far (p := ⟨C, 0, none⟩) (Kd.R_types ho hb' (by decide)) (fun k hk => hk.2) _) (fun k hk => hk.1)
  · exact Kd.R_mono (Kd.R_far (p := ⟨C, 0, none⟩) (Kd.R_types (Kd.R_after h.r1 hg hat) hb' (by decide)) (fun k hk => hk.2) _) (fun k hk => hk.1)
  · exact blk_put (cs := #[v0, v1]) hb' 0 _ rfl

theorem OwnSt.app1 {w wr w' : World} {C : Nat} {v : Value} {xs : List Case} {v0 v1 v1' : Value} {p q q' : List Int} (h : OwnSt w wr C v xs v0 v1 p q)
    (ho : iK.R 3 w' w.heap.size (fun k => w.heap.size ≤ k ∧ some k ≠ v0.ownBlock) v1' q') (hg : wr.grownBy w' v1.ownBlock) (hat : v1'.ownBlock = v1.ownBlock ∨ ∃ b, v1'.ownBlock = some b ∧ wr.heap.size ≤ b) (hb : Below w.heap.size w w') :
    OwnSt w (w'.setCell ⟨C, 1, none⟩ v1') C v xs v0 v1' p q' := by
  have hne : some C ≠ v1.ownBlock := Kd.R_ne h.r1 h.blk (by decide)
  have hb' : w'.heap[C]? = some (.cells #[v0, v1] 36 (0, 0)) := (hg.block C (blk_lt h.blk) hne).trans h.blk
  refine ⟨?_, ?_, ?_, ?_, h.hC, hb.setCell (p := ⟨C, 1, none⟩) h.hC _⟩
  · have h2 : gK.R 36 wr w.heap.size (fun k => (w.heap.size ≤ k ∧ k ≠ C ∧ some k ≠ v0.ownBlock) ∧ some k ≠ v1.ownBlock) v (xs.map .inl) := Kd.R_mono h.m (fun k hk => ⟨⟨hk.1.1, hk.1.2.1, hk.2⟩, hk.1.2.2⟩)
    exact Kd.R_mono (Kd.R_far (p := ⟨C, 1, none⟩) (Kd.R_after h2 hg hat) (fun k hk => hk.1.2.1) _) (fun k hk => ⟨⟨hk.1.1, hk.1.2.1, hk.2⟩, hk.1.2.2⟩)
  · exact Kd.R_mono (Kd.R_far (p := ⟨C, 1, none⟩) (Kd.R_types (Kd.R_after h.r0 hg hat) hb' (by decide)) (fun k hk => hk.2) _) (fun k hk => hk.1)
  · exact Kd.R_mono (Kd.R_far (p := ⟨C, 1, none⟩) (Kd.R_types ho hb' (by decide)) (fun k hk => hk.2) _) (fun k hk => hk.1)
  · exact blk_put (cs := #[v0, v1]) hb' 1 _ rfl

/-- At the round's begin. -/
theorem OwnSt.start {w wr : World} {v : Value} {xs : List Case} (h : gK.R 36 wr w.heap.size (fun k => w.heap.size ≤ k) v (xs.map .inl)) (hb : Below w.heap.size w wr) :
    OwnSt w (wr.alloc (.cells #[.slice none 0 0, .slice none 0 0] 36)) wr.heap.size v xs (.slice none 0 0) (.slice none 0 0) [] [] :=
  ⟨Kd.R_mono (Kd.R_alloc (Kd.R_bound h) _) (fun k hk => ⟨⟨hk.1, by have := hk.2.2.1; omega, by simp [Value.ownBlock]⟩, by simp [Value.ownBlock]⟩), Kd.R_nil _ _ _ _ _, Kd.R_nil _ _ _ _ _, (by show (wr.heap.push _)[wr.heap.size]? = _; exact Array.getElem?_push_size), hb.size, hb.alloc hb.size _⟩
theorem OwnSt.drewN {w wr : World} {C : Nat} {v : Value} {xs : List Case} {v0 v1 : Value} {p q : List Int} (h : OwnSt w wr C v xs v0 v1 p q) (n : Nat) : OwnSt w (wr.drewN n) C v xs v0 v1 p q :=
  ⟨Kd.R_drewN h.m n, Kd.R_drewN h.r0 n, Kd.R_drewN h.r1 n, h.blk, h.hC, below_drewN h.below n⟩
theorem OwnSt.drew {w wr : World} {C : Nat} {v : Value} {xs : List Case} {v0 v1 : Value} {p q : List Int} (h : OwnSt w wr C v xs v0 v1 p q) : OwnSt w wr.drew C v xs v0 v1 p q := h.drewN 1
theorem OwnSt.cells {w wr : World} {C : Nat} {v : Value} {xs : List Case} {v0 v1 : Value} {p q : List Int} (h : OwnSt w wr C v xs v0 v1 p q) :
    wr.cell? ⟨C, 0, none⟩ = some v0 ∧ wr.cell? ⟨C, 1, none⟩ = some v1 ∧ wr.frozen? ⟨C, 0, none⟩ = false ∧ wr.frozen? ⟨C, 1, none⟩ = false :=
  ⟨(blk_cell h.blk 0).trans rfl, (blk_cell h.blk 1).trans rfl, blk_frozen h.blk 0, blk_frozen h.blk 1⟩
theorem OwnSt.kept0 {w wr w' : World} {C : Nat} {v : Value} {xs : List Case} {v0 v1 : Value} {p q : List Int} (h : OwnSt w wr C v xs v0 v1 p q) (hg : wr.grownBy w' v0.ownBlock) :
    w'.cell? ⟨C, 0, none⟩ = some v0 ∧ w'.cell? ⟨C, 1, none⟩ = some v1 ∧ w'.frozen? ⟨C, 0, none⟩ = false ∧ w'.frozen? ⟨C, 1, none⟩ = false :=
  have hb := blk_grown h.blk hg (Kd.R_ne h.r0 h.blk (by decide))
  ⟨(blk_cell hb 0).trans rfl, (blk_cell hb 1).trans rfl, blk_frozen hb 0, blk_frozen hb 1⟩
theorem OwnSt.kept1 {w wr w' : World} {C : Nat} {v : Value} {xs : List Case} {v0 v1 : Value} {p q : List Int} (h : OwnSt w wr C v xs v0 v1 p q) (hg : wr.grownBy w' v1.ownBlock) :
    w'.cell? ⟨C, 0, none⟩ = some v0 ∧ w'.cell? ⟨C, 1, none⟩ = some v1 ∧ w'.frozen? ⟨C, 0, none⟩ = false ∧ w'.frozen? ⟨C, 1, none⟩ = false :=
  have hb := blk_grown h.blk hg (Kd.R_ne h.r1 h.blk (by decide))
  ⟨(blk_cell hb 0).trans rfl, (blk_cell hb 1).trans rfl, blk_frozen hb 0, blk_frozen hb 1⟩
/-- The case's two cells, as an element of the row. -/
theorem OwnSt.elem {w wr : World} {C g0 g1 c0 c1 : Nat} {v : Value} {xs : List Case} {c : Case} (h : OwnSt w wr C v xs (.slice (some ⟨g0, 0, none⟩) (c.1.length + 64) c0) (.slice (some ⟨g1, 0, none⟩) (c.2.length + 64) c1) (c.1 ++ mk66) (c.2 ++ mk67)) :
    gK.M wr w.heap.size (fun k => w.heap.size ≤ k ∧ some k ≠ v.ownBlock) (.inl c) [.slice (some ⟨g0, 0, none⟩) c.1.length c0, .slice (some ⟨g1, 0, none⟩) c.2.length c1] := by
  have a0 := Kd.R_apartR h.r0 h.m (by decide)
  have a1 := Kd.R_apartR h.r1 h.m (by decide)
  exact ⟨_, _, rfl, ⟨_, _, rfl, Kd.R_mono a0 (fun k hk => ⟨hk.1.1, hk.2⟩)⟩, ⟨_, _, rfl, Kd.R_mono a1 (fun k hk => ⟨hk.1.1, hk.2⟩)⟩⟩
end Go.Proofs.YtpgaimpppehpcabDoor
