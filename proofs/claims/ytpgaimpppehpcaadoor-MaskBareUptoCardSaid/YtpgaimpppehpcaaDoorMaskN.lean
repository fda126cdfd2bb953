/- mask.New: what holds between its steps: the array of marks, the struct, the row of pieces, the Builder. -/
import Derived.Test.YtpgaimpppehpcaaDoorMaskW2
import Derived.Test.YtpgaimpppehpcaaDoorBuf
import Derived.Deep.AppendLies
import Derived.Test.YtpgaimpppehpcaaDoorWWords
namespace Go.Proofs.YtpgaimpppehpcaaDoor
open Go.RowKit

def zeros256 : Array Value := Array.replicate 256 (.int .i64 0)
theorem zero256 (w : World) : (zeroValue 45).run Tryd.prog w = .ok (.agg zeros256) w := by kernel_rfl
theorem zeros_at (k : Nat) (h : k < 256) : zeros256[k]? = some (.int .i64 0) := by
  unfold zeros256; rw [Array.getElem?_replicate, if_pos h]
def marksA : Array Value := (zeros256.setIfInBounds 60 (.int .i64 1)).setIfInBounds 62 (.int .i64 2)
def mkOf (c : Nat) : Int := if c = 60 then 1 else if c = 62 then 2 else 0
theorem marks_at (k : Nat) (h : k < 256) : marksA[k]? = some (.int .i64 (mkOf k)) := by
  unfold marksA mkOf
  have hz := zeros_at k h
  have hs : zeros256.size = 256 := by unfold zeros256; simp
  by_cases h62 : k = 62
  · subst h62; rw [Array.getElem?_setIfInBounds_self]; simp [hs]
  · rw [Array.getElem?_setIfInBounds_ne (by omega)]
    by_cases h60 : k = 60
    · subst h60; rw [Array.getElem?_setIfInBounds_self]; simp [hs]
    · rw [Array.getElem?_setIfInBounds_ne (by omega), hz, if_neg h60, if_neg h62]

def pc (p : Mk.Piece) : List Value := [.int .i64 (p.lo : Int), .int .i64 (p.hi : Int), .int .i64 (p.bare : Int)]
def pcs (ps : List Mk.Piece) : List Value := ps.flatMap pc
theorem pcs_snoc (ps : List Mk.Piece) (p : Mk.Piece) : pcs (ps ++ [p]) = pcs ps ++ pc p := by simp [pcs]
theorem pcs_at : ∀ (ps : List Mk.Piece) (j : Nat) (h : j < ps.length), (pcs ps)[j * 3]? = some (.int .i64 (ps[j].lo : Int)) ∧ (pcs ps)[j * 3 + 1]? = some (.int .i64 (ps[j].hi : Int)) ∧ (pcs ps)[j * 3 + 2]? = some (.int .i64 (ps[j].bare : Int))
  | [], j, h => by simp at h
  | p :: r, 0, h => by simp [pcs, pc]
  | p :: r, j + 1, h => by
    have ih := pcs_at r j (by simpa using h)
    have e : ∀ m, (pcs (p :: r))[m + 3]? = (pcs r)[m]? := fun m => rfl
    rw [show (j + 1) * 3 = j * 3 + 3 from by omega, show j * 3 + 3 + 1 = (j * 3 + 1) + 3 from by omega, show j * 3 + 3 + 2 = (j * 3 + 2) + 3 from by omega, e, e, e]
    simpa using ih

theorem strCells_eq (t : ByteArray) : Lib.strCells t = Lib.byteCells t.data.toList := rfl

/-- Builder's bytes live on where its own two blocks do. -/
theorem IsBuf.kept {B b : Nat} {bs : List Value} {w w' : World} (h : IsBuf B b bs w) (hk : ∀ i o, w.heap[i]? = some o → (i = b ∨ ∃ c f, o = .cells c 5 f) → w'.heap[i]? = some o) : IsBuf B b bs w' := by
  have one : ∀ p, Lib.BuilderAtF 52 5 B b p bs w → Lib.BuilderAtF 52 5 B b p bs w' := by
    rintro p ⟨hB, v, hb, hown, hne⟩
    refine ⟨hB, v, hk b _ hb (.inl rfl), ⟨hown.1, ?_⟩, hne⟩
    rcases hown.2 with hn | ⟨g, cap, cur, fz, hv, hbg, hg, rest⟩
    · exact .inl hn
    · exact .inr ⟨g, cap, cur, fz, hv, hbg, hk g _ hg (.inr ⟨_, _, rfl⟩), rest⟩
  exact h.elim (fun x => .inl (one _ x)) (fun x => .inr (one _ x))

theorem own_kept {w w' : World} {base size n : Nat} {e : TypeId} {v : Value} {xs : List Value} (h : w.ownsRow base e size v n xs) (hk : ∀ i c, base ≤ i → w.heap[i]? = some (.cells c e (0, 0)) → w'.heap[i]? = some (.cells c e (0, 0))) : w'.ownsRow base e size v n xs := by
  refine ⟨h.1, ?_⟩
  rcases h.2 with hn | ⟨g, cap, cur, hv, hbg, hg, rest⟩
  · exact .inl hn
  · exact .inr ⟨g, cap, cur, hv, hbg, hk g _ hbg hg, rest⟩

structure St (H : Nat) (w : World) (s : ByteArray) (b0 : List UInt8) (ps : List Mk.Piece) (v : Value) (wr : World) : Prop where
  below : Below H w wr
  size : H + 3 ≤ wr.heap.size
  marks : wr.heap[H]? = some (.cells marksA 45 (0, 0))
  text : wr.heap[H + 1]? = some (.cells #[.string s, .string ⟨#[]⟩, v] 48 (0, 0))
  own : wr.ownsRow (H + 3) 56 3 v ps.length (pcs ps)
  buf : IsBuf (H + 2) (H + 2) (Lib.byteCells b0) wr

theorem St.drewN {H : Nat} {w : World} {s : ByteArray} {b0 : List UInt8} {ps : List Mk.Piece} {v : Value} {wr : World} (h : St H w s b0 ps v wr) (n : Nat) : St H w s b0 ps v (wr.drewN n) :=
  ⟨below_drewN h.below n, h.size, h.marks, h.text, h.own, h.buf⟩

theorem St.step {H : Nat} {w : World} {s : ByteArray} {b0 l : List UInt8} {ps : List Mk.Piece} {v : Value} {wr w' : World} (h : St H w s b0 ps v wr)
    (hp : IsBuf (H + 2) (H + 2) (Lib.byteCells l) w' ∧ Below (H + 2) wr w' ∧ Lib.OthersKept 5 (some (H + 2)) wr w') : St H w s l ps v w' := by
  obtain ⟨hb, hbel, hk⟩ := hp
  refine ⟨h.below.trans (hbel.mono (by omega)), Nat.le_trans h.size hbel.size, hk _ _ h.marks (by intro e; injection e; omega) ?_, hk _ _ h.text (by intro e; injection e; omega) ?_, own_kept h.own (fun i c hi hh => hk _ _ hh (by intro e; injection e; omega) ?_), hb⟩
  · intro c fz e; injection e with e1 e2; revert e2; decide
  · intro c fz e; injection e with e1 e2; revert e2; decide
  · intro c' fz e; injection e with e1 e2; revert e2; decide
theorem St.write {H : Nat} {w : World} {s : ByteArray} {b0 : List UInt8} {ps : List Mk.Piece} {v : Value} {wr w' : World} (h : St H w s b0 ps v wr) (t : ByteArray)
    (hp : IsBuf (H + 2) (H + 2) (Lib.byteCells b0 ++ Lib.strCells t) w' ∧ Below (H + 2) wr w' ∧ Lib.OthersKept 5 (some (H + 2)) wr w') : St H w s (b0 ++ t.data.toList) ps v w' := by
  obtain ⟨hb, h2⟩ := hp
  refine h.step ⟨?_, h2⟩
  rw [strCells_eq] at hb; rw [Lib.byteCells] at hb ⊢; rw [Lib.byteCells] at hb; rw [List.map_append]; exact hb

/-- After a piece was appended and the field stored. -/
theorem St.push {H : Nat} {w : World} {s : ByteArray} {b0 : List UInt8} {ps : List Mk.Piece} {v : Value} {wr w1 : World} {g cap : Nat} (h : St H w s b0 ps v wr) (p : Mk.Piece)
    (hown : w1.ownsRow (H + 3) 56 3 (.slice (some ⟨g, 0, none⟩) (ps.length + 1) cap) (ps.length + 1) (pcs ps ++ pc p)) (hg : (wr.alloc (.cells (pc p).toArray 56)).grownBy w1 v.ownBlock) :
    St H w s b0 (ps ++ [p]) (.slice (some ⟨g, 0, none⟩) (ps.length + 1) cap) (w1.setCell ⟨H + 1, 2, none⟩ (.slice (some ⟨g, 0, none⟩) (ps.length + 1) cap)) := by
  have hgb : H + 3 ≤ g := by
    rcases hown.2 with ⟨e, _⟩ | ⟨g', c', cur, e, hb, _⟩
    · cases e
    · injection e with e; injection e with e; injection e with e; omega
  have hrow : ∀ k, v.ownBlock = some k → H + 3 ≤ k ∧ ∃ c, wr.heap[k]? = some (.cells c 56 (0, 0)) := by
    intro k hk
    rcases h.own.2 with ⟨rfl, _⟩ | ⟨g', c', cur, rfl, hb, hh, _⟩
    · simp [Value.ownBlock] at hk
    · have : g' = k := by simpa [Value.ownBlock] using hk
      subst this; exact ⟨hb, cur, hh⟩
  have keep : ∀ i o, wr.heap[i]? = some o → i ≠ H + 1 → v.ownBlock ≠ some i → (w1.setCell ⟨H + 1, 2, none⟩ (.slice (some ⟨g, 0, none⟩) (ps.length + 1) cap)).heap[i]? = some o := by
    intro i o hi hne hr
    rw [Below.heap_setCell _ _ _ _ hne]
    have hlt : i < wr.heap.size := (Array.getElem?_eq_some_iff.1 hi).1
    rw [hg.block i (by simp; omega) (fun e => hr e.symm), heap_alloc_old _ _ hlt]
    exact hi
  refine ⟨?_, ?_, keep _ _ h.marks (by omega) (fun e => by have := (hrow _ e).1; omega), ?_, ?_, ?_⟩
  · refine ((h.below.alloc (by have := h.size; omega) _).grown hg (by have := h.size; simp; omega) (fun k hk => by have := (hrow k hk).1; omega)).setCell (p := ⟨H + 1, 2, none⟩) (Nat.le_succ H) _
  · have := hg.size; have h2 := h.size; simp [World.setCell] at this ⊢; omega
  · have hlt : H + 1 < wr.heap.size := by have := h.size; omega
    have e1 : w1.heap[H + 1]? = some (.cells #[.string s, .string ⟨#[]⟩, v] 48 (0, 0)) := by
      rw [hg.block (H + 1) (by simp; omega) (fun e => by have := (hrow _ e.symm).1; omega), heap_alloc_old _ _ hlt]
      exact h.text
    have e2 := Go.Proofs.YtpgaimpppehpcaaDoorW.PrintWords.blk_set e1 2 (.slice (some ⟨g, 0, none⟩) (ps.length + 1) cap)
    exact e2
  · rw [List.length_append, List.length_singleton, pcs_snoc]
    exact Go.Proofs.YtpgaimpppehpcaaDoorW.PrintWords.own_setCell hown (by show some (H + 1) ≠ some g; intro e; injection e; omega) _
  · refine h.buf.kept (fun i o hi hio => keep i o hi ?_ ?_)
    · rintro rfl
      rcases hio with hio | ⟨c, f, rfl⟩
      · omega
      · have := h.text.symm.trans hi; injection this with e; injection e with e1 e2; revert e2; decide
    · intro e
      obtain ⟨h1, c, hc⟩ := hrow i e
      rcases hio with hio | ⟨c', f, rfl⟩
      · omega
      · have := hc.symm.trans hi; injection this with e; injection e with e1 e2; revert e2; decide

theorem St.grown {H : Nat} {w : World} {s : ByteArray} {b0 : List UInt8} {ps : List Mk.Piece} {v : Value} {wr w1 : World} {o : Obj} (h : St H w s b0 ps v wr) (hg : (wr.alloc o).grownBy w1 v.ownBlock) :
    w1.cell? ⟨H + 1, 2, none⟩ = some v ∧ w1.frozen? ⟨H + 1, 2, none⟩ = false := by
  have hlt : H + 1 < wr.heap.size := by have := h.size; omega
  have e1 : w1.heap[H + 1]? = some (.cells #[.string s, .string ⟨#[]⟩, v] 48 (0, 0)) := by
    rw [hg.block (H + 1) (by simp; omega) (fun e => by
      rcases h.own.2 with ⟨rfl, _⟩ | ⟨g', c', cur, rfl, hb, hh, _⟩
      · simp [Value.ownBlock] at e
      · simp [Value.ownBlock] at e; omega), heap_alloc_old _ _ hlt]
    exact h.text
  exact ⟨by rw [Go.Proofs.YtpgaimpppehpcaaDoorW.PrintWords.blk_cell e1]; rfl, Go.Proofs.YtpgaimpppehpcaaDoorW.PrintWords.blk_frozen e1 2⟩

theorem St.cell_mark {H : Nat} {w : World} {s : ByteArray} {b0 : List UInt8} {ps : List Mk.Piece} {v : Value} {wr : World} (h : St H w s b0 ps v wr) (c : Nat) (hc : c < 256) : wr.cell? ⟨H, c, none⟩ = some (.int .i64 (mkOf c)) := by
  rw [Go.Proofs.YtpgaimpppehpcaaDoorW.PrintWords.blk_cell h.marks]; exact marks_at c hc
theorem St.cell_text {H : Nat} {w : World} {s : ByteArray} {b0 : List UInt8} {ps : List Mk.Piece} {v : Value} {wr : World} (h : St H w s b0 ps v wr) : wr.cell? ⟨H + 1, 0, none⟩ = some (.string s) ∧ wr.cell? ⟨H + 1, 1, none⟩ = some (.string ⟨#[]⟩) ∧ wr.cell? ⟨H + 1, 2, none⟩ = some v ∧ ∀ j, wr.frozen? ⟨H + 1, j, none⟩ = false :=
  ⟨by rw [Go.Proofs.YtpgaimpppehpcaaDoorW.PrintWords.blk_cell h.text]; rfl, by rw [Go.Proofs.YtpgaimpppehpcaaDoorW.PrintWords.blk_cell h.text]; rfl, by rw [Go.Proofs.YtpgaimpppehpcaaDoorW.PrintWords.blk_cell h.text]; rfl, fun j => Go.Proofs.YtpgaimpppehpcaaDoorW.PrintWords.blk_frozen h.text j⟩

theorem St.start (w : World) (s : ByteArray) : St w.heap.size w s [] [] (.slice none 0 0) (((w.alloc (.cells marksA 45)).alloc (.cells #[.string s, .string ⟨#[]⟩, .slice none 0 0] 48)).alloc (.cells #[.pointer none, .slice none 0 0] 52)) := by
  refine ⟨(((Below.refl _ w).alloc (Nat.le_refl _) _).alloc (by simp) _).alloc (by simp; omega) _, by simp, ?_, ?_, ⟨by simp [pcs], .inl ⟨rfl, rfl⟩⟩, ?_⟩
  · rw [heap_alloc_old _ _ (by simp; omega), heap_alloc_old _ _ (by simp), heap_alloc_new]
  · rw [heap_alloc_old _ _ (by simp)]
    have := heap_alloc_new (w.alloc (.cells marksA 45)) (.cells #[.string s, .string ⟨#[]⟩, .slice none 0 0] 48)
    simpa using this
  · have := Lib.IsBuilderF.of (Lib.fresh_isBuilder 52 5 ((w.alloc (.cells marksA 45)).alloc (.cells #[.string s, .string ⟨#[]⟩, .slice none 0 0] 48)))
    have e : ((w.alloc (.cells marksA 45)).alloc (.cells #[.string s, .string ⟨#[]⟩, .slice none 0 0] 48)).heap.size = w.heap.size + 2 := by simp
    rw [e] at this
    exact this

/-- What is made is a Text. -/
theorem St.isText {H : Nat} {w : World} {s x : ByteArray} {b0 : List UInt8} {ps : List Mk.Piece} {v : Value} {wr : World} (h : St H w s b0 ps v wr) : IsText (wr.setCell ⟨H + 1, 1, none⟩ (.string x)) (H + 1) s x ps := by
  have e := Go.Proofs.YtpgaimpppehpcaaDoorW.PrintWords.blk_set h.text 1 (.string x)
  have hsz := h.size
  refine ⟨by simp [World.setCell]; omega, by rw [Go.Proofs.YtpgaimpppehpcaaDoorW.PrintWords.blk_cell e]; rfl, by rw [Go.Proofs.YtpgaimpppehpcaaDoorW.PrintWords.blk_cell e]; rfl, v, by rw [Go.Proofs.YtpgaimpppehpcaaDoorW.PrintWords.blk_cell e]; rfl, ?_⟩
  have ho := Go.Proofs.YtpgaimpppehpcaaDoorW.PrintWords.own_setCell h.own (p := ⟨H + 1, 1, none⟩) (by
    intro e'
    rcases h.own.2 with ⟨rfl, _⟩ | ⟨g', c', cur, rfl, hb, hh, _⟩
    · simp [Value.ownBlock] at e'
    · simp [Value.ownBlock] at e'; omega) (.string x)
  rcases ho.2 with ⟨rfl, h0⟩ | ⟨g, cap, cur, rfl, hb, hh, hn, hc, hcs, hx⟩
  · exact ⟨none, 0, by rw [h0], fun j hj => by omega⟩
  · refine ⟨some ⟨g, 0, none⟩, cap, rfl, fun j hj => ⟨g, rfl, (Array.getElem?_eq_some_iff.1 hh).1, ?_⟩⟩
    have hat := pcs_at ps j hj
    rw [← hx] at hat
    have up : ∀ m u, m < ps.length * 3 → (cur.toList.take (ps.length * 3))[m]? = some u → (wr.setCell ⟨H + 1, 1, none⟩ (.string x)).cell? ⟨g, m, none⟩ = some u := by
      intro m u hm hu
      rw [Go.Proofs.YtpgaimpppehpcaaDoorW.PrintWords.blk_cell hh]
      rw [List.getElem?_take, if_pos hm] at hu
      simpa using hu
    exact ⟨up _ _ (by omega) hat.1, up _ _ (by omega) hat.2.1, up _ _ (by omega) hat.2.2⟩

/-! ### The pure side of a round -/
theorem scan_len : ∀ (l : List UInt8) (i : Nat) (st : Option Nat) (b : List UInt8) (qs : List Mk.Piece) (x : List UInt8) (ps : List Mk.Piece), Mk.scan l i st b qs = some (x, ps) → qs.length ≤ ps.length
  | [], _, none, b, qs, x, ps, h => by simp only [Mk.scan, Option.some.injEq, Prod.mk.injEq] at h; rw [h.2]; exact Nat.le_refl _
  | [], _, some _, b, qs, x, ps, h => by simp [Mk.scan] at h
  | c :: r, i, none, b, qs, x, ps, h => by
    simp only [Mk.scan] at h
    split at h
    · exact scan_len r _ _ _ _ _ _ h
    · split at h
      · cases h
      · exact scan_len r _ _ _ _ _ _ h
  | c :: r, i, some f, b, qs, x, ps, h => by
    simp only [Mk.scan] at h
    split at h
    · have := scan_len r _ _ _ _ _ _ h; rw [List.length_append, List.length_singleton] at this; omega
    · split at h
      · cases h
      · exact scan_len r _ _ _ _ _ _ h

theorem take_drop_snoc (s : ByteArray) (F k : Nat) (hF : F ≤ k) (hk : k < s.size) : (s.data.toList.take (k + 1)).drop F = (s.data.toList.take k).drop F ++ [s[k]] := by
  rw [take_at s k hk, List.drop_append_of_le_length (by rw [List.length_take, len_str]; omega)]
theorem ext_mid (s : ByteArray) (F k : Nat) : (s.extract F k).data.toList = (s.data.toList.take k).drop F := by
  rw [ext_sub, List.take_drop]
  by_cases h : F ≤ k
  · rw [show F + (k - F) = k from by omega]
  · rw [List.drop_eq_nil_of_le (by simp; omega), List.drop_eq_nil_of_le (by simp; omega)]
end Go.Proofs.YtpgaimpppehpcaaDoor
