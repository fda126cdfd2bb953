/- apart: families of rows by their numbers. apart: the walk. -/
import Derived.Test.YtliimcemjjhmaaaDoorTpLi
import Derived.Test.YtliimcemjjhmaaaDoorApp
namespace Go.Proofs.YtliimcemjjhmaaaDoor
section
open Go.RowKit Go.Proofs.YtliimcemjjhmaaaDoorW.PrintWords Go.Proofs.YtliimcemjjhmaaaDoor.PTestParses

/-- n rows, no two of which have one block. -/
structure FamI (W : World) (base n : Nat) (v : Nat → Value) (x : Nat → List Int) : Prop where
  rows : ∀ j, j < n → iK.R 3 W base (fun k => some k = (v j).ownBlock) (v j) (x j)
  apart : ∀ i j, i < n → j < n → i ≠ j → ∀ k, some k = (v i).ownBlock → some k ≠ (v j).ownBlock
def updI (x : Nat → List Int) (i : Nat) (l : List Int) : Nat → List Int := fun j => if j = i then l else x j
section
variable {W X Y : World} {base n i k : Nat} {v : Nat → Value} {x : Nat → List Int}
theorem FamI.keep {S : Nat → Prop} (h : FamI W base n v x) (hk : Kept W X S) (hS : ∀ j, j < n → ∀ k, some k = (v j).ownBlock → ¬ S k) : FamI X base n v x :=
  ⟨fun j hj => Kd.R_kept (h.rows j hj) hk (fun k e => hS j hj k e), h.apart⟩
/-- Row i alone has been written. -/
theorem FamI.at {l : List Int} (h : FamI W base n v x) (hi : i < n) (hk : Kept W X (fun k => some k = (v i).ownBlock)) (hr : iK.R 3 X base (fun k => some k = (v i).ownBlock) (v i) l) : FamI X base n v (updI x i l) := by
  refine ⟨fun j hj => ?_, h.apart⟩
  unfold updI
  by_cases e : j = i
  · subst e; rw [if_pos rfl]; exact hr
  · rw [if_neg e]
    exact Kd.R_kept (h.rows j hj) hk (fun k e1 e2 => h.apart j i hj hi e k e1 e2)
theorem FamI.below (h : FamI W base n v x) (hb : Below W.heap.size W X) : FamI X base n v x := ⟨fun j hj => Kd.R_below (h.rows j hj) hb, h.apart⟩
theorem FamI.congr {y : Nat → List Int} (h : FamI W base n v x) (e : ∀ j, j < n → x j = y j) : FamI W base n v y := ⟨fun j hj => by rw [← e j hj]; exact h.rows j hj, h.apart⟩
theorem FamI.put (h : FamI W base n v x) (hi : i < n) (hk : k < (x i).length) (m : Int) : ∃ g c, v i = .slice (some ⟨g, 0, none⟩) (x i).length c ∧ base ≤ g ∧ W.cell? ⟨g, k, none⟩ = some (.int .i64 ((x i).getD k 0)) ∧ W.frozen? ⟨g, k, none⟩ = false ∧
    Kept W (W.setCell ⟨g, k, none⟩ (.int .i64 m)) (fun k => some k = (v i).ownBlock) ∧ FamI (W.setCell ⟨g, k, none⟩ (.int .i64 m)) base n v (updI x i ((x i).set k m)) := by
  have hr := h.rows i hi
  obtain ⟨g, c, hv, hb, hlt, _⟩ := Kd.R_form hr (by omega)
  have hr' := hr
  rw [hv] at hr'
  have hc := Kd.R_cell (enc := Value.int .i64) 0 hr' (k : Int) (by omega) (by omega)
  have hK : Kept W (W.setCell ⟨g, k, none⟩ (.int .i64 m)) (fun k => some k = (v i).ownBlock) := (Kept.refl W _).setCell (.inl (by rw [hv]; rfl)) _
  refine ⟨g, c, hv, hb, by simpa [rdOf] using hc.1, by simpa using hc.2, hK, h.at hi hK ?_⟩
  have hp := Kd.R_put (enc := Value.int .i64) hr' (k : Int) m
  rw [hv]
  have e : ((x i).set k m).length = (x i).length := by simp
  exact hp.1
theorem FamI.lt (h : FamI W base n v x) (hi : i < n) {k : Nat} (hk : some k = (v i).ownBlock) : base ≤ k ∧ k < W.heap.size := ⟨Kd.R_base (h.rows i hi) k hk.symm, Kd.R_lt (h.rows i hi) k hk.symm⟩
theorem FamI.typed (h : FamI W base n v x) (hi : i < n) {k : Nat} (hk : some k = (v i).ownBlock) : ∃ cells, W.heap[k]? = some (.cells cells 3 (0, 0)) := Kd.R_typed (h.rows i hi) k hk.symm
end
/-- The marks of row i. -/
def mkI (i : Nat) : Int := -200 - (i : Int)
def st1 (x : Nat → List Int) (i k : Nat) : Nat → List Int := fun j => if j < i then List.replicate (x j).length (mkI j) else if j = i then List.replicate k (mkI i) ++ (x i).drop k else x j
theorem st1_zero (x : Nat → List Int) : st1 x 0 0 = x := by
  funext j; unfold st1; rw [if_neg (by omega)]; split
  · next e => subst e; simp
  · rfl
theorem set_mark (xs : List Int) (m : Int) {k : Nat} (h : k < xs.length) : (List.replicate k m ++ xs.drop k).set k m = List.replicate (k + 1) m ++ xs.drop (k + 1) := by
  rw [List.set_append_right _ _ (by simp), List.length_replicate, Nat.sub_self, List.drop_eq_getElem_cons h, List.set_cons_zero, List.replicate_succ', List.append_assoc]; rfl
theorem st1_len (x : Nat → List Int) (i k j : Nat) (hk : k ≤ (x i).length) : (st1 x i k j).length = (x j).length := by
  unfold st1
  split
  · simp
  · split
    · next e => subst e; simp; omega
    · rfl
theorem st1_step (x : Nat → List Int) {i k : Nat} (h : k < (x i).length) : updI (st1 x i k) i ((st1 x i k i).set k (mkI i)) = st1 x i (k + 1) := by
  funext j
  unfold updI st1
  by_cases e : j = i
  · subst e
    rw [if_pos rfl, if_neg (by omega), if_pos rfl, if_neg (by omega), if_pos rfl, set_mark _ _ h]
  · rw [if_neg e]
    by_cases hlt : j < i
    · rw [if_pos hlt, if_pos hlt]
    · rw [if_neg hlt, if_neg hlt, if_neg e, if_neg e]
theorem st1_row (x : Nat → List Int) (i : Nat) : st1 x i (x i).length = st1 x (i + 1) 0 := by
  funext j
  unfold st1
  by_cases hlt : j < i
  · rw [if_pos hlt, if_pos (by omega)]
  · by_cases e : j = i
    · subst e; rw [if_neg (by omega), if_pos rfl, if_pos (by omega)]; simp
    · rw [if_neg hlt, if_neg e, if_neg (by omega)]
      split
      · next e => subst e; simp
      · rfl
def marks (x : Nat → List Int) : Nat → List Int := fun j => List.replicate (x j).length (mkI j)
theorem st1_all (x : Nat → List Int) (n j : Nat) (h : j < n) : st1 x n 0 j = marks x j := by unfold st1 marks; rw [if_pos h]

def hdrs (v : Nat → Value) (n : Nat) : List (List Value) := (List.range n).map fun j => [v j]
theorem hdrs_succ (v : Nat → Value) (n : Nat) : hdrs v (n + 1) = hdrs v n ++ [[v n]] := by unfold hdrs; rw [List.range_succ, List.map_append]; rfl
theorem hdrs_len (v : Nat → Value) (n : Nat) : (hdrs v n).length = n := by simp [hdrs]
theorem hdrs_get (v : Nat → Value) {n j : Nat} (h : j < n) : (hdrs v n)[j]? = some [v j] := by unfold hdrs; rw [List.getElem?_map, List.getElem?_range h]; rfl
theorem hdrs_congr {v u : Nat → Value} {n : Nat} (h : ∀ j, j < n → v j = u j) : hdrs v n = hdrs u n := by
  unfold hdrs; exact List.map_congr_left (fun j hj => by rw [h j (List.mem_range.1 hj)])
/-- A header's cell. -/
theorem hdrs_cell {W : World} {base n j c m : Nat} {A : Option Addr} {ok : Nat → Prop} {v : Nat → Value} (h : (rK 1).R 38 W base ok (.slice A m c) (hdrs v n)) (hj : j < n) : ∃ ad, A = some ad ∧ W.cell? (ad.add j) = some (v j) := by
  obtain ⟨_, _, hC⟩ := Kd.R_reads' h
  obtain ⟨ad, c', e, hl, hK, hcc⟩ := Kd.C_get hC [] (j : Int) (by omega) (by rw [hdrs_len]; omega)
  rw [show ((j : Int)).toNat = j from rfl, List.getD_eq_getElem?_getD, hdrs_get v hj] at hK
  have hK' : c' = [v j] ∧ _ := hK
  have hK1 := hK'.1
  subst hK1
  refine ⟨ad, e, ?_⟩
  simpa [Kd.raw] using hcc 0 _ rfl
/-- A row of headers lies in no row of numbers. -/
theorem hdrs_kept {W X : World} {base b n : Nat} {ok : Nat → Prop} {u : Value} {l : List (List Value)} {v : Nat → Value} {x : Nat → List Int} (h : (rK 1).R 38 W base ok u l) (hf : FamI W b n v x) {i : Nat} (hi : i < n) (hk : Kept W X (fun k => some k = (v i).ownBlock)) : (rK 1).R 38 X base ok u l :=
  Kd.R_mono (Kd.R_kept (S := fun k => some k = (v i).ownBlock) (Kd.R_tight rfl h) hk (fun k e hS => by
    obtain ⟨c1, h1⟩ := hf.typed hi hS
    obtain ⟨c3, h3⟩ := Kd.R_typed h k e.symm
    rw [h1] at h3
    injection h3 with h3
    injection h3 with _ h3
    exact absurd h3 (by decide))) (fun k e => h.1 k e.symm)
end

section
open Go.RowKit Go.Proofs.YtliimcemjjhmaaaDoorW.PrintWords Go.Proofs.YtliimcemjjhmaaaDoor.PTestParses

def InI (n : Nat) (v : Nat → Value) (k : Nat) : Prop := ∃ j, j < n ∧ some k = (v j).ownBlock
structure ApSt (w0 w X : World) (n : Nat) (l : Value) (v : Nat → Value) (x : Nat → List Int) : Prop where
  fam : FamI X w0.heap.size n v x
  row : (rK 1).R 38 X w0.heap.size (fun _ => True) l (hdrs v n)
  below : Below w0.heap.size w0 X
  kept : Kept w X (InI n v)
section
variable {w0 w X Y : World} {n i k : Nat} {l : Value} {v : Nat → Value} {x : Nat → List Int}
/-- What a round of a row's loop needs of the row, its header's cell. -/
theorem ApSt.head {A : Option Addr} {c m : Nat} (h : ApSt w0 w X n (.slice A m c) v x) (hi : i < n) : ∃ ad A1 c1, A = some ad ∧ v i = .slice A1 (x i).length c1 ∧ X.cell? (ad.add i) = some (.slice A1 (x i).length c1) := by
  obtain ⟨ad, e, hc⟩ := hdrs_cell h.row hi
  obtain ⟨A1, c1, hv⟩ := Kd.R_slice (h.fam.rows i hi)
  exact ⟨ad, A1, c1, e, hv, by rw [← hv]; exact hc⟩
theorem ApSt.put {A1 : Option Addr} {c1 m : Nat} (h : ApSt w0 w X n l v (st1 x i k)) (hi : i < n) (hk : k < (x i).length) (hv : v i = .slice A1 m c1) : ∃ g, A1 = some ⟨g, 0, none⟩ ∧ (∃ u, X.cell? ⟨g, k, none⟩ = some u) ∧ X.frozen? ⟨g, k, none⟩ = false ∧
    ApSt w0 w (X.setCell ⟨g, k, none⟩ (.int .i64 (mkI i))) n l v (st1 x i (k + 1)) := by
  have hl : (st1 x i k i).length = (x i).length := st1_len x i k i (by omega)
  obtain ⟨g, c, e, hb, hc, hf, hK, hF⟩ := h.fam.put hi (k := k) (by omega) (mkI i)
  rw [st1_step x hk] at hF
  rw [hv] at e
  injection e with e1 _ _
  exact ⟨g, e1, ⟨_, hc⟩, hf, hF, hdrs_kept h.row h.fam hi hK, h.below.setCell (p := ⟨g, k, none⟩) hb _, h.kept.then_ hK (fun k hk => .inl ⟨i, hi, hk⟩)⟩
end

/-- Behind the first stage: rows grown, one by one. -/
structure Ap2 (w0 w X1 X : World) (n : Nat) (l : Value) (v : Nat → Value) (x : Nat → List Int) (mv : Value) (i : Nat) (V : Nat → Value) : Prop where
  st : ApSt w0 w X n l v (marks x)
  since : X1.heap.size ≤ X.heap.size
  new : ∀ j, j < i → iK.R 3 X w0.heap.size (fun k => some k = (V j).ownBlock) (V j) (List.replicate ((x j).length + 64) (mkI j))
  own : ∀ j, j < i → (V j).ownBlock = (v j).ownBlock ∨ ∃ b, (V j).ownBlock = some b ∧ X1.heap.size ≤ b
  more : (rK 1).R 38 X X1.heap.size (fun _ => True) mv (hdrs V i)
section
variable {w0 w X1 X Y Z : World} {n i k : Nat} {l mv u : Value} {v V : Nat → Value} {x : Nat → List Int}
theorem Ap2.start (h : ApSt w0 w X1 n l v (marks x)) : Ap2 w0 w X1 X1 n l v x (.slice none 0 0) 0 (fun _ => .slice none 0 0) :=
  ⟨h, Nat.le_refl _, fun _ h => by omega, fun _ h => by omega, Kd.R_nil _ _ _ _ _⟩
theorem Ap2.grow (h : Ap2 w0 w X1 Y n l v x mv i V) (hi : i < n) : Grw iK 3 w0 Y Y (v i) (v i) (marks x i) (marks x i ++ List.replicate 0 (mkI i)) := by
  rw [List.replicate_zero, List.append_nil]
  exact Grw.start (Kd.R_mono (h.st.fam.rows i hi) (fun _ _ => trivial)) h.st.below
theorem Ap2.grown (h : Ap2 w0 w X1 Y n l v x mv i V) (h1 : ApSt w0 w X1 n l v (marks x)) (hi : i < n) (hg : Grw iK 3 w0 Y X (v i) u (marks x i) (marks x i ++ List.replicate 64 (mkI i))) :
    Ap2 w0 w X1 X n l v x mv i V ∧ iK.R 3 X w0.heap.size (fun k => some k = u.ownBlock) u (List.replicate ((x i).length + 64) (mkI i)) ∧ (u.ownBlock = (v i).ownBlock ∨ ∃ b, u.ownBlock = some b ∧ X1.heap.size ≤ b) := by
  refine ⟨⟨⟨?_, hdrs_kept h.st.row h.st.fam hi hg.kept, hg.below, h.st.kept.then_ hg.kept (fun k hk => .inl ⟨i, hi, hk⟩)⟩, Nat.le_trans h.since hg.kept.1, fun j hj => ?_, h.own, ?_⟩, ?_, ?_⟩
  · refine (h.st.fam.at hi hg.kept (iK_self hg.u)).congr (fun j hj => ?_)
    unfold updI
    split
    · next e => subst e; rfl
    · rfl
  · refine Kd.R_kept (h.new j hj) hg.kept (fun k e e2 => ?_)
    rcases h.own j hj with ho | ⟨b, ho, hle⟩
    · exact h.st.fam.apart j i (by omega) hi (by omega) k (by rw [← ho]; exact e) e2
    · rw [ho] at e
      injection e with e
      have := (h1.fam.lt hi e2).2
      omega
  · exact hdrs_kept h.more h.st.fam hi hg.kept
  · have := iK_self hg.r
    unfold marks at this
    rw [List.replicate_append_replicate] at this
    exact this
  · rcases hg.own with e | ⟨b, e, hle⟩
    · exact .inl e
    · exact .inr ⟨b, e, Nat.le_trans h.since hle⟩
def updV (V : Nat → Value) (i : Nat) (u : Value) : Nat → Value := fun j => if j = i then u else V j
theorem Ap2.push {mv' : Value} (h : Ap2 w0 w X1 X n l v x mv i V) (h1 : ApSt w0 w X1 n l v (marks x)) (hr : iK.R 3 X w0.heap.size (fun k => some k = u.ownBlock) u (List.replicate ((x i).length + 64) (mkI i))) (ho : u.ownBlock = (v i).ownBlock ∨ ∃ b, u.ownBlock = some b ∧ X1.heap.size ≤ b)
    (hm : (rK 1).R 38 Z X1.heap.size (fun _ => True) mv' (hdrs V i ++ [[u]])) (hg : X.grownBy Z mv.ownBlock) : Ap2 w0 w X1 Z n l v x mv' (i + 1) (updV V i u) := by
  have hK : Kept X Z (fun k => mv.ownBlock = some k) := Kept.of_grown hg (Kept.refl _ _) (fun k hk => .inl hk)
  have hty : ∀ {k : Nat} {cells : Array Value}, X.heap[k]? = some (.cells cells 3 (0, 0)) → ¬ mv.ownBlock = some k := fun hc e => by
    obtain ⟨c3, h3⟩ := Kd.R_typed h.more _ e
    rw [hc] at h3
    injection h3 with h3
    injection h3 with _ h3
    exact absurd h3 (by decide)
  have hbase : w.heap.size ≤ X1.heap.size := h1.kept.1
  refine ⟨⟨?_, ?_, ?_, ?_⟩, Nat.le_trans h.since hg.size, fun j hj => ?_, fun j hj => ?_, ?_⟩
  · exact h.st.fam.keep hK (fun j hj k e => by obtain ⟨c1, hc⟩ := h.st.fam.typed hj e; exact hty hc)
  · refine Kd.R_mono (Kd.R_kept (Kd.R_tight rfl h.st.row) hK (fun k e e2 => ?_)) (fun _ _ => trivial)
    have h2 := Kd.R_lt h1.row k e.symm
    have h3 := Kd.R_base h.more k e2
    omega
  · exact h.st.below.grown hg h.st.below.size (fun k e => Nat.le_trans h1.below.size (Kd.R_base h.more k e))
  · exact h.st.kept.then_ hK (fun k e => .inr (Nat.le_trans hbase (Kd.R_base h.more k e)))
  · unfold updV
    by_cases e : j = i
    · subst e; rw [if_pos rfl]
      exact Kd.R_kept hr hK (fun k e => by obtain ⟨c1, hc⟩ := Kd.R_typed hr k e.symm; exact hty hc)
    · rw [if_neg e]
      have hj' : j < i := by omega
      exact Kd.R_kept (h.new j hj') hK (fun k e => by obtain ⟨c1, hc⟩ := Kd.R_typed (h.new j hj') k e.symm; exact hty hc)
  · unfold updV
    by_cases e : j = i
    · subst e; rw [if_pos rfl]; exact ho
    · rw [if_neg e]; exact h.own j (by omega)
  · rw [hdrs_succ, show updV V i u i = u by unfold updV; rw [if_pos rfl], hdrs_congr (u := V) (fun j hj => by unfold updV; rw [if_neg (by omega)])]
    exact hm
theorem rep_cell {W : World} {b m : Nat} {ok : Nat → Prop} {u : Value} {z : Int} (h : iK.R 3 W b ok u (List.replicate m z)) (hk : k < m) : ∃ g c, u = .slice (some ⟨g, 0, none⟩) m c ∧ W.cell? ⟨g, k, none⟩ = some (.int .i64 z) := by
  obtain ⟨g, c, hv, hb, hlt, _⟩ := Kd.R_form h (by simp; omega)
  rw [hv] at h
  have hc := Kd.R_cell (enc := Value.int .i64) 0 h (k : Int) (by omega) (by simp; omega)
  rw [List.length_replicate] at hv
  refine ⟨g, c, hv, ?_⟩
  have h1 := hc.1
  unfold rdOf at h1
  rw [show ((k : Int)).toNat = k from rfl, List.getD_eq_getElem?_getD, List.getElem?_replicate, if_pos hk] at h1
  exact h1
/-- What the third stage reads. -/
theorem Ap2.at {A' A : Option Addr} {m' c' m c : Nat} (h : Ap2 w0 w X1 X n (.slice A m c) v x (.slice A' m' c') n V) (hi : i < n) : ∃ ad ad' A1 c1 g c2, A = some ad ∧ A' = some ad' ∧ m' = n ∧ X.cell? (ad.add i) = some (.slice A1 (x i).length c1) ∧ X.cell? (ad'.add i) = some (.slice (some ⟨g, 0, none⟩) ((x i).length + 64) c2) ∧
    (∀ k, k < (x i).length + 64 → X.cell? ⟨g, k, none⟩ = some (.int .i64 (mkI i))) ∧ (∀ k, k < (x i).length → ∃ g', A1 = some ⟨g', 0, none⟩ ∧ X.cell? ⟨g', k, none⟩ = some (.int .i64 (mkI i))) := by
  obtain ⟨ad, A1, c1, e, hv, hc⟩ := h.st.head hi
  obtain ⟨ad', e', hc'⟩ := hdrs_cell h.more hi
  obtain ⟨g, c2, hV, _⟩ := rep_cell (k := 0) (h.new i hi) (by omega)
  have hm := (Kd.R_reads' h.more).1
  rw [hdrs_len] at hm
  have hl : (marks x i).length = (x i).length := by simp [marks]
  rw [hl] at hv hc
  refine ⟨ad, ad', A1, c1, g, c2, e, e', hm, hc, by rw [← hV]; exact hc', fun k hk => ?_, fun k hk => ?_⟩
  · obtain ⟨g2, c3, hV2, hc2⟩ := rep_cell (h.new i hi) hk
    rw [hV] at hV2
    injection hV2 with e1 _ _
    injection e1 with e1
    injection e1 with e1
    rw [e1]; exact hc2
  · obtain ⟨g2, c3, hV2, hc2⟩ := rep_cell (h.st.fam.rows i hi) hk
    rw [hv] at hV2
    injection hV2 with e1 _ _
    exact ⟨g2, e1, hc2⟩
end

set_option maxHeartbeats 16000000 in
set_option maxRecDepth 100000 in
theorem apart_any (w0 w : World) (n c : Nat) (A : Option Addr) (v : Nat → Value) (x : Nat → List Int) (hn : n ≤ 100000) (hx : ∀ j, j < n → (x j).length ≤ 2097152) (hS : ApSt w0 w w n (.slice A n c) v x) :
    Calls Tryd.prog 9 #[.slice A n c] w fun e w' => e = .returned (.bool true) ∧ Below w0.heap.size w0 w' ∧ Kept w w' (InI n v) := by
  have HS0 := Lib.hid hS
  have HX := Lib.hid hx
  clear hS hx
  go_enter Tryd.func9, Tryd.ntmps9
  go_wp2_with fail
  go_loopw [4, 5] (fun iv _ wr => ∃ i : Nat, iv = .int .i64 i ∧ i ≤ n ∧ Hid (ApSt w0 w wr n (.slice A n c) v (st1 x i 0))) (fun iv _ _ => n - (intOf iv).toNat)
  case atStart => exact ⟨0, rfl, Nat.zero_le _, Lib.hid (by rw [st1_zero]; exact HS0.out)⟩
  case round =>
    obtain ⟨i, rfl, hi, HS⟩ := hrel
    by_cases hlt : i < n
    · have d1 : decide (i < n) = true := decide_eq_true hlt
      obtain ⟨wo, rfl⟩ : ∃ wo : World, wo = wr := ⟨_, rfl⟩
      have hxi := HX.out i hlt
      go_wp2_with fail
      go_loopw [5] (fun kv wr => ∃ k : Nat, kv = .int .i64 k ∧ k ≤ (x i).length ∧ Hid (ApSt w0 w wr n (.slice A n c) v (st1 x i k))) (fun kv _ => (x i).length - (intOf kv).toNat)
      case atStart => exact ⟨0, rfl, Nat.zero_le _, HS⟩
      case round =>
        clear HS
        obtain ⟨k, rfl, hk, HS⟩ := hrel
        obtain ⟨ad, A1, c1, rfl, hv, hc⟩ := HS.out.head hlt
        rw [st1_len x i k i hk] at hv hc
        by_cases hlk : k < (x i).length
        · have d2 : decide (k < (x i).length) = true := decide_eq_true hlk
          obtain ⟨g, rfl, ⟨u, hcu⟩, hfu, hN⟩ := HS.out.put hlt hlk hv
          have HN := Lib.hid hN
          clear hN hv
          unfold mkI at HN
          go_wp2_with fail
          go_roundw
          case rel => exact ⟨k + 1, by go_num, hlk, HN⟩
          case measure => simp [intOf]; omega
        · have d2 : decide (k < (x i).length) = false := decide_eq_false hlk
          obtain rfl : k = (x i).length := by omega
          have HN : Hid (ApSt w0 w wr n (.slice (some ad) n c) v (st1 x (i + 1) 0)) := Lib.hid (by rw [← st1_row]; exact HS.out)
          clear HS hv
          go_wp2_with fail
          go_roundw
          case rel => exact ⟨i + 1, by go_num, hlt, HN⟩
          case measure => simp [intOf]; omega
    · have d1 : decide (i < n) = false := decide_eq_false hlt
      obtain rfl : i = n := by omega
      have H1 : Hid (ApSt w0 w wr i (.slice A i c) v (marks x)) := Lib.hid ⟨HS.out.fam.congr (fun j hj => st1_all x i j hj), HS.out.row, HS.out.below, HS.out.kept⟩
      clear HS HS0
      obtain ⟨X1, rfl⟩ : ∃ z : World, z = wr := ⟨_, rfl⟩
      obtain ⟨n, rfl⟩ : ∃ z : Nat, z = i := ⟨_, rfl⟩
      go_wp2_with fail
      go_loopw [3, 6, 7, 8] (fun mv iv _ _ wr => ∃ (i : Nat) (V : Nat → Value), iv = .int .i64 i ∧ i ≤ n ∧ Hid (Ap2 w0 w X1 wr n (.slice A n c) v x mv i V)) (fun _ iv _ _ _ => n - (intOf iv).toNat)
      case atStart => exact ⟨0, _, rfl, Nat.zero_le _, Lib.hid (Ap2.start H1.out)⟩
      case round =>
        obtain ⟨i, V, rfl, hi, HA⟩ := hrel
        by_cases hlt : i < n
        · have d1 : decide (i < n) = true := decide_eq_true hlt
          obtain ⟨Y, rfl⟩ : ∃ z : World, z = wr := ⟨_, rfl⟩
          obtain ⟨ad, A1, c1, rfl, hv, hc⟩ := HA.out.st.head hlt
          have hml : (marks x i).length = (x i).length := by simp [marks]
          rw [hml] at hv hc
          have HML := Lib.hid hml
          have HV := Lib.hid hv
          have hxi := HX.out i hlt
          clear hml hv
          go_wp2_with fail
          go_loopw [7, 8] (fun m kv wr => ∃ k : Nat, kv = .int .i64 k ∧ k ≤ 64 ∧ Hid (Grw iK 3 w0 Y wr (v i) m (marks x i) (marks x i ++ List.replicate k (mkI i)))) (fun _ kv _ => 64 - (intOf kv).toNat)
          case atStart => exact ⟨0, rfl, by decide, Lib.hid (by rw [← HV.out]; exact HA.out.grow hlt)⟩
          case round =>
            obtain ⟨k, rfl, hk, HG⟩ := hrel
            by_cases hlk : k < 64
            · have d2 : decide ((k : Int) < 64) = true := decide_eq_true (by omega)
              have hgl : (marks x i ++ List.replicate k (mkI i)).length = (x i).length + k := by simp [HML.out]
              have HGL := Lib.hid hgl
              clear hgl
              go_wp2_with (at_builtin; refine R_append_two iK (w0 := w0) (W := wr) w0.heap.size rfl (.tmp 48) (.tmp 51) 38 3 (.int .i64 0) 8 rfl Tryd.underlying38 intInfo rfl (by decide) (by decide) _ (marks x i ++ List.replicate k (mkI i)) (mkI i) [.int .i64 (mkI i)] (fun _ => True) (fun _ => False) rfl rfl ?aP (fun _ h => h.elim) (fun _ _ => trivial) HG.out.r HG.out.below HG.out.below.size (by rw [HGL.out]; omega) ?_; (case aP => exact rfl); intro v1 w1 ho hb' hat; have HGN := Lib.hid (HG.out.step ho hb' hat); clear ho hb' hat)
              go_roundw
              case rel => exact ⟨k + 1, by go_num, by omega, Lib.hid (by rw [List.replicate_succ', ← List.append_assoc]; exact HGN.out)⟩
              case measure => simp [intOf]; omega
            · have d2 : decide ((k : Int) < 64) = false := decide_eq_false (by omega)
              obtain rfl : k = 64 := by omega
              obtain ⟨ha2, hru, hou⟩ := HA.out.grown H1.out hlt HG.out
              have HA2 := Lib.hid ha2
              have HRU := Lib.hid hru
              have HOU := Lib.hid hou
              clear ha2 hru hou HA hc
              obtain ⟨g, c2, hu, _⟩ := rep_cell (k := 0) HRU.out (by omega)
              subst hu
              go_wp2_with (at_builtin; refine Kd.R_append (rK 1) (w0 := wr) (W := wr) X1.heap.size rfl (.tmp 53) (.tmp 55) 31 38 (.slice none 0 0) 24 rfl Tryd.underlying31 sliceInfo rfl (by decide) (by decide) _ (hdrs V i) [.slice (some ⟨g, 0, none⟩) ((x i).length + 64) c2] [.slice (some ⟨g, 0, none⟩) ((x i).length + 64) c2] (fun _ => True) (fun _ => False) rfl rfl ?bP (fun _ h => h.elim) (fun _ _ => trivial) HA2.out.more (Below.refl _ _) HA2.out.since (by rw [hdrs_len]; omega) ?_; (case bP => exact ⟨rfl, rfl, fun u hu => by rw [List.mem_singleton.1 hu]; rfl⟩); intro mv' w9 ho hb' hg' hat; have HN := Lib.hid (HA2.out.push H1.out HRU.out HOU.out ho hg'); clear ho hb' hg' hat)
              go_roundw
              case rel => exact ⟨i + 1, _, by go_num, hlt, HN⟩
              case measure => simp [intOf]; omega
        · have d1 : decide (i < n) = false := decide_eq_false hlt
          obtain rfl : i = n := by omega
          obtain ⟨A', c', hmv⟩ := Kd.R_slice HA.out.more
          rw [hdrs_len] at hmv
          subst hmv
          go_wp2_with fail
          obtain ⟨n, rfl⟩ : ∃ z : Nat, z = i := ⟨_, rfl⟩
          go_loop [9, 10] (fun iv _ => ∃ i : Nat, iv = .int .i64 i ∧ i ≤ n) (fun iv _ => n - (intOf iv).toNat)
          case atStart => exact ⟨0, rfl, Nat.zero_le _⟩
          case round =>
            obtain ⟨i, rfl, hi⟩ := hrel
            by_cases hlt : i < n
            · have d1 : decide (i < n) = true := decide_eq_true hlt
              obtain ⟨ad, ad', A1, c1, g, c2, rfl, rfl, _, hc, hc', hnew, hold⟩ := HA.out.at hlt
              have HNEW := Lib.hid hnew
              have HOLD := Lib.hid hold
              have hxi := HX.out i hlt
              clear hnew hold
              go_wp2_with fail
              go_loop [10] (fun kv => ∃ k : Nat, kv = .int .i64 k ∧ k ≤ (x i).length + 64) (fun kv => (x i).length + 64 - (intOf kv).toNat)
              case atStart => exact ⟨0, rfl, Nat.zero_le _⟩
              case round =>
                obtain ⟨k, rfl, hk⟩ := hrel
                by_cases hlk : k < (x i).length + 64
                · have d2 : decide ((k : Int) < (x i).length + 64) = true := decide_eq_true (by omega)
                  have hck := HNEW.out k hlk
                  unfold mkI at hck
                  by_cases hlo : k < (x i).length
                  · have d3 : decide (k < (x i).length) = true := decide_eq_true hlo
                    obtain ⟨g', rfl, hck'⟩ := HOLD.out k hlo
                    unfold mkI at hck'
                    go_wp2_with fail
                    go_round
                    case rel => exact ⟨k + 1, by go_num, by omega⟩
                    case measure => simp [intOf]; omega
                  · have d3 : decide (k < (x i).length) = false := decide_eq_false hlo
                    go_wp2_with fail
                    go_round
                    case rel => exact ⟨k + 1, by go_num, by omega⟩
                    case measure => simp [intOf]; omega
                · have d2 : decide ((k : Int) < (x i).length + 64) = false := decide_eq_false (by omega)
                  go_wp2_with fail
                  go_round
                  case rel => exact ⟨i + 1, by go_num, hlt⟩
                  case measure => simp [intOf]; omega
            · have d1 : decide (i < n) = false := decide_eq_false hlt
              go_wp2_with fail
              go_ret
              exact ⟨rfl, HA.out.st.below, HA.out.st.kept⟩
end
end Go.Proofs.YtliimcemjjhmaaaDoor
