/- Texts with markup, as plain functions on lists: what New makes of a text, where its pieces lie, what Out and In answer. -/
namespace Go.Proofs.YtpgaimpppehpcaaDoor.Mk

/-- A piece of markup: from, to, the offset of the bare text. -/
structure Piece where
  lo : Nat
  hi : Nat
  bare : Nat

def isMark (c : UInt8) : Bool := c.toNat == 60 || c.toNat == 62
def Plain (l : List UInt8) : Prop := ∀ c ∈ l, isMark c = false

/-- What New does, byte by byte: 'open_': where the markup began that is open. -/
def scan : List UInt8 → Nat → Option Nat → List UInt8 → List Piece → Option (List UInt8 × List Piece)
  | [], _, none, b, ps => some (b, ps)
  | [], _, some _, _, _ => none
  | c :: r, i, none, b, ps => if c.toNat = 60 then scan r (i + 1) (some i) b ps else if c.toNat = 62 then none else scan r (i + 1) none (b ++ [c]) ps
  | c :: r, i, some f, b, ps => if c.toNat = 62 then scan r (i + 1) none b (ps ++ [⟨f, i + 1, b.length⟩]) else if c.toNat = 60 then none else scan r (i + 1) (some f) b ps

theorem isMark_no {c : UInt8} (h : isMark c = false) : c.toNat ≠ 60 ∧ c.toNat ≠ 62 := by
  unfold isMark at h; simp at h; exact h

theorem scan_plain : ∀ (p r : List UInt8) (i : Nat) (b : List UInt8) (ps : List Piece), Plain p → scan (p ++ r) i none b ps = scan r (i + p.length) none (b ++ p) ps
  | [], r, i, b, ps, _ => by simp
  | c :: p, r, i, b, ps, h => by
    have hc := isMark_no (h c List.mem_cons_self)
    rw [List.cons_append, scan, if_neg hc.1, if_neg hc.2, scan_plain p r (i + 1) (b ++ [c]) ps (fun x hx => h x (List.mem_cons_of_mem _ hx))]
    rw [List.append_assoc, List.length_cons, show i + 1 + p.length = i + (p.length + 1) from by omega]; rfl

theorem scan_inside : ∀ (m r : List UInt8) (i f : Nat) (b : List UInt8) (ps : List Piece), Plain m → scan (m ++ 62 :: r) i (some f) b ps = scan r (i + m.length + 1) none b (ps ++ [⟨f, i + m.length + 1, b.length⟩])
  | [], r, i, f, b, ps, _ => by rw [List.nil_append, scan, if_pos (by decide)]; rfl
  | c :: m, r, i, f, b, ps, h => by
    have hc := isMark_no (h c List.mem_cons_self)
    rw [List.cons_append, scan, if_neg hc.2, if_neg hc.1, scan_inside m r (i + 1) f b ps (fun x hx => h x (List.mem_cons_of_mem _ hx))]
    rw [List.length_cons, show i + 1 + m.length + 1 = i + (m.length + 1) + 1 from by omega]

theorem scan_mark (m r : List UInt8) (i : Nat) (b : List UInt8) (ps : List Piece) (h : Plain m) :
    scan (60 :: (m ++ 62 :: r)) i none b ps = scan r (i + (m.length + 2)) none b (ps ++ [⟨i, i + (m.length + 2), b.length⟩]) := by
  rw [scan, if_pos (by decide), scan_inside m r (i + 1) i b ps h, show i + 1 + m.length + 1 = i + (m.length + 2) from by omega]

/-- A text that was put together, its bare text, its pieces. -/
inductive Good : List UInt8 → List UInt8 → List Piece → Prop
  | nil : Good [] [] []
  | plain {t b ps} (p : List UInt8) : Good t b ps → Plain p → Good (t ++ p) (b ++ p) ps
  | mark {t b ps} (m : List UInt8) : Good t b ps → Plain m → Good (t ++ (60 :: m ++ [62])) b (ps ++ [⟨t.length, t.length + (m.length + 2), b.length⟩])

theorem Good.scan_eq {t b : List UInt8} {ps : List Piece} (h : Good t b ps) : ∀ r, scan (t ++ r) 0 none [] [] = scan r t.length none b ps := by
  induction h with
  | nil => intro r; rfl
  | @plain t b ps p _ hp ih =>
    intro r
    rw [List.append_assoc, ih, scan_plain p r _ _ _ hp, List.length_append]
  | @mark t b ps m _ hm ih =>
    intro r
    have e : t ++ (60 :: m ++ [62]) ++ r = t ++ (60 :: (m ++ 62 :: r)) := by simp
    rw [e, ih, scan_mark m r _ _ _ hm]
    simp [Nat.add_assoc]

theorem Good.scan_all {t b : List UInt8} {ps : List Piece} (h : Good t b ps) : scan t 0 none [] [] = some (b, ps) := by
  have := h.scan_eq []
  rw [List.append_nil] at this
  rw [this]; rfl

/-- How many bytes of markup the first j pieces have. -/
def A (ps : List Piece) (j : Nat) : Nat := ((ps.take j).map fun p => p.hi - p.lo).sum

theorem A_zero (ps : List Piece) : A ps 0 = 0 := by simp [A]
theorem A_succ {ps : List Piece} {j : Nat} (h : j < ps.length) : A ps (j + 1) = A ps j + (ps[j].hi - ps[j].lo) := by
  unfold A; rw [List.take_succ_eq_append_getElem h, List.map_append, List.sum_append]; rfl
theorem A_app {ps : List Piece} {p : Piece} {j : Nat} (h : j ≤ ps.length) : A (ps ++ [p]) j = A ps j := by
  unfold A; rw [List.take_append_of_le_length h]
theorem A_all {ps : List Piece} {j : Nat} (h : ps.length ≤ j) : A ps j = A ps ps.length := by
  unfold A; rw [List.take_of_length_le h, List.take_of_length_le (Nat.le_refl _)]
theorem A_mono {ps : List Piece} : ∀ {j k : Nat}, j ≤ k → A ps j ≤ A ps k := by
  intro j k h
  induction k with
  | zero => obtain rfl : j = 0 := by omega
            exact Nat.le_refl _
  | succ k ih =>
    rcases Nat.lt_or_ge k ps.length with hk | hk
    · rcases Nat.lt_or_ge j (k + 1) with h' | h'
      · have := ih (by omega); rw [A_succ hk]; omega
      · obtain rfl : j = k + 1 := by omega
        exact Nat.le_refl _
    · rcases Nat.lt_or_ge j (k + 1) with h' | h'
      · have := ih (by omega); rw [A_all (j := k) hk] at this; rw [A_all (j := k + 1) (by omega)]; exact this
      · obtain rfl : j = k + 1 := by omega
        exact Nat.le_refl _

/-- What is known of the pieces. -/
structure Facts (t b : List UInt8) (ps : List Piece) : Prop where
  from_ : ∀ j (h : j < ps.length), ps[j].lo = ps[j].bare + A ps j
  pos : ∀ j (h : j < ps.length), ps[j].lo < ps[j].hi
  le : ∀ j (h : j < ps.length), ps[j].bare ≤ b.length
  mono : ∀ j k (h : j < ps.length) (k' : k < ps.length), j ≤ k → ps[j].bare ≤ ps[k].bare
  total : t.length = b.length + A ps ps.length
  byte : ∀ i (h : i < b.length) (j : Nat), j ≤ ps.length → (∀ q (hq : q < ps.length), q < j → ps[q].bare ≤ i) → (∀ q (hq : q < ps.length), j ≤ q → i < ps[q].bare) → t[i + A ps j]? = some b[i]

theorem Good.facts {t b : List UInt8} {ps : List Piece} (h : Good t b ps) : Facts t b ps := by
  induction h with
  | nil => exact ⟨fun j h => by simp at h, fun j h => by simp at h, fun j h => by simp at h, fun j k h => by simp at h, by simp [A], fun i h => by simp at h⟩
  | @plain t b ps p _ hp ih =>
    refine ⟨ih.from_, ih.pos, fun j h => ?_, ih.mono, ?_, fun i h j hj h1 h2 => ?_⟩
    · have := ih.le j h; simp; omega
    · have := ih.total; simp; omega
    · by_cases hi : i < b.length
      · have e := ih.byte i hi j hj h1 h2
        rw [List.getElem?_append_left (by have := (List.getElem?_eq_some_iff.1 e).1; exact this), e, List.getElem_append_left hi]
      · have hjl : j = ps.length := by
          rcases Nat.lt_or_ge j ps.length with h' | h'
          · have := h2 j h' (Nat.le_refl _); have := ih.le j h'; omega
          · omega
        have ht := ih.total
        rw [hjl, List.getElem?_append_right (by omega), List.getElem_append_right (by omega), show i + A ps ps.length - t.length = i - b.length from by omega]
        rw [List.length_append] at h
        exact List.getElem?_eq_getElem (by omega)
  | @mark t b ps m _ hm ih =>
    have ht := ih.total
    refine ⟨fun j h => ?_, fun j h => ?_, fun j h => ?_, fun j k h k' hjk => ?_, ?_, fun i h j hj h1 h2 => ?_⟩
    · rw [A_app (by simp at h; omega)]
      rw [List.length_append] at h
      by_cases hj : j < ps.length
      · rw [List.getElem_append_left hj]; exact ih.from_ j hj
      · obtain rfl : j = ps.length := by simp at h; omega
        simp; omega
    · rw [List.length_append] at h
      by_cases hj : j < ps.length
      · rw [List.getElem_append_left hj]; exact ih.pos j hj
      · obtain rfl : j = ps.length := by simp at h; omega
        simp
    · rw [List.length_append] at h
      by_cases hj : j < ps.length
      · rw [List.getElem_append_left hj]; exact ih.le j hj
      · obtain rfl : j = ps.length := by simp at h; omega
        simp
    · rw [List.length_append] at h k'
      by_cases hk : k < ps.length
      · rw [List.getElem_append_left (show j < ps.length by omega), List.getElem_append_left hk]; exact ih.mono j k (by omega) hk hjk
      · obtain rfl : k = ps.length := by simp at k'; omega
        by_cases hj : j < ps.length
        · rw [List.getElem_append_left hj]; simp; exact ih.le j hj
        · obtain rfl : j = ps.length := by omega
          exact Nat.le_refl _
    · rw [show (ps ++ [(⟨t.length, t.length + (m.length + 2), b.length⟩ : Piece)]).length = ps.length + 1 from by simp]
      rw [A_succ (by simp), A_app (Nat.le_refl _)]
      simp; omega
    · have hj' : j ≤ ps.length := by
        rcases Nat.lt_or_ge ps.length j with h' | h'
        · have := h1 ps.length (by simp) h'; simp at this; omega
        · exact h'
      have e := ih.byte i h j hj' (fun q hq hqj => by have := h1 q (by simp; omega) hqj; rwa [List.getElem_append_left hq] at this) (fun q hq hjq => by have := h2 q (by simp; omega) hjq; rwa [List.getElem_append_left hq] at this)
      rw [A_app hj', List.getElem?_append_left (by have := (List.getElem?_eq_some_iff.1 e).1; exact this), e]

/-- The number of pieces ahead of an offset: behind (or ahead of) what stands there. -/
structure OutIdx (ps : List Piece) (i : Nat) (behind : Bool) (j : Nat) : Prop where
  le : j ≤ ps.length
  below : ∀ q (h : q < ps.length), q < j → (ps[q].bare < i ∨ behind = true ∧ ps[q].bare = i)
  above : ∀ q (h : q < ps.length), j ≤ q → (i < ps[q].bare ∨ behind = false ∧ ps[q].bare = i)
structure InIdx (ps : List Piece) (k : Nat) (j : Nat) : Prop where
  le : j ≤ ps.length
  below : ∀ q (h : q < ps.length), q < j → ps[q].hi ≤ k
  above : ∀ q (h : q < ps.length), j ≤ q → k < ps[q].hi

theorem OutIdx.uniq {ps : List Piece} {i : Nat} {bh : Bool} {j k : Nat} (h : OutIdx ps i bh j) (h' : OutIdx ps i bh k) : j = k := by
  rcases Nat.lt_trichotomy j k with hl | he | hl
  · have hj : j < ps.length := by have := h'.le; omega
    have h1 := h.above j hj (Nat.le_refl _); have h2 := h'.below j hj hl
    cases bh <;> simp at h1 h2 <;> omega
  · exact he
  · have hj : k < ps.length := by have := h.le; omega
    have h1 := h'.above k hj (Nat.le_refl _); have h2 := h.below k hj hl
    cases bh <;> simp at h1 h2 <;> omega

variable {t b : List UInt8} {ps : List Piece}

theorem out_le (F : Facts t b ps) {i j : Nat} (hi : i ≤ b.length) : i + A ps j ≤ t.length := by
  have := F.total
  have h2 : A ps j ≤ A ps ps.length := by
    rcases Nat.lt_or_ge j ps.length with h | h
    · exact A_mono (by omega)
    · rw [A_all h]; exact Nat.le_refl _
  omega

/-- ahead of i: all pieces at smaller offsets; behind i-1 the same ones. -/
theorem out_step {i j k : Nat} (h : OutIdx ps (i + 1) false j) (h' : OutIdx ps i true k) : j = k := by
  have e : OutIdx ps (i + 1) false k := ⟨h'.le, fun q hq hqk => by have := h'.below q hq hqk; simp at this ⊢; omega, fun q hq hqk => by have := h'.above q hq hqk; simp at this ⊢; omega⟩
  exact h.uniq e
theorem out_first {j : Nat} (h : OutIdx ps 0 false j) : j = 0 := by
  rcases Nat.eq_zero_or_pos j with h0 | h0
  · exact h0
  · have hl := h.le
    have := h.below 0 (by omega) h0
    simp at this
theorem out_last (F : Facts t b ps) {j : Nat} (h : OutIdx ps b.length true j) : b.length + A ps j = t.length := by
  have hj : j = ps.length := by
    rcases Nat.lt_or_ge j ps.length with h' | h'
    · have h1 := h.above j h' (Nat.le_refl _); have := F.le j h'; simp at h1; omega
    · have := h.le; omega
  rw [hj, F.total]
theorem out_mono {i j k : Nat} (h : OutIdx ps i false j) (h' : OutIdx ps i true k) : j ≤ k := by
  rcases Nat.lt_or_ge k j with hl | hl
  · have hk : k < ps.length := by have := h.le; omega
    have h1 := h.below k hk hl; have h2 := h'.above k hk (Nat.le_refl _)
    simp at h1 h2; omega
  · exact hl

/-- What In answers. -/
def inAt (ps : List Piece) (k j : Nat) : Nat := if h : j < ps.length then (if ps[j].lo < k then ps[j].bare else k - A ps j) else k - A ps j

theorem in_at (F : Facts t b ps) {i k j0 j1 q : Nat} (h0 : OutIdx ps i false j0) (h1 : OutIdx ps i true j1) (hq : InIdx ps k q) (ha : i + A ps j0 ≤ k) (hb : k ≤ i + A ps j1) : inAt ps k q = i := by
  have hto : ∀ p (h : p < ps.length), ps[p].hi = ps[p].bare + A ps (p + 1) := fun p h => by
    have := F.from_ p h; have := F.pos p h; rw [A_succ h]; omega
  have hq1 : q ≤ j1 := by
    rcases Nat.lt_or_ge j1 q with hl | hl
    · have hj : j1 < ps.length := by have := hq.le; omega
      have e := hq.below j1 hj hl
      have := hto j1 hj; have := F.pos j1 hj; have := F.from_ j1 hj
      have h2 := h1.above j1 hj (Nat.le_refl _)
      simp at h2; omega
    · exact hl
  have hq0 : j0 ≤ q := by
    rcases Nat.lt_or_ge q j0 with hl | hl
    · have hj : q < ps.length := by have := h0.le; omega
      have e := hq.above q hj (Nat.le_refl _)
      have := hto q hj
      have h2 := h0.below q hj hl
      have h3 := A_mono (ps := ps) (show q + 1 ≤ j0 by omega)
      simp at h2; omega
    · exact hl
  unfold inAt
  split
  · rename_i hlt
    rcases Nat.lt_or_ge q j1 with hl | hl
    · have h2 := h0.above q hlt hq0; have h3 := h1.below q hlt hl
      have hf := F.from_ q hlt
      have hbare : ps[q].bare = i := by simp at h2 h3; omega
      split
      · exact hbare
      · -- at its very begin
        have hk : ps[q].lo ≤ k := by
          rcases Nat.lt_or_ge q (j0 + 1) with h' | h'
          · obtain rfl : q = j0 := by omega
            omega
          · have hp : q - 1 < ps.length := by omega
            have e := hq.below (q - 1) hp (by omega)
            have h4 := h0.above (q - 1) hp (by omega); have h5 := h1.below (q - 1) hp (by omega)
            have h6 := hto (q - 1) hp
            rw [show q - 1 + 1 = q from by omega] at h6
            simp at h4 h5; omega
        omega
    · obtain rfl : q = j1 := by omega
      have h2 := h1.above q hlt (Nat.le_refl _)
      have hf := F.from_ q hlt
      simp at h2
      rw [if_neg (by omega)]
      have : i + A ps q ≤ k := by
        rcases Nat.lt_or_ge j0 q with h' | h'
        · have hp : q - 1 < ps.length := by omega
          have e := hq.below (q - 1) hp (by omega)
          have h4 := h0.above (q - 1) hp (by omega); have h5 := h1.below (q - 1) hp (by omega)
          have h6 := hto (q - 1) hp
          rw [show q - 1 + 1 = q from by omega] at h6
          simp at h4 h5; omega
        · obtain rfl : j0 = q := by omega
          exact ha
      omega
  · rename_i hlt
    have hql : q = ps.length := by have := hq.le; omega
    have hj1 : j1 = q := by have := h1.le; omega
    have : i + A ps q ≤ k := by
      rcases Nat.lt_or_ge j0 q with h' | h'
      · have hp : q - 1 < ps.length := by omega
        have e := hq.below (q - 1) hp (by omega)
        have h4 := h0.above (q - 1) hp (by omega); have h5 := h1.below (q - 1) hp (by omega)
        have h6 := hto (q - 1) hp
        rw [show q - 1 + 1 = q from by omega] at h6
        simp at h4 h5; omega
      · obtain rfl : j0 = q := by omega
        exact ha
    rw [hj1] at hb
    omega
end Go.Proofs.YtpgaimpppehpcaaDoor.Mk
