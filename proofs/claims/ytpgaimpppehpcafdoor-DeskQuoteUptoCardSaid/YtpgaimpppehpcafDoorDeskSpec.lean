/- The words of a line, as plain functions on lists of bytes. -/
namespace Go.Proofs.YtpgaimpppehpcafDoor.Dw

def hexa (c : Int) : Int := if 48 ≤ c ∧ c ≤ 57 then c - 48 else if 97 ≤ c ∧ c ≤ 102 then c - 97 + 10 else if 65 ≤ c ∧ c ≤ 70 then c - 65 + 10 else -1

theorem hexa_range (c : Int) : -1 ≤ hexa c ∧ hexa c ≤ 15 := by unfold hexa; repeat' split <;> omega

/-- The escape at the head of a list (its first byte is a backslash): the byte, how many it takes. -/
def esc : List UInt8 → Option (UInt8 × Nat)
  | _ :: c :: r =>
    if c.toNat = 34 ∨ c.toNat = 92 then some (c, 2) else if c.toNat = 110 then some (10, 2)
    else if c.toNat = 120 then match r with
      | h :: l :: _ => if 0 ≤ hexa h.toNat ∧ 0 ≤ hexa l.toNat then some (UInt8.ofNat (16 * hexa h.toNat + hexa l.toNat).toNat, 4) else none
      | _ => none
    else none
  | _ => none

theorem esc_n {l : List UInt8} {b : UInt8} {n : Nat} (h : esc l = some (b, n)) : 2 ≤ n ∧ n ≤ l.length := by
  unfold esc at h
  split at h
  · split at h
    · simp only [Option.some.injEq, Prod.mk.injEq] at h; simp; omega
    · split at h
      · simp only [Option.some.injEq, Prod.mk.injEq] at h; simp; omega
      · split at h
        · split at h
          · split at h
            · simp only [Option.some.injEq, Prod.mk.injEq] at h; simp; omega
            · cases h
          · cases h
        · cases h
  · cases h

/-- Behind the first mark, up to the next: the word, and what stands behind it. -/
def quo : List UInt8 → Option (List UInt8 × List UInt8)
  | [] => none
  | c :: r =>
    if c.toNat = 34 then (if r = [] ∨ (r.headD 0).toNat = 32 then some ([], r) else none)
    else if c.toNat = 92 then (match esc (c :: r) with
      | some (b, n) => (quo (r.drop (n - 1))).map fun x => (b :: x.1, x.2)
      | none => none)
    else if c.toNat < 32 ∨ 126 < c.toNat then none
    else (quo r).map fun x => (c :: x.1, x.2)
termination_by l => l.length
decreasing_by all_goals (simp [List.length_drop]; try omega)

theorem quo_le : ∀ (k : Nat) (l : List UInt8) (w rest : List UInt8), l.length ≤ k → quo l = some (w, rest) → rest.length < l.length
  | 0, l, w, rest, hk, h => by
    have : l = [] := List.length_eq_zero_iff.1 (by omega)
    subst this; simp [quo] at h
  | k + 1, [], w, rest, hk, h => by simp [quo] at h
  | k + 1, c :: r, w, rest, hk, h => by
    rw [quo] at h
    simp only [List.length_cons] at hk ⊢
    split at h
    · split at h
      · simp only [Option.some.injEq, Prod.mk.injEq] at h; obtain ⟨_, rfl⟩ := h; omega
      · cases h
    · split at h
      · split at h
        · rename_i b n he
          obtain ⟨x, hx, e⟩ := Option.map_eq_some_iff.1 h
          simp only [Prod.mk.injEq] at e
          have := quo_le k _ _ _ (by rw [List.length_drop]; omega) hx
          rw [List.length_drop] at this
          rw [← e.2]; omega
        · cases h
      · split at h
        · cases h
        · obtain ⟨x, hx, e⟩ := Option.map_eq_some_iff.1 h
          simp only [Prod.mk.injEq] at e
          have := quo_le k _ _ _ (by omega) hx
          rw [← e.2]; omega

def okc (c : UInt8) : Bool := 33 ≤ c.toNat && c.toNat ≤ 126 && c.toNat != 34
def nb (c : UInt8) : Bool := c != 32
theorem nb_iff (c : UInt8) : nb c = true ↔ c.toNat ≠ 32 := by
  unfold nb; rw [bne_iff_ne]; exact not_congr ⟨fun h => by rw [h]; rfl, fun h => UInt8.toNat_inj.1 h⟩

def plainS (l : List UInt8) : Option (List UInt8 × List UInt8) := if (l.takeWhile nb).all okc then some (l.takeWhile nb, l.dropWhile nb) else none

/-- The words of a line. -/
def words : List UInt8 → Option (List (List UInt8))
  | [] => some []
  | c :: r =>
    if c.toNat = 32 then words r
    else if c.toNat = 34 then (match quo r with
      | some (w, rest) => if rest.length ≤ r.length then (words rest).map (w :: ·) else none
      | none => none)
    else if ((c :: r).takeWhile nb).all okc then (words (r.dropWhile nb)).map ((c :: r).takeWhile nb :: ·) else none
termination_by l => l.length
decreasing_by
  · simp
  · simp; omega
  · have := (List.dropWhile_sublist (l := r) nb).length_le; simp; omega

theorem words_blank (c : UInt8) (hc : c.toNat = 32) (r : List UInt8) : words (c :: r) = words r := by rw [words]; simp [hc]
theorem words_trim : ∀ l : List UInt8, words (l.dropWhile (fun c => c.toNat == 32)) = words l
  | [] => rfl
  | c :: r => by
    by_cases h : c.toNat = 32
    · simp only [List.dropWhile_cons, h, beq_self_eq_true, if_true]; rw [words_trim r, words_blank c h]
    · simp [h]

/-- The escape as the program tells it. -/
def escR (l : List UInt8) : Int × Int := match esc l with | some (b, n) => (b.toNat, n) | none => (0, 0)
theorem escR_self (x c : UInt8) (r : List UInt8) (h : c.toNat = 34 ∨ c.toNat = 92) : escR (x :: c :: r) = ((c.toNat : Int), 2) := by simp [escR, esc, h]
theorem escR_n (x c : UInt8) (r : List UInt8) (h : c.toNat = 110) : escR (x :: c :: r) = (10, 2) := by simp [escR, esc, h]
theorem escR_x (x c a b : UInt8) (r : List UInt8) (h : c.toNat = 120) (ha : 0 ≤ hexa a.toNat) (hb : 0 ≤ hexa b.toNat) : escR (x :: c :: a :: b :: r) = (16 * hexa a.toNat + hexa b.toNat, 4) := by
  have := hexa_range a.toNat
  have := hexa_range b.toNat
  have e : ((UInt8.ofNat (16 * hexa a.toNat + hexa b.toNat).toNat).toNat : Int) = 16 * hexa a.toNat + hexa b.toNat := by
    rw [UInt8.toNat_ofNat']; omega
  simp [escR, esc, h, ha, hb]
  omega
theorem escR_bad (x c a b : UInt8) (r : List UInt8) (h : c.toNat = 120) (hh : hexa a.toNat < 0 ∨ hexa b.toNat < 0) : escR (x :: c :: a :: b :: r) = (0, 0) := by
  have : ¬ (0 ≤ hexa a.toNat ∧ 0 ≤ hexa b.toNat) := by omega
  simp [escR, esc, h, this]
theorem escR_short (l : List UInt8) (h : l.length < 2) : escR l = (0, 0) := by
  match l, h with
  | [], _ => rfl
  | [_], _ => rfl
theorem escR_short4 (x c : UInt8) (r : List UInt8) (h : c.toNat ≠ 34 ∧ c.toNat ≠ 92 ∧ c.toNat ≠ 110) (hr : r.length < 2) : escR (x :: c :: r) = (0, 0) := by
  match r, hr with
  | [], _ => simp [escR, esc, h]
  | [_], _ => simp [escR, esc, h]
theorem escR_other (x c : UInt8) (r : List UInt8) (h : c.toNat ≠ 34 ∧ c.toNat ≠ 92 ∧ c.toNat ≠ 110 ∧ c.toNat ≠ 120) : escR (x :: c :: r) = (0, 0) := by
  simp [escR, esc, h]

end Go.Proofs.YtpgaimpppehpcafDoor.Dw
