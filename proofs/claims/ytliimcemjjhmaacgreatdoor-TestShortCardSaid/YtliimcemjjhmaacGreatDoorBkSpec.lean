/- What Print writes is read as it was: plain Lean over lists of bytes. What is read of a text is printed in no more bytes: plain Lean over lists of bytes. -/
import Derived.Test.YtliimcemjjhmaacGreatDoorTpPl
import Derived.Test.YtliimcemjjhmaacGreatDoorTestSh
import Derived.Test.YtliimcemjjhmaacGreatDoorCut
namespace Go.Proofs.YtliimcemjjhmaacGreatDoor
section
open Go.RowKit Go.Proofs.YtliimcemjjhmaacGreatDoor.PTestShort

/-- The breaks ahead of i, one by one. -/
def brTo (br : List Int) (i : Nat) : List Int := ((List.range i).filter fun j : Nat => hasI br (j : Int)).map fun j : Nat => (j : Int)
theorem brTo_yes {br : List Int} {i : Nat} (h : hasI br (i : Int) = true) : brTo br (i + 1) = brTo br i ++ [(i : Int)] := by
  unfold brTo; rw [List.range_succ, List.filter_append, List.map_append]; simp [h]
theorem brTo_no {br : List Int} {i : Nat} (h : hasI br (i : Int) = false) : brTo br (i + 1) = brTo br i := by
  unfold brTo; rw [List.range_succ, List.filter_append, List.map_append]; simp [h]
theorem brTo_take {P : Nat} {br : List Int} (h : brOk P br br.length = true) : ∀ i, ∃ k, KAt br i k ∧ brTo br i = br.take k := by
  intro i
  induction i with
  | zero => exact ⟨0, KAt.zero h, rfl⟩
  | succ i ih =>
    obtain ⟨k, hk, e⟩ := ih
    by_cases hc : k < br.length ∧ br.getD k 0 = (i : Int)
    · obtain ⟨h1, h2⟩ := KAt.yes h hk hc.1 hc.2
      refine ⟨k + 1, h2, ?_⟩
      have h3 := hc.2
      rw [getD_at hc.1] at h3
      rw [brTo_yes h1, e, List.take_succ_eq_append_getElem hc.1, h3]
    · obtain ⟨h1, h2⟩ := KAt.no hk hc (brOk_lt h)
      exact ⟨k, h2, by rw [brTo_no h1, e]⟩
theorem brTo_all {P : Nat} {br : List Int} (h : brOk P br br.length = true) : brTo br (P + 1) = br := by
  obtain ⟨k, hk, e⟩ := brTo_take h (P + 1)
  have : k = br.length := by
    rcases Nat.lt_or_ge k br.length with hlt | hge
    · have h1 := hk.2.2 k (Nat.le_refl _) hlt
      have h2 := brOk_at h k hlt
      unfold okAt at h2
      simp only [Bool.and_eq_true, decide_eq_true_eq] at h2
      have h3 := h2.1.2
      push_cast at h1
      omega
    · exact Nat.le_antisymm hk.1 hge
  rw [e, this, List.take_length]

theorem hexI_U (n : Nat) (h : n < 16) : hexI (hexU n) = n := by
  have : ∀ k : Fin 16, hexI (hexU k.val) = (k.val : Int) := by decide
  exact this ⟨n, h⟩
theorem blankU (n : Nat) (h : n < 16) : blankB (hexU n) = false ∧ hexU n ≠ 35 ∧ hexU n ≠ 10 ∧ hexU n ≠ 13 := by
  have : ∀ k : Fin 16, blankB (hexU k.val) = false ∧ hexU k.val ≠ 35 ∧ hexU k.val ≠ 10 ∧ hexU k.val ≠ 13 := by decide
  exact this ⟨n, h⟩
theorem valH_fold : ∀ (s : List UInt8) (x : Int), s.foldl (fun n c => 16 * n + hexI c) x = x * 16 ^ s.length + valH s
  | [], x => by simp [valH]
  | c :: r, x => by
    rw [List.foldl_cons, valH_fold r, show valH (c :: r) = r.foldl (fun n c => 16 * n + hexI c) (16 * 0 + hexI c) from rfl, valH_fold r (16 * 0 + hexI c), List.length_cons, Int.pow_succ]
    generalize (16 : Int) ^ r.length = q
    rw [Int.add_mul, Int.mul_zero, Int.zero_add, Int.mul_comm 16 x, Int.mul_assoc, Int.mul_comm 16 q, Int.add_assoc]
theorem valH_cons (c : UInt8) (s : List UInt8) : valH (c :: s) = hexI c * 16 ^ s.length + valH s := by
  rw [show valH (c :: s) = s.foldl (fun n c => 16 * n + hexI c) (16 * 0 + hexI c) from rfl, valH_fold]; simp
/-- What the digits say, how many they are, that each is one. -/
theorem hexL_says : ∀ (f m : Nat) (s : List UInt8), m < 16 ^ f → valH (hexL f m s) = m * 16 ^ s.length + valH s ∧ (∀ c ∈ hexL f m s, c ∈ s ∨ ∃ k, k < 16 ∧ c = hexU k)
  | 0, m, s, h => by
    have : m = 0 := by simpa using h
    subst this
    exact ⟨by simp [hexL], fun c hc => .inl hc⟩
  | f + 1, m, s, h => by
    rw [hexL]
    split
    · next hc => exact ⟨by rw [hc.1]; simp, fun c hc => .inl hc⟩
    · have hlt : m / 16 < 16 ^ f := by rw [Nat.pow_succ] at h; omega
      obtain ⟨h1, h2⟩ := hexL_says f (m / 16) (hexU (m % 16) :: s) hlt
      refine ⟨?_, fun c hc => ?_⟩
      · rw [h1, List.length_cons, valH_cons, hexI_U _ (Nat.mod_lt _ (by decide)), Int.pow_succ]
        have e : (m : Int) = ((m / 16 : Nat) : Int) * 16 + ((m % 16 : Nat) : Int) := by omega
        generalize ((m / 16 : Nat) : Int) = a at e ⊢
        generalize ((m % 16 : Nat) : Int) = b at e ⊢
        generalize (16 : Int) ^ s.length = q
        rw [e, Int.add_mul, Int.mul_assoc a 16 q, Int.mul_comm 16 q, Int.add_assoc]
      · rcases h2 c hc with h | h
        · rcases List.mem_cons.1 h with rfl | h
          · exact .inr ⟨_, Nat.mod_lt _ (by decide), rfl⟩
          · exact .inl h
        · exact .inr h
theorem hexL_count : ∀ (f m : Nat) (s : List UInt8), m < 16 ^ f → 4 ≤ f + s.length → 4 ≤ (hexL f m s).length ∧ ∀ k, m < 16 ^ k → (hexL f m s).length ≤ max 4 (k + s.length)
  | 0, m, s, h, h4 => ⟨by simpa [hexL] using h4, fun k _ => by simp only [hexL]; omega⟩
  | f + 1, m, s, h, h4 => by
    rw [hexL]
    split
    · next hc => exact ⟨hc.2, fun k _ => by omega⟩
    · next hc =>
      have hlt : m / 16 < 16 ^ f := by rw [Nat.pow_succ] at h; omega
      obtain ⟨h1, h2⟩ := hexL_count f (m / 16) (hexU (m % 16) :: s) hlt (by simp; omega)
      refine ⟨h1, fun k hk => ?_⟩
      cases k with
      | zero =>
        have hm : m = 0 := by simpa using hk
        have := h2 0 (by rw [hm]; decide)
        have hs : ¬ 4 ≤ s.length := fun h => hc ⟨hm, h⟩
        simp at this
        omega
      | succ k =>
        have := h2 k (by rw [Nat.pow_succ] at hk; omega)
        simp at this
        omega
theorem hexZ_point {n : Int} (h : scal n = true) : pointOf (hexZ n) = some n := by
  unfold scal at h
  simp only [Bool.and_eq_true, decide_eq_true_eq] at h
  obtain ⟨m, rfl⟩ := Int.eq_ofNat_of_zero_le h.1.1
  have hm : m ≤ 1114111 := by have := h.1.2; omega
  unfold hexZ
  obtain ⟨h1, h2⟩ := hexL_says 8 m [] (by omega)
  obtain ⟨h3, h4⟩ := hexL_count 8 m [] (by omega) (by decide)
  have h5 := h4 6 (by omega)
  rw [show ((m : Int)).toNat = m from rfl]
  unfold pointOf
  have hall : (hexL 8 m []).all hexB = true := by
    rw [List.all_eq_true]
    intro c hc
    rcases h2 c hc with h | ⟨k, hk, rfl⟩
    · cases h
    · exact decide_eq_true (by rw [hexI_U k hk]; omega)
  rw [if_pos ⟨h3, by simpa using h5, hall⟩, h1]
  simp [valH]
theorem scal_eq (n : Int) : scal n = scalarB n := by
  unfold scal scalarB
  rw [Bool.eq_iff_iff]
  simp [Bool.and_eq_true, and_assoc]
theorem saidW_mark (b : Bool) (r : List Bs) (p br : List Int) : saidW (markL b :: r) false p br = saidW r true p (if b = true then br ++ [(p.length : Int)] else br) := by
  cases b <;> simp [saidW, markL]
theorem said_words {pl br : List Int} (hs : pl.all scal = true) : ∀ i, i ≤ pl.length → ∀ R : List Bs, saidW (wordsT pl br i ++ R) false [] [] = saidW R false (pl.take i) (brTo br i) := by
  intro i
  induction i with
  | zero => intro _ R; simp [wordsT, brTo]
  | succ i ih =>
    intro hi R
    have hg : scal pl[i] = true := List.all_eq_true.1 hs _ (List.getElem_mem (by omega))
    rw [wordsT, if_pos (by omega), List.append_assoc, List.cons_append, List.singleton_append, ih (by omega), saidW_mark]
    have hpt : pointOf (hexZ (pl.getD i 0)) = some pl[i] := by rw [getD_at (by omega)]; exact hexZ_point hg
    simp only [saidW, hpt]
    rw [List.length_take, Nat.min_eq_left (by omega), List.take_succ_eq_append_getElem (by omega)]
    cases hb : hasI br (i : Int) with
    | true => rw [brTo_yes hb]; simp
    | false => rw [brTo_no hb]; simp
theorem said_line {pl br : List Int} (h : caseOk pl br = true) : saidW (wordsT pl br (pl.length + 1)) false [] [] = some (pl, br) := by
  unfold caseOk at h
  rw [Bool.and_eq_true] at h
  rw [wordsT, if_neg (by omega), said_words h.2 _ (Nat.le_refl _), saidW_mark, List.take_length]
  have e : (if hasI br (pl.length : Int) = true then brTo br pl.length ++ [(pl.length : Int)] else brTo br pl.length) = br := by
    by_cases hb : hasI br (pl.length : Int) = true
    · rw [if_pos hb, ← brTo_yes hb]; exact brTo_all h.1
    · rw [if_neg hb, ← brTo_no (by simpa using hb)]; exact brTo_all h.1
  rw [e]
  rfl

/-- A word: something, without blanks, a comment's sign, line ends. -/
def plainB (c : UInt8) : Bool := !blankB c && c != 35 && c != 10 && c != 13
def PlainW (w : Bs) : Prop := w ≠ [] ∧ ∀ c ∈ w, plainB c = true
theorem plain_mark (b : Bool) : PlainW (markL b) := by cases b <;> exact ⟨by simp [markL], by simp [markL]; decide⟩
theorem plain_hex {n : Int} (h : scal n = true) : PlainW (hexZ n) := by
  have hp := hexZ_point h
  unfold pointOf at hp
  split at hp
  · next hc =>
    refine ⟨fun e => by rw [e] at hc; simp at hc, fun c hm => ?_⟩
    unfold hexZ at hm
    unfold scal at h
    simp only [Bool.and_eq_true, decide_eq_true_eq] at h
    have hm' : n.toNat < 16 ^ 8 := by have := h.1.2; omega
    rcases (hexL_says 8 n.toNat [] hm').2 c hm with h' | ⟨k, hk, rfl⟩
    · cases h'
    · obtain ⟨a, b, c, d⟩ := blankU k hk
      simp [plainB, a, b, c, d]
  · cases hp
theorem plain_words {pl br : List Int} (hs : pl.all scal = true) : ∀ i, i ≤ pl.length + 1 → ∀ w ∈ wordsT pl br i, PlainW w := by
  intro i
  induction i with
  | zero => intro _ w hw; cases hw
  | succ i ih =>
    intro hi w hw
    rw [wordsT] at hw
    rcases List.mem_append.1 hw with hw | hw
    · exact ih (by omega) w hw
    · rcases List.mem_cons.1 hw with rfl | hw
      · exact plain_mark _
      · split at hw
        · next hlt =>
          rw [List.mem_singleton] at hw
          subst hw
          rw [getD_at hlt]
          exact plain_hex (List.all_eq_true.1 hs _ (List.getElem_mem hlt))
        · cases hw
theorem fields_join : ∀ (l : List Bs), (∀ w ∈ l, PlainW w) → fieldsB (Lib.join l [32]) [] = l
  | [], _ => rfl
  | w :: r, h => by
    have hw := h w List.mem_cons_self
    have hb : ∀ c ∈ w, blankB c = false := fun c hc => by have := hw.2 c hc; simp [plainB] at this; exact this.1.1.1
    cases r with
    | nil =>
      rw [Lib.join_one]
      have := fieldsB_app w [] [] hb
      rw [List.append_nil, List.nil_append] at this
      rw [this, fieldsB, if_neg hw.1]
    | cons x r =>
      rw [Lib.join_cons]
      have e : Lib.joinTail [32] (x :: r) = 32 :: Lib.join (x :: r) [32] := by rw [Lib.join_cons]; simp [Lib.joinTail]
      rw [e, fieldsB_app w _ [] hb, List.nil_append, fieldsB, if_pos (by decide), if_neg hw.1, fields_join (x :: r) (fun w hw => h w (List.mem_cons_of_mem _ hw))]
theorem join_mem : ∀ (l : List Bs) (sep : Bs) (c : UInt8), c ∈ Lib.join l sep → c ∈ sep ∨ ∃ w ∈ l, c ∈ w
  | [], _, _, h => by cases h
  | w :: r, sep, c, h => by
    rw [Lib.join_cons] at h
    rcases List.mem_append.1 h with h | h
    · exact .inr ⟨w, List.mem_cons_self, h⟩
    · unfold Lib.joinTail at h
      rw [List.mem_flatten] at h
      obtain ⟨x, hx, hc⟩ := h
      obtain ⟨y, hy, rfl⟩ := List.mem_map.1 hx
      rcases List.mem_append.1 hc with h | h
      · exact .inl h
      · exact .inr ⟨y, List.mem_cons_of_mem _ hy, h⟩
theorem line_mem {pl br : List Int} (h : caseOk pl br = true) : ∀ c ∈ lineT pl br, c ≠ 35 ∧ c ≠ 10 ∧ c ≠ 13 := by
  intro c hc
  unfold caseOk at h
  rw [Bool.and_eq_true] at h
  rw [← join_line] at hc
  rcases join_mem _ _ c hc with h' | ⟨w, hw, h'⟩
  · rw [List.mem_singleton] at h'; subst h'; decide
  · have := (plain_words h.2 _ (Nat.le_refl _) w hw).2 c h'
    simp [plainB] at this
    exact ⟨this.1.1.2, this.1.2, this.2⟩
theorem take_all {l : Bs} {c : UInt8} (h : c ∉ l) : l.takeWhile (· != c) = l := takeWhile_all h
theorem words_line {pl br : List Int} (h : caseOk pl br = true) : wordsLn (lineT pl br) = wordsT pl br (pl.length + 1) := by
  have hm := line_mem h
  unfold caseOk at h
  rw [Bool.and_eq_true] at h
  unfold wordsLn cutHash
  rw [takeWhile_all (fun hc => (hm 35 hc).1 rfl), ← join_line]
  exact fields_join _ (plain_words h.2 _ (Nat.le_refl _))
theorem words_ne (pl br : List Int) : wordsT pl br (pl.length + 1) ≠ [] := by rw [wordsT]; simp

theorem dropCR_id {l : Bs} (h : ∀ c ∈ l, c ≠ 13) : dropCR l = l := by
  unfold dropCR
  rw [if_neg]
  intro e
  exact h 13 (List.mem_of_getLast? e) rfl
theorem lines_join : ∀ (l : List Bs), (∀ w ∈ l, ∀ c ∈ w, c ≠ 10 ∧ c ≠ 13) → l ≠ [] → linesB (Lib.join l [10]) [] = l
  | [], _, h => absurd rfl h
  | [w], h, _ => by
    rw [Lib.join_one, linesB_cut, if_neg (fun hm => (h w List.mem_cons_self 10 hm).1 rfl)]; rfl
  | w :: x :: r, h, _ => by
    have hw := h w List.mem_cons_self
    have hn : (10 : UInt8) ∉ w := fun hm => (hw 10 hm).1 rfl
    rw [Lib.join_cons, show Lib.joinTail [10] (x :: r) = 10 :: Lib.join (x :: r) [10] by rw [Lib.join_cons]; simp [Lib.joinTail], linesB_cut, if_pos (by simp), List.nil_append,
      List.takeWhile_append_of_pos (fun c hc => by simpa using (hw c hc).1), List.dropWhile_append_of_pos (fun c hc => by simpa using (hw c hc).1)]
    have ih := lines_join (x :: r) (fun w hw => h w (List.mem_cons_of_mem _ hw)) (by simp)
    simp only [List.takeWhile_cons, List.dropWhile_cons]
    simp only [bne_self_eq_false, Bool.false_eq_true, if_false, List.append_nil, List.tail_cons]
    rw [ih, dropCR_id (fun c hc => (hw c hc).2)]
theorem fileL_back : ∀ (cs : List Case) (acc : List S34) (n : Int), allOk cs = true → acc.length + cs.length ≤ 20000 → fileL (linesT cs) acc n = (acc ++ cs.map (fun c => ⟨c.1, c.2⟩), 0, 0)
  | [], acc, n, _, _ => by simp [linesT, fileL]
  | c :: r, acc, n, h, hl => by
    unfold allOk at h
    rw [List.all_cons, Bool.and_eq_true] at h
    have ih := fileL_back r (acc ++ [⟨c.1, c.2⟩]) (n + 1) h.2 (by simp at hl ⊢; omega)
    have hsc : c.1.all scalarB = true := by
      have := h.1
      unfold caseOk at this
      rw [Bool.and_eq_true] at this
      rw [List.all_eq_true]
      intro x hx
      rw [← scal_eq]; exact List.all_eq_true.1 this.2 x hx
    show fileL (lineT c.1 c.2 :: linesT r) acc n = _
    rw [fileL, words_line h.1, if_neg (words_ne _ _), said_line h.1]
    simp only [hsc, if_true]
    rw [if_neg (by simp at hl; omega), ih]
    simp
/-- What Print writes is read as it was. -/
theorem parse_print (cs : List Case) (h : allOk cs = true) (hl : cs.length ≤ 20000) (hf : (fileT cs).length ≤ 1048576) : parseOut (fileT cs) = (cs.map (fun c => ⟨c.1, c.2⟩), 0, 0) := by
  unfold parseOut
  rw [if_neg (by omega)]
  cases cs with
  | nil => exact fileL_end [] 1
  | cons c r =>
    unfold fileT
    rw [lines_join (linesT (c :: r)) (fun w hw d hd => by
      unfold linesT at hw
      obtain ⟨c', hc', rfl⟩ := List.mem_map.1 hw
      unfold allOk at h
      exact (line_mem (List.all_eq_true.1 h c' hc') d hd).2) (by simp [linesT])]
    exact fileL_back (c :: r) [] 1 h (by simpa using hl)
end

section
open Go.RowKit Go.Proofs.YtliimcemjjhmaacGreatDoor.PTestShort

def tot (l : List Bs) : Nat := (l.map List.length).sum
theorem tot_cons (x : Bs) (l : List Bs) : tot (x :: l) = x.length + tot l := by simp [tot]
theorem fields_tot : ∀ (l now : Bs), tot (fieldsB l now) + (fieldsB l now).length ≤ l.length + now.length + 1
  | [], now => by rw [fieldsB]; split <;> simp [tot]
  | c :: r, now => by
    rw [fieldsB]
    split
    · split
      · have := fields_tot r []; simp at this ⊢; omega
      · have := fields_tot r []; rw [tot_cons]; simp at this ⊢; omega
    · have := fields_tot r (now ++ [c]); simp at this ⊢; omega
theorem lines_tot : ∀ (l cur : Bs), tot (linesB l cur) + (linesB l cur).length ≤ l.length + cur.length + 1
  | [], cur => by simp [linesB, tot]
  | b :: r, cur => by
    rw [linesB]
    split
    · have := lines_tot r []; have := dropCR_len cur; rw [tot_cons]; simp at *; omega
    · have := lines_tot r (cur ++ [b]); simp at *; omega

def hexT (p : List Int) : Nat := (p.map fun n => (hexZ n).length).sum
theorem hexT_snoc (p : List Int) (n : Int) : hexT (p ++ [n]) = hexT p + (hexZ n).length := by simp [hexT]
theorem textT_size (pl br : List Int) : ∀ i, i ≤ pl.length → (textT pl br i).length = 4 * i + hexT (pl.take i) := by
  intro i
  induction i with
  | zero => intro _; simp [textT, hexT]
  | succ i ih =>
    intro h
    rw [textT, if_pos (by omega), List.take_succ_eq_append_getElem (by omega), hexT_snoc]
    simp only [List.length_append, ih (by omega), List.length_singleton]
    rw [getD_at (by omega)]
    simp [markL]
    omega
theorem lineT_size (pl br : List Int) : (lineT pl br).length = 4 * pl.length + 2 + hexT pl := by
  rw [lineT, textT, if_neg (by omega), List.append_nil, List.length_append, textT_size pl br _ (Nat.le_refl _), List.take_length]
  simp [markL]; omega
theorem hexZ_short {w : Bs} {n : Int} (h : pointOf w = some n) : (hexZ n).length ≤ w.length ∧ 0 ≤ n := by
  unfold pointOf at h
  split at h
  · next hc =>
    have hv := Option.some.inj h
    have hall : ∀ c ∈ w, 0 ≤ hexI c := fun c hm => of_decide_eq_true (List.all_eq_true.1 hc.2.2 c hm)
    have hb := valH_bound w hall
    rw [hv] at hb
    obtain ⟨m, rfl⟩ := Int.eq_ofNat_of_zero_le hb.1
    have hm : m < 16 ^ w.length := by
      have := hb.2
      have e : ((16 : Int) ^ w.length) = ((16 ^ w.length : Nat) : Int) := by push_cast; rfl
      rw [e] at this
      exact Int.ofNat_lt.1 this
    have h8 : (16 : Nat) ^ w.length ≤ 16 ^ 8 := Nat.pow_le_pow_right (by decide) (by omega)
    have := (hexL_count 8 m [] (by omega) (by decide)).2 w.length hm
    refine ⟨?_, hb.1⟩
    unfold hexZ
    rw [show ((m : Int)).toNat = m from rfl]
    simp at this
    omega
  · cases h

/-- What a case has that was read: its breaks rise and lie among the points. -/
def BrIn (b : List Int) (n : Int) : Prop := b.Pairwise (· < ·) ∧ ∀ x ∈ b, 0 ≤ x ∧ x ≤ n
theorem BrIn.mono {b : List Int} {n m : Int} (h : BrIn b n) (hnm : n ≤ m) : BrIn b m := ⟨h.1, fun x hx => ⟨(h.2 x hx).1, by have := (h.2 x hx).2; omega⟩⟩
theorem BrIn.snoc {b : List Int} {n : Int} (h : BrIn b (n - 1)) (h0 : 0 ≤ n) : BrIn (b ++ [n]) n := by
  refine ⟨List.pairwise_append.2 ⟨h.1, List.pairwise_singleton _ _, fun x hx y hy => ?_⟩, fun x hx => ?_⟩
  · rw [List.mem_singleton] at hy; have := (h.2 x hx).2; omega
  · rcases List.mem_append.1 hx with hx | hx
    · have := h.2 x hx; omega
    · rw [List.mem_singleton] at hx; omega
theorem said_has : ∀ (ws : List Bs) (f : Bool) (p b p' b' : List Int), saidW ws f p b = some (p', b') → BrIn b (if f = true then (p.length : Int) else p.length - 1) →
    BrIn b' p'.length ∧ hexT p' + 2 * p'.length + 2 ≤ hexT p + 2 * p.length + (if f = true then 2 else 0) + tot ws ∧ 2 * p'.length + 1 = 2 * p.length + (if f = true then 1 else 0) + ws.length
  | [], false, p, b, p', b', h, _ => by simp [saidW] at h
  | [], true, p, b, p', b', h, hb => by
    simp [saidW] at h
    obtain ⟨rfl, rfl⟩ := h
    exact ⟨hb, by simp [tot], by simp⟩
  | w :: r, false, p, b, p', b', h, hb => by
    simp only [saidW] at h
    simp only [Bool.false_eq_true, if_false] at hb
    split at h
    · next e =>
      obtain ⟨h1, h2, h3⟩ := said_has r true p _ p' b' h (by simpa using hb.snoc (by omega))
      refine ⟨h1, ?_, ?_⟩
      · rw [tot_cons, e]; simp at h2 ⊢; omega
      · simp at h3 ⊢; omega
    · split at h
      · next e =>
        obtain ⟨h1, h2, h3⟩ := said_has r true p _ p' b' h (by simpa using hb.mono (by omega))
        refine ⟨h1, ?_, ?_⟩
        · rw [tot_cons, e]; simp at h2 ⊢; omega
        · simp at h3 ⊢; omega
      · cases h
  | w :: r, true, p, b, p', b', h, hb => by
    simp only [saidW] at h
    simp only [if_true] at hb
    split at h
    · cases h
    · next n hpt =>
      obtain ⟨h1, h2, h3⟩ := said_has r false (p ++ [n]) b p' b' h (by simpa using hb)
      have hl := (hexZ_short hpt).1
      refine ⟨h1, ?_, ?_⟩
      · rw [tot_cons]; rw [hexT_snoc] at h2; simp at h2 ⊢; omega
      · simp at h3 ⊢; omega
theorem brOk_of {P : Nat} {b : List Int} (h : BrIn b P) : ∀ n, n ≤ b.length → brOk P b n = true := by
  intro n
  induction n with
  | zero => intro _; rfl
  | succ n ih =>
    intro hn
    have hm := h.2 _ (List.getElem_mem (l := b) (n := n) (by omega))
    rw [brOk, ih (by omega), Bool.true_and]
    unfold okAt
    rw [getD_at (by omega)]
    simp only [Bool.and_eq_true, decide_eq_true_eq, Bool.or_eq_true, beq_iff_eq]
    refine ⟨hm, ?_⟩
    rcases Nat.eq_zero_or_pos n with h0 | h0
    · exact .inl h0
    · refine .inr ?_
      rw [getD_at (by omega)]
      exact List.pairwise_iff_getElem.1 h.1 (n - 1) n (by omega) (by omega) (by omega)
theorem said_ok {ws : List Bs} {p b : List Int} (h : saidW ws false [] [] = some (p, b)) (hs : p.all scalarB = true) : caseOk p b = true ∧ (lineT p b).length + 1 ≤ tot ws + ws.length := by
  obtain ⟨h1, h2, h3⟩ := said_has ws false [] [] p b h ⟨List.Pairwise.nil, fun x hx => by cases hx⟩
  refine ⟨?_, ?_⟩
  · unfold caseOk
    rw [brOk_of h1 _ (Nat.le_refl _), Bool.true_and, List.all_eq_true]
    intro x hx
    rw [scal_eq]; exact List.all_eq_true.1 hs x hx
  · rw [lineT_size]
    simp only [Bool.false_eq_true, if_false, List.length_nil] at h2 h3
    have h0 : hexT [] = 0 := rfl
    omega

abbrev pairOf (c : S34) : Case := (c.f0, c.f1)
def sizeT (l : List Case) : Nat := (l.map fun c => (lineT c.1 c.2).length + 1).sum
theorem sizeT_app (l m : List Case) : sizeT (l ++ m) = sizeT l + sizeT m := by simp [sizeT]
theorem fileL_has : ∀ (ls : List Bs) (acc : List S34) (n : Int), 1 ≤ n → acc.length ≤ 20000 → allOk (acc.map pairOf) = true →
    ((fileL ls acc n).2.2 = 0 ∧ (fileL ls acc n).2.1 = 0 ∧ (fileL ls acc n).1.length ≤ 20000 ∧ allOk ((fileL ls acc n).1.map pairOf) = true ∧ sizeT ((fileL ls acc n).1.map pairOf) ≤ sizeT (acc.map pairOf) + tot ls + ls.length) ∨
    ((fileL ls acc n).1 = [] ∧ 1 ≤ (fileL ls acc n).2.1 ∧ 1 ≤ (fileL ls acc n).2.2 ∧ (fileL ls acc n).2.2 ≤ 3)
  | [], acc, n, _, hl, ha => .inl ⟨rfl, rfl, hl, ha, by simp [fileL]⟩
  | s :: r, acc, n, hn, hl, ha => by
    rw [fileL]
    split
    · rcases fileL_has r acc (n + 1) (by omega) hl ha with h | h
      · exact .inl ⟨h.1, h.2.1, h.2.2.1, h.2.2.2.1, by have := h.2.2.2.2; rw [tot_cons]; simp; omega⟩
      · exact .inr h
    · split
      · exact .inr ⟨rfl, hn, (by show (1 : Int) ≤ 2; decide), (by show (2 : Int) ≤ 3; decide)⟩
      · next pb hsd =>
        split
        · next hsc =>
          split
          · exact .inr ⟨rfl, hn, (by show (1 : Int) ≤ 3; decide), (by show (3 : Int) ≤ 3; decide)⟩
          · obtain ⟨h1, h2⟩ := said_ok (p := pb.1) (b := pb.2) hsd hsc
            have h3 := fields_tot (cutHash s) []
            have h4 : (cutHash s).length ≤ s.length := (List.takeWhile_sublist _).length_le
            have h5 : tot (wordsLn s) + (wordsLn s).length ≤ s.length + 1 := by unfold wordsLn; simp at h3; omega
            have ha' : allOk ((acc ++ [⟨pb.1, pb.2⟩] : List S34).map pairOf) = true := by
              unfold allOk at ha ⊢
              rw [List.map_append, List.all_append, ha]
              simpa using h1
            rcases fileL_has r (acc ++ [⟨pb.1, pb.2⟩]) (n + 1) (by omega) (by simp; omega) ha' with h | h
            · refine .inl ⟨h.1, h.2.1, h.2.2.1, h.2.2.2.1, ?_⟩
              have := h.2.2.2.2
              rw [List.map_append, sizeT_app] at this
              have e : sizeT ([⟨pb.1, pb.2⟩].map pairOf) = (lineT pb.1 pb.2).length + 1 := by simp [sizeT]
              rw [e] at this
              rw [tot_cons]; simp; omega
            · exact .inr h
        · exact .inr ⟨rfl, hn, (by show (1 : Int) ≤ 1; decide), (by show (1 : Int) ≤ 3; decide)⟩
theorem fileT_size (cs : List Case) : (fileT cs).length ≤ sizeT cs - 1 := by
  unfold fileT
  cases cs with
  | nil => simp [linesT, Lib.join_nil]
  | cons c r =>
    show (Lib.join (lineT c.1 c.2 :: linesT r) [10]).length ≤ _
    rw [Lib.join_cons, List.length_append]
    have : (Lib.joinTail [10] (linesT r)).length = sizeT r := by
      unfold Lib.joinTail linesT sizeT
      induction r with
      | nil => rfl
      | cons d r ih => simp at ih ⊢; omega
    rw [this]
    simp [sizeT]
/-- What is read of a text, and what Print makes of it. -/
theorem parse_short (l : Bs) : ((parseOut l).2.2 = 0 ∧ (parseOut l).2.1 = 0 ∧ printOut ((parseOut l).1.map pairOf) = (fileT ((parseOut l).1.map pairOf), 0) ∧ (fileT ((parseOut l).1.map pairOf)).length ≤ l.length ∧ parseOut (fileT ((parseOut l).1.map pairOf)) = parseOut l ∧ l.length ≤ 1048576) ∨
    ((parseOut l).1 = [] ∧ (parseOut l).2.2 ≠ 0 ∧ (parseOut l).2.2 ≤ 3 ∧ 0 < (parseOut l).2.2 ∧ (0 < (parseOut l).2.1 ↔ l.length ≤ 1048576) ∧ 0 ≤ (parseOut l).2.1) := by
  by_cases h : 1048576 < l.length
  · have e : parseOut l = ([], 0, 3) := by unfold parseOut; rw [if_pos h]
    rw [e]
    exact .inr ⟨rfl, by decide, by decide, by decide, ⟨fun h' => absurd h' (by decide), fun h' => by omega⟩, by decide⟩
  · have e : parseOut l = fileL (linesB l []) [] 1 := by unfold parseOut; rw [if_neg h]
    rcases fileL_has (linesB l []) [] 1 (by decide) (by simp) rfl with h1 | h1
    · rw [← e] at h1
      have ht := lines_tot l []
      have hs := fileT_size ((parseOut l).1.map pairOf)
      obtain ⟨a1, a2, a3, a4, a5⟩ := h1
      have a6 : (fileT ((parseOut l).1.map pairOf)).length ≤ l.length := by simp [sizeT] at a5 ht hs ⊢; omega
      refine .inl ⟨a1, a2, ?_, a6, ?_, by omega⟩
      · unfold printOut; rw [if_neg (by simpa using a3), a4, if_neg (by decide), if_neg (by omega)]
      · rw [parse_print _ a4 (by simpa using a3) (by omega)]
        have : (parseOut l).1.map (fun c => (⟨(pairOf c).1, (pairOf c).2⟩ : S34)) = (parseOut l).1 := by
          rw [show (fun c : S34 => (⟨(pairOf c).1, (pairOf c).2⟩ : S34)) = id from rfl, List.map_id]
        rw [List.map_map]
        show ((parseOut l).1.map (fun c => (⟨(pairOf c).1, (pairOf c).2⟩ : S34)), (0 : Int), (0 : Int)) = _
        rw [this]
        exact Prod.ext rfl (Prod.ext a2.symm a1.symm)
    · rw [← e] at h1
      exact .inr ⟨h1.1, by have := h1.2.2.1; omega, h1.2.2.2, h1.2.2.1, ⟨fun _ => by omega, fun _ => by have := h1.2.1; omega⟩, by have := h1.2.1; omega⟩
end
end Go.Proofs.YtliimcemjjhmaacGreatDoor
