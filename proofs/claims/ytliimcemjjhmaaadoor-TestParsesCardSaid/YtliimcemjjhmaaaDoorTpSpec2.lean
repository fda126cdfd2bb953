/- caesuraref23.pieces, caesuraref4.Bare, caesuraref23.said, scalars: what they compute, in plain words. caesuraref23.said, scalars, caesuraref4.Lines, caesuraref23.Parse: what they compute, in plain words. caesuraref4.Lines, caesuraref23.Parse: what they compute, in plain words. -/
import Derived.Test.YtliimcemjjhmaaaDoorTpSpec
namespace Go.Proofs.YtliimcemjjhmaaaDoor
section
open Go.RowKit Go.Proofs.YtliimcemjjhmaaaDoorW.PrintWords Go.Proofs.YtliimcemjjhmaaaDoor.PTestParses

abbrev toB (s : ByteArray) : Bs := s.data.toList
theorem blank_bt (c : UInt8) : blankB c = true ↔ ((c.toNat : Int) = 32 ∨ (c.toNat : Int) = 9) := by
  unfold blankB blankN
  simp only [Bool.or_eq_true, beq_iff_eq]
  omega
theorem blank_f (c : UInt8) : caesuraref4_blank.f (c.toNat : Int) = some (blankB c) := by
  unfold caesuraref4_blank.f
  by_cases h : (c.toNat : Int) = 32
  · rw [if_pos h, (blank_bt c).2 (.inl h)]
  · rw [if_neg h]
    by_cases h9 : (c.toNat : Int) = 9
    · rw [(blank_bt c).2 (.inr h9), beqI_true h9]
    · rw [beqI_false h9, Bool.eq_false_iff.2 (fun hb => ((blank_bt c).1 hb).elim h h9)]

theorem nilB {s : ByteArray} : s.toList = ([] : List UInt8) ↔ toB s = [] := by rw [toL]

theorem pieces_l0 (s : ByteArray) (hs : s.size ≤ 1048576) : ∀ (n i k : Nat) (acc : List ByteArray) (now : ByteArray), s.size - i ≤ n → i ≤ s.size → 2 * n + 3 ≤ k → acc.length ≤ i → now.size ≤ i →
    ∃ ws, caesuraref23_pieces.l0 k s acc now (i : Int) = some ws ∧ ws.map toB = acc.map toB ++ fieldsB ((toB s).drop i) (toB now) := by
  intro n
  induction n with
  | zero =>
    intro i k acc now hn hi hk ha hw
    obtain rfl : i = s.size := by omega
    obtain ⟨k, rfl⟩ : ∃ j, k = j + 1 := ⟨k - 1, by omega⟩
    rw [caesuraref23_pieces.l0, if_neg (by omega), drop_end s s.size (Nat.le_refl _), fieldsB]
    by_cases h : toB now = []
    · rw [if_pos (nilB.2 h), if_pos h]; exact ⟨_, rfl, by simp⟩
    · rw [if_neg (fun h' => h (nilB.1 h')), if_pos (by omega), if_neg h]; exact ⟨_, rfl, by simp⟩
  | succ n ih =>
    intro i k acc now hn hi hk ha hw
    by_cases he : i = s.size
    · exact ih i k acc now (by omega) hi (by omega) ha hw
    · have hlt : i < s.size := by omega
      obtain ⟨k, rfl⟩ : ∃ j, k = j + 2 := ⟨k - 2, by omega⟩
      have hj : caesuraref23_pieces.l0 (k + 2) s acc now (i : Int) = caesuraref23_pieces.j1 (k + 1) s acc now (i : Int) (blankB s[i]) := by
        rw [caesuraref23_pieces.l0, if_pos (by omega), if_pos (by omega), bt_nat s i hlt]
        have := blank_f s[i]
        unfold caesuraref4_blank.f at this
        by_cases h : (s[i].toNat : Int) = 32
        · rw [if_pos h] at this ⊢; rw [← Option.some.inj this]
        · rw [if_neg h] at this ⊢; rw [← Option.some.inj this]
      rw [hj, caesuraref23_pieces.j1, drop_at s i hlt, fieldsB]
      by_cases hb : blankB s[i] = true
      · rw [if_pos hb, if_pos hb]
        by_cases h : toB now = []
        · rw [if_pos (nilB.2 h), if_pos h, wrap_at (by omega)]
          exact ih (i + 1) k acc ⟨#[]⟩ (by omega) (by omega) (by omega) (by omega) (Nat.zero_le _)
        · rw [if_neg (fun h' => h (nilB.1 h')), if_pos (by omega), if_neg h, wrap_at (by omega)]
          obtain ⟨ws, h1, h2⟩ := ih (i + 1) k (acc ++ [now]) ⟨#[]⟩ (by omega) (by omega) (by omega) (by simp; omega) (Nat.zero_le _)
          exact ⟨ws, h1, by rw [h2]; simp⟩
      · have hsz : (s.extract i (i + 1)).size = 1 := by rw [← len_str, ext_sub, List.length_take, List.length_drop, len_str]; omega
        rw [if_neg hb, if_neg hb, wrap_at (n := (i : Int) + 1) (by omega), if_pos (by omega), if_pos (by omega), if_pos (by omega), show ((i : Int)).toNat = i from rfl, show ((i : Int) + 1).toNat = i + 1 by omega, if_pos (by rw [hsz]; omega)]
        obtain ⟨ws, h1, h2⟩ := ih (i + 1) k acc (now ++ s.extract i (i + 1)) (by omega) (by omega) (by omega) (by omega) (by rw [app_size, hsz]; omega)
        refine ⟨ws, h1, ?_⟩
        rw [h2]
        show _ = acc.map toB ++ fieldsB _ (toB now ++ [s[i]])
        rw [show toB (now ++ s.extract i (i + 1)) = toB now ++ [s[i]] by
          show (now ++ s.extract i (i + 1)).data.toList = _
          rw [app_data, ext_sub, show i + 1 - i = 1 by omega, drop_at s i hlt]; rfl]
theorem pieces_f (s : ByteArray) (hs : s.size ≤ 1048576) (k : Nat) (hk : 2 * s.size + 3 ≤ k) : ∃ ws, caesuraref23_pieces.f k s = some ws ∧ ws.map toB = fieldsB (toB s) [] := by
  obtain ⟨ws, h1, h2⟩ := pieces_l0 s hs s.size 0 k [] ⟨#[]⟩ (by omega) (by omega) hk (by simp) (Nat.zero_le _)
  exact ⟨ws, h1, by simpa using h2⟩

theorem fieldsB_snoc (c : UInt8) (hc : blankB c = true) : ∀ (x now : Bs), fieldsB (x ++ [c]) now = fieldsB x now
  | [], now => by
    simp only [List.nil_append, fieldsB, hc, if_true]
  | d :: x, now => by
    rw [List.cons_append, fieldsB, fieldsB]
    simp only [fieldsB_snoc c hc x]
theorem fieldsB_now : ∀ (x now : Bs), now ≠ [] → fieldsB x now ≠ []
  | [], now, h => by rw [fieldsB, if_neg h]; simp
  | d :: x, now, h => by
    rw [fieldsB]
    by_cases hb : blankB d = true
    · rw [if_pos hb, if_neg h]; simp
    · rw [if_neg hb]; exact fieldsB_now x _ (by simp)

/-- What Bare hands back. -/
def BareOk (l : Bs) (t : ByteArray) : Prop := fieldsB (toB t) [] = fieldsB l [] ∧ (toB t = [] ↔ fieldsB l [] = []) ∧ (toB t).length ≤ l.length
def sub (s : ByteArray) (a b : Nat) : Bs := ((toB s).drop a).take (b - a)
theorem sub_snoc (s : ByteArray) {a b : Nat} (h : a < b) (hb : b ≤ s.size) : sub s a b = sub s a (b - 1) ++ [s[b - 1]] := by
  unfold sub
  have h1 : ((toB s).drop a)[b - 1 - a]? = some s[b - 1] := by
    rw [List.getElem?_drop, show a + (b - 1 - a) = b - 1 by omega]
    exact dl_get s (b - 1) (by omega)
  rw [show b - a = (b - 1 - a) + 1 by omega, List.take_add_one, h1]; rfl
theorem sub_cons (s : ByteArray) {a b : Nat} (h : a < b) (hb : b ≤ s.size) : sub s a b = s[a] :: sub s (a + 1) b := by
  unfold sub
  rw [drop_at s a (by omega), show b - a = (b - (a + 1)) + 1 by omega, List.take_succ_cons]

theorem bare_l2 (s : ByteArray) (hs : s.size ≤ 1048576) (a : Nat) : ∀ (n b k : Nat), b - a ≤ n → a ≤ b → b ≤ s.size → n + 1 ≤ k → (∀ h : a < s.size, a < b → blankB s[a] = false) →
    ∃ t, caesuraref4_Bare.l2 k s (b : Int) (a : Int) = some t ∧ BareOk (sub s a b) t := by
  have fin : ∀ b, a ≤ b → b ≤ s.size → (∀ h : a < s.size, a < b → blankB s[a] = false) → BareOk (sub s a b) (s.extract a b) := by
    intro b hab hb hn
    have e : toB (s.extract a b) = sub s a b := ext_sub s a b
    refine ⟨by rw [e], ?_, by rw [e]; exact Nat.le_refl _⟩
    rw [e]
    by_cases h : a < b
    · rw [sub_cons s h hb, fieldsB, if_neg (by rw [hn (by omega) h]; decide)]
      exact iff_of_false (by simp) (fieldsB_now _ _ (by simp))
    · obtain rfl : a = b := by omega
      simp [sub, fieldsB]
  intro n
  induction n with
  | zero =>
    intro b k hn hab hb hk hnb
    obtain rfl : b = a := by omega
    obtain ⟨k, rfl⟩ : ∃ j, k = j + 1 := ⟨k - 1, by omega⟩
    rw [caesuraref4_Bare.l2, if_neg (by omega), if_pos (by omega), if_pos (by omega), if_pos (by omega)]
    exact ⟨_, rfl, fin b (Nat.le_refl _) hb hnb⟩
  | succ n ih =>
    intro b k hn hab hb hk hnb
    obtain ⟨k, rfl⟩ : ∃ j, k = j + 1 := ⟨k - 1, by omega⟩
    by_cases h : a < b
    · rw [caesuraref4_Bare.l2, if_pos (by omega), wrap_at (n := (b : Int) - 1) (by omega), if_pos (by omega), if_pos (by omega), show (b : Int) - 1 = ((b - 1 : Nat) : Int) by omega, bt_nat s (b - 1) (by omega), blank_f, Option.bind_some]
      by_cases hb2 : blankB s[b - 1] = true
      · rw [if_pos hb2]
        have hne : a ≠ b - 1 := fun e => by
          have := hnb (by omega) h
          simp only [e] at this
          rw [hb2] at this; cases this
        obtain ⟨t, h1, h2, h3, h4⟩ := ih (b - 1) k (by omega) (by omega) (by omega) (by omega) (fun h' h'' => hnb h' h)
        have e : fieldsB (sub s a b) [] = fieldsB (sub s a (b - 1)) [] := by rw [sub_snoc s h hb, fieldsB_snoc _ hb2]
        exact ⟨t, h1, by rw [e]; exact h2, by rw [e]; exact h3, Nat.le_trans h4 (by rw [sub_snoc s h hb]; simp)⟩
      · rw [if_neg hb2, if_pos (by omega), if_pos (by omega), if_pos (by omega)]
        exact ⟨_, rfl, fin b hab hb hnb⟩
    · obtain rfl : b = a := by omega
      rw [caesuraref4_Bare.l2, if_neg (by omega), if_pos (by omega), if_pos (by omega), if_pos (by omega)]
      exact ⟨_, rfl, fin b (Nat.le_refl _) hb hnb⟩
theorem bare_l1 (s : ByteArray) (hs : s.size ≤ 1048576) (b : Nat) (hb : b ≤ s.size) : ∀ (n a k : Nat), b - a ≤ n → a ≤ b → n + s.size + 4 ≤ k →
    ∃ t, caesuraref4_Bare.l1 k s (b : Int) (a : Int) = some t ∧ BareOk (sub s a b) t := by
  intro n
  induction n with
  | zero =>
    intro a k hn hab hk
    obtain rfl : b = a := by omega
    obtain ⟨k, rfl⟩ : ∃ j, k = j + 2 := ⟨k - 2, by omega⟩
    rw [caesuraref4_Bare.l1, if_neg (by omega), caesuraref4_Bare.j2]
    exact bare_l2 s hs b s.size b k (by omega) (Nat.le_refl _) hb (by omega) (fun _ h => by omega)
  | succ n ih =>
    intro a k hn hab hk
    by_cases h : a < b
    · obtain ⟨k, rfl⟩ : ∃ j, k = j + 1 := ⟨k - 1, by omega⟩
      rw [caesuraref4_Bare.l1, if_pos (by omega), if_pos (by omega), if_pos (by omega), bt_nat s a (by omega), blank_f, Option.bind_some]
      by_cases hb2 : blankB s[a] = true
      · rw [if_pos hb2, wrap_at (n := (a : Int) + 1) (by omega)]
        obtain ⟨t, h1, h2, h3, h4⟩ := ih (a + 1) k (by omega) (by omega) (by omega)
        have e : fieldsB (sub s a b) [] = fieldsB (sub s (a + 1) b) [] := by rw [sub_cons s h hb, fieldsB, if_pos hb2, if_pos rfl]
        exact ⟨t, h1, by rw [e]; exact h2, by rw [e]; exact h3, Nat.le_trans h4 (by rw [sub_cons s h hb]; simp)⟩
      · obtain ⟨k, rfl⟩ : ∃ j, k = j + 1 := ⟨k - 1, by omega⟩
        rw [if_neg hb2, caesuraref4_Bare.j2]
        exact bare_l2 s hs a s.size b k (by omega) hab hb (by omega) (fun _ _ => Bool.eq_false_iff.2 hb2)
    · exact ih a k (by omega) hab (by omega)
theorem takeHash (s : ByteArray) {i : Nat} (h : i < s.size) : (cutHash ((toB s).drop i)).length = if s[i] = 35 then 0 else (cutHash ((toB s).drop (i + 1))).length + 1 := by
  unfold cutHash
  rw [drop_at s i h, List.takeWhile_cons]
  by_cases e : s[i] = 35
  · simp [e]
  · simp [e]
theorem bare_l0 (s : ByteArray) (hs : s.size ≤ 1048576) : ∀ (i k : Nat), i ≤ s.size → i + 2 * s.size + 6 ≤ k →
    ∃ t, caesuraref4_Bare.l0 k s ((i + (cutHash ((toB s).drop i)).length : Nat) : Int) ((i : Int) - 1) = some t ∧ BareOk (cutHash (toB s)) t := by
  intro i
  induction i with
  | zero =>
    intro k hi hk
    obtain ⟨k, rfl⟩ : ∃ j, k = j + 1 := ⟨k - 1, by omega⟩
    have hle : (cutHash (toB s)).length ≤ s.size := by rw [← len_str]; exact (List.takeWhile_sublist _).length_le
    rw [caesuraref4_Bare.l0, if_neg (by omega), List.drop_zero, Nat.zero_add]
    obtain ⟨t, h1, h2⟩ := bare_l1 s hs (cutHash (toB s)).length hle s.size 0 k (by omega) (by omega) (by omega)
    refine ⟨t, h1, ?_⟩
    have e : sub s 0 (cutHash (toB s)).length = cutHash (toB s) := by
      unfold sub
      rw [List.drop_zero, Nat.sub_zero]
      exact List.prefix_iff_eq_take.1 (List.takeWhile_prefix _) |>.symm
    rw [e] at h2; exact h2
  | succ i ih =>
    intro k hi hk
    obtain ⟨k, rfl⟩ : ∃ j, k = j + 1 := ⟨k - 1, by omega⟩
    rw [caesuraref4_Bare.l0, if_pos (by omega), if_pos (by omega), if_pos (by omega), show ((i + 1 : Nat) : Int) - 1 = (i : Int) by omega, bt_nat s i (by omega), wrap_at (n := (i : Int) - 1) (by omega)]
    obtain ⟨t, h1, h2⟩ := ih k (by omega) (by omega)
    rw [takeHash s (by omega : i < s.size)] at h1
    refine ⟨t, ?_, h2⟩
    by_cases e : s[i] = 35
    · rw [if_pos (by rw [e]; rfl)]
      rw [if_pos e] at h1
      exact h1
    · rw [if_neg (fun h => e (UInt8.toNat_inj.1 (by have h2 : s[i].toNat = 35 := (by omega); exact h2.trans (by decide))))]
      rw [if_neg e] at h1
      rw [show i + 1 + (cutHash ((toB s).drop (i + 1))).length = i + ((cutHash ((toB s).drop (i + 1))).length + 1) by omega]
      exact h1
theorem bare_f (s : ByteArray) (hs : s.size ≤ 1048576) (k : Nat) (hk : 3 * s.size + 6 ≤ k) : ∃ t, caesuraref4_Bare.f k s = some t ∧ BareOk (cutHash (toB s)) t := by
  obtain ⟨t, h1, h2⟩ := bare_l0 s hs s.size k (Nat.le_refl _) (by omega)
  refine ⟨t, ?_, h2⟩
  unfold caesuraref4_Bare.f
  rw [wrap_at (by omega)]
  rw [drop_end s s.size (Nat.le_refl _)] at h1
  simpa [cutHash] using h1
end

section
open Go.RowKit Go.Proofs.YtliimcemjjhmaaaDoorW.PrintWords Go.Proofs.YtliimcemjjhmaaaDoor.PTestParses

theorem saidW_even : ∀ (l : List Bs) (f : Bool) (p b : List Int), (l.length % 2 = if f = true then 1 else 0) → saidW l f p b = none
  | [], false, _, _, _ => rfl
  | [], true, _, _, h => by simp at h
  | w :: r, false, p, b, h => by
    have h' : r.length % 2 = 1 := by simp only [List.length_cons, Bool.false_eq_true, if_false] at h; omega
    simp only [saidW]
    rw [saidW_even r true _ _ (by simpa using h'), saidW_even r true _ _ (by simpa using h')]
    simp
  | w :: r, true, p, b, h => by
    have h' : r.length % 2 = 0 := by simp only [List.length_cons, if_true] at h; omega
    simp only [saidW]
    cases pointOf w with
    | none => rfl
    | some n => exact saidW_even r false _ _ (by simpa using h')
def saidOut (r : Option (List Int × List Int)) : List Int × List Int × Bool := match r with
  | some pb => (pb.1, pb.2, true)
  | none => ([], [], false)
theorem lit_eq (s : ByteArray) (l : Bs) : s.toList = l ↔ toB s = l := by rw [toL]
theorem said_l0 (ws : List ByteArray) (hw : ∀ w ∈ ws, w.size ≤ 1048576) (hlen : ws.length ≤ 1048577) (hodd : ws.length % 2 = 1) : ∀ (n i k : Nat) (p b : List Int), ws.length - i ≤ n → i ≤ ws.length → n + 2097170 ≤ k → p.length = i / 2 → b.length ≤ i →
    caesuraref23_said.l0 k ws (i : Int) p b = some (saidOut (saidW ((ws.drop i).map toB) (decide (i % 2 = 1)) p b)) := by
  intro n
  induction n with
  | zero =>
    intro i k p b hn hi hk hp hb
    obtain rfl : i = ws.length := by omega
    obtain ⟨k, rfl⟩ : ∃ j, k = j + 1 := ⟨k - 1, by omega⟩
    rw [caesuraref23_said.l0, if_neg (by omega), List.drop_length, decide_eq_true hodd]; rfl
  | succ n ih =>
    intro i k p b hn hi hk hp hb
    by_cases he : i = ws.length
    · exact ih i k p b (by omega) hi (by omega) hp hb
    · have hlt : i < ws.length := by omega
      obtain ⟨k, rfl⟩ : ∃ j, k = j + 1 := ⟨k - 1, by omega⟩
      have hrd : rdOf ByteArray.empty ws (i : Int) = ws[i] := by simp [rdOf, hlt]
      have hmod : Int.tmod (i : Int) 2 = ((i % 2 : Nat) : Int) := by rw [Int.tmod_eq_emod_of_nonneg (by omega)]; omega
      have hdiv : Int.tdiv (i : Int) 2 = ((i / 2 : Nat) : Int) := by rw [Int.tdiv_eq_ediv_of_nonneg (by omega)]; omega
      have hwl := hw ws[i] (List.getElem_mem hlt)
      rw [caesuraref23_said.l0, if_pos (by omega), hmod, List.drop_eq_getElem_cons hlt, List.map_cons, hrd, hdiv, wrap_at (n := (i : Int) + 1) (by omega), wrap_at (n := ((i / 2 : Nat) : Int)) (by omega)]
      by_cases h2 : i % 2 = 0
      · rw [if_pos (by rw [h2]; rfl), if_pos (by omega), decide_eq_false (by omega)]
        have e1 : decide ((i + 1) % 2 = 1) = true := decide_eq_true (by omega)
        simp only [saidW]
        by_cases hy : toB ws[i] = [195, 183]
        · rw [if_pos ((lit_eq _ _).2 hy), if_pos (by omega), if_pos hy, ← hp]
          have := ih (i + 1) k p (b ++ [(p.length : Int)]) (by omega) (by omega) (by omega) (by omega) (by simp; omega)
          rw [e1] at this; exact this
        · rw [if_neg (fun h => hy ((lit_eq _ _).1 h)), if_neg hy]
          by_cases hn2 : toB ws[i] = [195, 151]
          · rw [if_pos ((lit_eq _ _).2 hn2), if_pos hn2]
            have := ih (i + 1) k p b (by omega) (by omega) (by omega) (by omega) (by omega)
            rw [e1] at this; exact this
          · rw [if_neg (fun h => hn2 ((lit_eq _ _).1 h)), if_neg hn2]; rfl
      · rw [if_neg (by omega), if_pos (by omega), decide_eq_true (by omega)]
        obtain ⟨r, hr, hok⟩ := point_f ws[i] hwl k (by omega)
        rw [hr, Option.bind_some]
        simp only [saidW]
        unfold PointOk at hok
        have e1 : decide ((i + 1) % 2 = 1) = false := decide_eq_false (by omega)
        cases hpt : pointOf (toB ws[i]) with
        | none =>
          rw [show pointOf ws[i].data.toList = none from hpt] at hok
          by_cases h0 : r.2 = 0
          · rw [if_pos h0]; rfl
          · rw [if_neg h0, if_neg (hok.resolve_left h0)]; rfl
        | some v =>
          rw [show pointOf ws[i].data.toList = some v from hpt] at hok
          have hok' : r = (v, (ws[i].size : Int)) := hok
          have h4 : 4 ≤ ws[i].size := by
            unfold pointOf at hpt
            split at hpt
            · rename_i hc; have := hc.1; rw [len_str] at this; exact this
            · cases hpt
          rw [hok', if_neg (by show (ws[i].size : Int) ≠ 0; omega), if_pos rfl, if_pos (by omega)]
          have := ih (i + 1) k (p ++ [v]) b (by omega) (by omega) (by omega) (by simp; omega) (by omega)
          rw [e1] at this; exact this
theorem fieldsB_len : ∀ (l now : Bs), (fieldsB l now).length ≤ l.length + 1
  | [], now => by rw [fieldsB]; split <;> simp
  | d :: l, now => by
    have h1 := fieldsB_len l []
    have h2 := fieldsB_len l (now ++ [d])
    rw [fieldsB]
    by_cases hb : blankB d = true
    · rw [if_pos hb]
      by_cases hn : now = []
      · rw [if_pos hn, List.length_cons]; omega
      · rw [if_neg hn, List.length_cons, List.length_cons]; omega
    · rw [if_neg hb, List.length_cons]; omega
theorem fieldsB_size : ∀ (l now x : Bs), x ∈ fieldsB l now → x.length ≤ l.length + now.length
  | [], now, x, h => by
    rw [fieldsB] at h
    by_cases hn : now = []
    · rw [if_pos hn] at h; simp at h
    · rw [if_neg hn] at h; simp at h; subst h; omega
  | d :: l, now, x, h => by
    rw [fieldsB] at h
    by_cases hb : blankB d = true
    · rw [if_pos hb] at h
      by_cases hn : now = []
      · rw [if_pos hn] at h
        have := fieldsB_size l [] x h; simp at this ⊢; omega
      · rw [if_neg hn] at h
        rcases List.mem_cons.1 h with rfl | h
        · omega
        · have := fieldsB_size l [] x h; simp at this ⊢; omega
    · rw [if_neg hb] at h
      have := fieldsB_size l (now ++ [d]) x h; simp at this ⊢; omega
theorem said_f (t : ByteArray) (ht : t.size ≤ 1048576) (k : Nat) (hk : 4000000 ≤ k) : caesuraref23_said.f k t = some (saidOut (saidW (fieldsB (toB t) []) false [] [])) := by
  obtain ⟨ws, h1, h2⟩ := pieces_f t ht k (by omega)
  have hl : ws.length = (fieldsB (toB t) []).length := by rw [← h2, List.length_map]
  have hlen := fieldsB_len (toB t) []
  rw [len_str] at hlen
  have hsz : ∀ w ∈ ws, w.size ≤ 1048576 := fun w hw => by
    have := fieldsB_size (toB t) [] (toB w) (by rw [← h2]; exact List.mem_map.2 ⟨w, hw, rfl⟩)
    rw [len_str, len_str] at this; simp at this; omega
  unfold caesuraref23_said.f
  rw [h1, Option.bind_some]
  by_cases hodd : ws.length % 2 = 1
  · rw [if_pos (by omega)]
    have := said_l0 ws hsz (by omega) hodd ws.length 0 k [] [] (by omega) (by omega) (by omega) rfl (by simp)
    rw [List.drop_zero, h2] at this
    exact this
  · rw [if_neg (by omega), saidW_even _ false _ _ (by rw [← hl]; simp; omega)]; rfl

theorem scalar_f (n : Int) : caesuraref23_Scalar.f n = some (scalarB n) := by
  unfold caesuraref23_Scalar.f scalarB
  by_cases h1 : n ≥ 0
  · rw [if_pos h1]
    by_cases h2 : n ≤ 1114111
    · rw [if_pos h2]
      by_cases h3 : n < 55296
      · rw [if_pos h3, decide_eq_true (p := 0 ≤ n ∧ _) ⟨h1, h2, .inl h3⟩]
      · rw [if_neg h3]
        congr 1
        exact decide_eq_decide.2 ⟨fun h => ⟨h1, h2, .inr h⟩, fun h => h.2.2.resolve_left h3⟩
    · rw [if_neg h2, decide_eq_false (fun h => h2 h.2.1)]
  · rw [if_neg h1, decide_eq_false (fun h => h1 h.1)]
theorem scalars_l0 (l : List Int) (hl : l.length ≤ 1073741824) : ∀ (n i k : Nat), l.length - i ≤ n → i ≤ l.length → n + 1 ≤ k → caesuraref23_scalars.l0 k l (i : Int) = some ((l.drop i).all scalarB) := by
  intro n
  induction n with
  | zero =>
    intro i k hn hi hk
    obtain rfl : i = l.length := by omega
    obtain ⟨k, rfl⟩ : ∃ j, k = j + 1 := ⟨k - 1, by omega⟩
    rw [caesuraref23_scalars.l0, if_neg (by omega), List.drop_length]; rfl
  | succ n ih =>
    intro i k hn hi hk
    by_cases he : i = l.length
    · exact ih i k (by omega) hi (by omega)
    · have hlt : i < l.length := by omega
      obtain ⟨k, rfl⟩ : ∃ j, k = j + 1 := ⟨k - 1, by omega⟩
      rw [caesuraref23_scalars.l0, if_pos (by omega), if_pos (by omega), show rd l (i : Int) = l[i] by simp [rd, hlt], scalar_f, Option.bind_some, List.drop_eq_getElem_cons hlt, List.all_cons]
      by_cases hs : scalarB l[i] = true
      · rw [if_pos hs, wrap_at (by omega), hs, Bool.true_and]; exact ih (i + 1) k (by omega) (by omega) (by omega)
      · rw [if_neg hs, Bool.eq_false_iff.2 hs]; rfl
theorem scalars_f (l : List Int) (hl : l.length ≤ 1048577) (k : Nat) (hk : 4000000 ≤ k) : caesuraref23_scalars.f k l = some (l.all scalarB) :=
  scalars_l0 l (by omega) l.length 0 k (by omega) (by omega) (by omega)
end

section
open Go.RowKit Go.Proofs.YtliimcemjjhmaaaDoorW.PrintWords Go.Proofs.YtliimcemjjhmaaaDoor.PTestParses

theorem sub_nil (s : ByteArray) (a : Nat) : sub s a a = [] := by simp [sub]
theorem dropCR_sub (s : ByteArray) {a b : Nat} (h : a < b) (hb : b ≤ s.size) : dropCR (sub s a b) = if s[b - 1] = 13 then sub s a (b - 1) else sub s a b := by
  unfold dropCR
  rw [sub_snoc s h hb, List.getLast?_append]
  by_cases e : s[b - 1] = 13
  · simp [e]
  · simp [e]
theorem sub_grow (s : ByteArray) {a i : Nat} (h : a ≤ i) (hi : i < s.size) : sub s a (i + 1) = sub s a i ++ [s[i]] := by
  have := sub_snoc s (a := a) (b := i + 1) (by omega) (by omega)
  simpa using this
theorem lines_l0 (s : ByteArray) (hs : s.size ≤ 1048576) : ∀ (n a i k : Nat) (acc : List ByteArray), s.size - i ≤ n → a ≤ i → i ≤ s.size → n + 1 ≤ k → acc.length ≤ i →
    ∃ ls, caesuraref4_Lines.l0 k s acc (a : Int) (i : Int) = some ls ∧ ls.map toB = acc.map toB ++ linesB ((toB s).drop i) (sub s a i) := by
  intro n
  induction n with
  | zero =>
    intro a i k acc hn ha hi hk hl
    obtain rfl : i = s.size := by omega
    obtain ⟨k, rfl⟩ : ∃ j, k = j + 1 := ⟨k - 1, by omega⟩
    rw [caesuraref4_Lines.l0, if_neg (by omega), if_pos (by omega), if_pos (by omega), if_pos (by omega), drop_end s s.size (Nat.le_refl _), linesB]
    exact ⟨_, rfl, by rw [List.map_append]; congr 1; show [toB (s.extract a s.size)] = _; rw [show toB (s.extract a s.size) = sub s a s.size from ext_sub s a s.size]⟩
  | succ n ih =>
    intro a i k acc hn ha hi hk hl
    by_cases he : i = s.size
    · obtain rfl : i = s.size := he
      exact ih a s.size k acc (by omega) ha (Nat.le_refl _) (by omega) hl
    · have hlt : i < s.size := by omega
      obtain ⟨k, rfl⟩ : ∃ j, k = j + 1 := ⟨k - 1, by omega⟩
      rw [caesuraref4_Lines.l0, if_pos (by omega), if_pos (by omega), bt_nat s i hlt, wrap_at (n := (i : Int) + 1) (by omega), drop_at s i hlt, linesB]
      have next : ∀ x : ByteArray, ∃ ls, caesuraref4_Lines.l0 k s (acc ++ [x]) ((i + 1 : Nat) : Int) ((i + 1 : Nat) : Int) = some ls ∧ ls.map toB = acc.map toB ++ toB x :: linesB ((toB s).drop (i + 1)) [] := fun x => by
        obtain ⟨ls, h1, h2⟩ := ih (i + 1) (i + 1) k (acc ++ [x]) (by omega) (Nat.le_refl _) (by omega) (by omega) (by simp; omega)
        exact ⟨ls, h1, by rw [h2, sub_nil]; simp⟩
      by_cases h10 : s[i] = 10
      · rw [if_pos (by rw [h10]; rfl), if_pos h10]
        by_cases hgt : a < i
        · rw [if_pos (by omega), wrap_at (n := (i : Int) - 1) (by omega), if_pos (by omega), if_pos (by omega), show (i : Int) - 1 = ((i - 1 : Nat) : Int) by omega, bt_nat s (i - 1) (by omega), dropCR_sub s hgt hi]
          by_cases h13 : s[i - 1] = 13
          · rw [if_pos (by rw [h13]; rfl), if_pos (by omega), if_pos (by omega), if_pos (by omega), if_pos (by omega), if_pos h13]
            have := next (s.extract a (i - 1))
            rw [show toB (s.extract a (i - 1)) = sub s a (i - 1) from ext_sub s a (i - 1)] at this
            exact this
          · have h13' : ¬ (s[i - 1].toNat : Int) = 13 := fun h => h13 (UInt8.toNat_inj.1 (by have h2 : s[i - 1].toNat = 13 := (by omega); exact h2.trans (by decide)))
            rw [if_neg h13', if_pos (by omega), if_pos (by omega), if_pos (by omega), if_pos (by omega), if_neg h13]
            have := next (s.extract a i)
            rw [show toB (s.extract a i) = sub s a i from ext_sub s a i] at this
            exact this
        · obtain rfl : a = i := by omega
          rw [if_neg (by omega), if_pos (by omega), if_pos (by omega), if_pos (by omega), if_pos (by omega), sub_nil]
          have := next (s.extract a a)
          rw [show toB (s.extract a a) = [] from (ext_sub s a a).trans (by simp)] at this
          exact this
      · have h10' : ¬ (s[i].toNat : Int) = 10 := fun h => h10 (UInt8.toNat_inj.1 (by have h2 : s[i].toNat = 10 := (by omega); exact h2.trans (by decide)))
        rw [if_neg h10', if_neg h10]
        obtain ⟨ls, h1, h2⟩ := ih a (i + 1) k acc (by omega) (by omega) (by omega) (by omega) (by omega)
        exact ⟨ls, h1, by rw [h2, sub_grow s ha hlt]⟩
theorem lines_f (s : ByteArray) (hs : s.size ≤ 1048576) (k : Nat) (hk : 4000000 ≤ k) : ∃ ls, caesuraref4_Lines.f k s = some ls ∧ ls.map toB = linesB (toB s) [] := by
  obtain ⟨ls, h1, h2⟩ := lines_l0 s hs s.size 0 0 k [] (by omega) (Nat.le_refl _) (by omega) (by omega) (by simp)
  exact ⟨ls, h1, by rw [sub_nil] at h2; simpa using h2⟩

theorem linesB_len : ∀ (l cur : Bs), (linesB l cur).length ≤ l.length + 1
  | [], _ => by simp [linesB]
  | b :: r, cur => by
    have h1 := linesB_len r []
    have h2 := linesB_len r (cur ++ [b])
    rw [linesB]
    split
    · rw [List.length_cons, List.length_cons]; omega
    · rw [List.length_cons]; omega
theorem dropCR_len (l : Bs) : (dropCR l).length ≤ l.length := by
  unfold dropCR; split <;> simp
theorem linesB_size : ∀ (l cur x : Bs), x ∈ linesB l cur → x.length ≤ l.length + cur.length
  | [], cur, x, h => by simp [linesB] at h; subst h; omega
  | b :: r, cur, x, h => by
    rw [linesB] at h
    split at h
    · rcases List.mem_cons.1 h with rfl | h
      · have := dropCR_len cur; omega
      · have := linesB_size r [] x h; simp at this ⊢; omega
    · have := linesB_size r (cur ++ [b]) x h; simp at this ⊢; omega
theorem saidW_len : ∀ (l : List Bs) (f : Bool) (p b : List Int) (r : List Int × List Int), saidW l f p b = some r → r.1.length ≤ p.length + l.length
  | [], false, _, _, _, h => by simp [saidW] at h
  | [], true, p, b, r, h => by simp [saidW] at h; subst h; simp
  | w :: l, false, p, b, r, h => by
    simp only [saidW] at h
    split at h
    · have := saidW_len l true _ _ r h; simp; omega
    · split at h
      · have := saidW_len l true _ _ r h; simp; omega
      · cases h
  | w :: l, true, p, b, r, h => by
    simp only [saidW] at h
    split at h
    · cases h
    · have := saidW_len l false _ _ r h; simp at this ⊢; omega

theorem parse_l0 (ls : List ByteArray) (hw : ∀ x ∈ ls, x.size ≤ 1048576) (hlen : ls.length ≤ 1048577) : ∀ (n i k : Nat) (acc : List S40), ls.length - i ≤ n → i ≤ ls.length → n + 4000001 ≤ k → acc.length ≤ 20000 →
    caesuraref23_Parse.l0 k ls acc (i : Int) = some (fileL ((ls.drop i).map toB) acc ((i : Int) + 1)) := by
  intro n
  induction n with
  | zero =>
    intro i k acc hn hi hk ha
    obtain rfl : i = ls.length := by omega
    obtain ⟨k, rfl⟩ : ∃ j, k = j + 1 := ⟨k - 1, by omega⟩
    rw [caesuraref23_Parse.l0, if_neg (by omega), List.drop_length]; rfl
  | succ n ih =>
    intro i k acc hn hi hk ha
    by_cases he : i = ls.length
    · exact ih i k acc (by omega) hi (by omega) ha
    · have hlt : i < ls.length := by omega
      obtain ⟨k, rfl⟩ : ∃ j, k = j + 1 := ⟨k - 1, by omega⟩
      have hwl := hw ls[i] (List.getElem_mem hlt)
      obtain ⟨t, ht, hf, hn0, hsz⟩ := bare_f ls[i] hwl k (by omega)
      have htl : t.size ≤ 1048576 := by
        have h1 : (cutHash (toB ls[i])).length ≤ (toB ls[i]).length := (List.takeWhile_sublist _).length_le
        rw [len_str] at h1 hsz
        omega
      rw [caesuraref23_Parse.l0, if_pos (by omega), if_pos (by omega), show rdOf ByteArray.empty ls (i : Int) = ls[i] by simp [rdOf, hlt], ht, Option.bind_some, wrap_at (n := (i : Int) + 1) (by omega), List.drop_eq_getElem_cons hlt, List.map_cons, fileL]
      have nx : ∀ acc' : List S40, acc'.length ≤ 20000 → caesuraref23_Parse.l0 k ls acc' ((i : Int) + 1) = some (fileL ((ls.drop (i + 1)).map toB) acc' ((i : Int) + 1 + 1)) := fun acc' h => ih (i + 1) k acc' (by omega) (by omega) (by omega) h
      by_cases hb : toB t = []
      · rw [if_pos (nilB.2 hb), if_pos (show wordsLn (toB ls[i]) = [] from hn0.1 hb)]
        exact nx acc ha
      · rw [if_neg (fun h => hb (nilB.1 h)), if_neg (fun h : wordsLn (toB ls[i]) = [] => hb (hn0.2 h)), said_f t htl k (by omega), Option.bind_some, hf, show fieldsB (cutHash (toB ls[i])) [] = wordsLn (toB ls[i]) from rfl]
        cases hsd : saidW (wordsLn (toB ls[i])) false [] [] with
        | none => rfl
        | some pb =>
          have hpl := saidW_len _ _ _ _ _ hsd
          have hfl := fieldsB_len (cutHash (toB ls[i])) []
          have hfl2 : (cutHash (toB ls[i])).length ≤ (toB ls[i]).length := (List.takeWhile_sublist _).length_le
          rw [len_str] at hfl2
          rw [show (wordsLn (toB ls[i])).length = (fieldsB (cutHash (toB ls[i])) []).length from rfl] at hpl
          simp only [List.length_nil] at hpl
          simp only [saidOut, if_true]
          rw [scalars_f pb.1 (by omega) k (by omega), Option.bind_some]
          by_cases hsc : pb.1.all scalarB = true
          · rw [if_pos hsc, if_pos hsc]
            by_cases h2 : 20000 ≤ acc.length
            · rw [if_pos (by omega), if_pos h2]
            · rw [if_neg (by omega), if_pos (by omega), if_neg h2]
              exact nx _ (by simp; omega)
          · rw [if_neg hsc, if_neg hsc]
theorem parse_f (s : ByteArray) : caesuraref23_Parse.f 6000000 s = some (parseOut (toB s)) := by
  unfold caesuraref23_Parse.f parseOut
  by_cases h : (s.size : Int) > 1048576
  · rw [if_pos h, if_pos (by rw [len_str]; omega)]
  · rw [if_neg h, if_neg (by rw [len_str]; omega)]
    obtain ⟨ls, h1, h2⟩ := lines_f s (by omega) 6000000 (by omega)
    have hl : ls.length = (linesB (toB s) []).length := by rw [← h2, List.length_map]
    have h3 := linesB_len (toB s) []
    rw [len_str] at h3
    have h4 := parse_l0 ls (fun x hx => by
      have := linesB_size (toB s) [] (toB x) (by rw [← h2]; exact List.mem_map.2 ⟨x, hx, rfl⟩)
      rw [len_str, len_str] at this; simp at this; omega) (by omega) ls.length 0 6000000 [] (by omega) (by omega) (by omega) (by simp)
    rw [List.drop_zero, h2] at h4
    rw [h1, Option.bind_some]
    exact h4
end
end Go.Proofs.YtliimcemjjhmaaaDoor
