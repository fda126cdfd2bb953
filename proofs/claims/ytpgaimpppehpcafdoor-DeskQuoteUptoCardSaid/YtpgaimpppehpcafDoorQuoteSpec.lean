/- A word as it is quoted, as plain functions on lists of bytes; that its words are the word again. -/
import Derived.Test.YtpgaimpppehpcafDoorWordLemmas
import Derived.Test.YtpgaimpppehpcafDoorPlainLemmas
namespace Go.Proofs.YtpgaimpppehpcafDoor

namespace Dw
def okb (c : UInt8) : Bool := 33 ≤ c.toNat && c.toNat ≤ 126 && c.toNat != 34 && c.toNat != 92
def bareB (l : List UInt8) : Bool := (!l.isEmpty && (l.headD 0).toNat != 35) && l.all okb
def hexd (n : Nat) : UInt8 := if n < 10 then UInt8.ofNat (48 + n) else UInt8.ofNat (87 + n)
def qch (c : UInt8) : List UInt8 :=
  if c.toNat = 34 ∨ c.toNat = 92 then [92, c] else if c.toNat = 10 then [92, 110] else if 32 ≤ c.toNat ∧ c.toNat ≤ 126 then [c] else [92, 120, hexd (c.toNat / 16), hexd (c.toNat % 16)]
def quote (l : List UInt8) : List UInt8 := if bareB l then l else 34 :: (l.flatMap qch ++ [34])

theorem qch_le (c : UInt8) : (qch c).length ≤ 4 := by
  unfold qch
  split
  · simp
  · split
    · simp
    · split <;> simp
theorem hexd_val {n : Nat} (h : n < 16) : hexa (hexd n).toNat = n := by
  have hh : ∀ m : Fin 16, hexa (hexd m.val).toNat = (m.val : Int) := by decide
  exact hh ⟨n, h⟩
end Dw

def Ends (rest : List UInt8) : Prop := rest = [] ∨ ∃ t, rest = 32 :: t

theorem quo_quote : ∀ (l rest : List UInt8), Ends rest → Dw.quo (l.flatMap Dw.qch ++ 34 :: rest) = some (l, rest)
  | [], rest, hr => by
    rw [List.flatMap_nil, List.nil_append]
    exact quo_end (by decide) (by rcases hr with rfl | ⟨t, rfl⟩ <;> simp)
  | c :: l, rest, hr => by
    have ih := quo_quote l rest hr
    rw [List.flatMap_cons, List.append_assoc]
    unfold Dw.qch
    split
    · rename_i h
      have he : Dw.esc (92 :: c :: (l.flatMap Dw.qch ++ 34 :: rest)) = some (c, 2) := by simp [Dw.esc, h]
      show Dw.quo (92 :: c :: (l.flatMap Dw.qch ++ 34 :: rest)) = _
      rw [quo_esc (by decide) he]
      simp [ih]
    · split
      · rename_i h h10
        have hc : c = 10 := UInt8.toNat_inj.1 h10
        have he : Dw.esc (92 :: 110 :: (l.flatMap Dw.qch ++ 34 :: rest)) = some (10, 2) := by simp [Dw.esc]
        show Dw.quo (92 :: 110 :: (l.flatMap Dw.qch ++ 34 :: rest)) = _
        rw [quo_esc (by decide) he]
        simp [ih, hc]
      · split
        · rename_i h h10 h32
          show Dw.quo (c :: (l.flatMap Dw.qch ++ 34 :: rest)) = _
          rw [quo_good ⟨h32.1, h32.2, by omega, by omega⟩, ih]; rfl
        · rename_i h h10 h32
          have hlt := c.toNat_lt
          have h1 := Dw.hexd_val (n := c.toNat / 16) (by omega)
          have h2 := Dw.hexd_val (n := c.toNat % 16) (by omega)
          have hv : UInt8.ofNat (16 * Dw.hexa (Dw.hexd (c.toNat / 16)).toNat + Dw.hexa (Dw.hexd (c.toNat % 16)).toNat).toNat = c := by
            rw [h1, h2]
            apply UInt8.toNat_inj.1
            rw [UInt8.toNat_ofNat']
            omega
          have he : Dw.esc (92 :: 120 :: Dw.hexd (c.toNat / 16) :: Dw.hexd (c.toNat % 16) :: (l.flatMap Dw.qch ++ 34 :: rest)) = some (c, 4) := by
            show Dw.esc (92 :: 120 :: Dw.hexd (c.toNat / 16) :: Dw.hexd (c.toNat % 16) :: (l.flatMap Dw.qch ++ 34 :: rest)) = _
            unfold Dw.esc
            simp only
            rw [if_neg (by decide), if_neg (by decide), if_pos (by decide), if_pos ⟨by omega, by omega⟩, hv]
          show Dw.quo (92 :: 120 :: Dw.hexd (c.toNat / 16) :: Dw.hexd (c.toNat % 16) :: (l.flatMap Dw.qch ++ 34 :: rest)) = _
          rw [quo_esc (by decide) he]
          simp [ih]

theorem words_quote (l rest : List UInt8) (hr : Ends rest) : Dw.words (Dw.quote l ++ rest) = (Dw.words rest).map (l :: ·) := by
  unfold Dw.quote
  split
  · rename_i hb
    unfold Dw.bareB at hb
    simp only [Bool.and_eq_true] at hb
    obtain ⟨⟨he, _⟩, hall⟩ := hb
    match l, he, hall with
    | c :: l, _, hall =>
      have hc : Dw.okb c = true := by simp at hall; exact hall.1
      unfold Dw.okb at hc
      simp only [Bool.and_eq_true, decide_eq_true_eq, bne_iff_ne] at hc
      have hp : Dw.plainS ((c :: l) ++ rest) = some (c :: l, rest) := by
        refine plain_stop _ (c :: l) rest ?_ rfl ?_
        · rw [List.all_eq_true] at hall ⊢
          intro x hx
          have h := hall x hx
          unfold Dw.okb at h
          simp only [Bool.and_eq_true, decide_eq_true_eq, bne_iff_ne] at h
          have h1 : Dw.okc x = true := okc_yes' ⟨h.1.1.1, h.1.1.2, h.1.2⟩
          have h2 : Dw.nb x = true := (Dw.nb_iff x).2 (by omega)
          simp [h1, h2]
        · rcases hr with rfl | ⟨t, rfl⟩
          · exact .inl rfl
          · exact .inr ⟨32, t, rfl, by decide⟩
      exact words_plain (by omega) (by omega) hp
  · show Dw.words (34 :: (l.flatMap Dw.qch ++ [34]) ++ rest) = _
    have : (34 : UInt8) :: (l.flatMap Dw.qch ++ [34]) ++ rest = 34 :: (l.flatMap Dw.qch ++ 34 :: rest) := by simp
    rw [this]
    exact words_quo (by decide) (quo_quote l rest hr)

theorem words_one (l : List UInt8) : Dw.words (Dw.quote l) = some [l] := by
  have := words_quote l [] (.inl rfl)
  rw [List.append_nil] at this
  rw [this, Dw.words]; rfl
theorem words_three (l : List UInt8) : Dw.words ([32, 32, 97, 32] ++ Dw.quote l ++ [32, 32] ++ Dw.quote l) = some [[97], l, l] := by
  have e : ([32, 32, 97, 32] ++ Dw.quote l ++ [32, 32] ++ Dw.quote l : List UInt8) = 32 :: 32 :: 97 :: (32 :: (Dw.quote l ++ 32 :: 32 :: Dw.quote l)) := by simp
  rw [e, Dw.words_blank _ (by decide), Dw.words_blank _ (by decide)]
  have hp : Dw.plainS (97 :: (32 :: (Dw.quote l ++ 32 :: 32 :: Dw.quote l))) = some ([97], 32 :: (Dw.quote l ++ 32 :: 32 :: Dw.quote l)) := plain_stop _ [97] _ (by decide) rfl (.inr ⟨32, _, rfl, by decide⟩)
  rw [words_plain (by decide) (by decide) hp, Dw.words_blank _ (by decide), words_quote l _ (.inr ⟨_, rfl⟩), Dw.words_blank _ (by decide), Dw.words_blank _ (by decide), words_one]
  rfl
end Go.Proofs.YtpgaimpppehpcafDoor
