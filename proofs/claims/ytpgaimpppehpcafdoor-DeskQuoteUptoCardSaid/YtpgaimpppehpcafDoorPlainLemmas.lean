/- The equations of 'plainS'. -/
import Derived.Test.YtpgaimpppehpcafDoorDeskSpec
namespace Go.Proofs.YtpgaimpppehpcafDoor

theorem okc_no' {c : UInt8} (h : c.toNat < 33 ∨ 126 < c.toNat ∨ c.toNat = 34) : Dw.okc c = false := by
  simp [Dw.okc]; omega
theorem okc_yes' {c : UInt8} (h : 33 ≤ c.toNat ∧ c.toNat ≤ 126 ∧ c.toNat ≠ 34) : Dw.okc c = true := by
  simp [Dw.okc]; omega

/-- The head of a list that is not blank: one step of 'plainS', the ok bytes ahead. -/
theorem plain_stop (l acc r : List UInt8) (ha : acc.all (fun c => Dw.okc c && Dw.nb c) = true) (hl : l = acc ++ r) (hr : r = [] ∨ ∃ c t, r = c :: t ∧ c.toNat = 32) : Dw.plainS l = some (acc, r) := by
  subst hl
  have hnb : ∀ c ∈ acc, Dw.nb c = true := fun c hc => by have := List.all_eq_true.1 ha c hc; simp at this; exact this.2
  have hok : acc.all Dw.okc = true := List.all_eq_true.2 fun c hc => by have := List.all_eq_true.1 ha c hc; simp at this; exact this.1
  have ht : (acc ++ r).takeWhile Dw.nb = acc := by
    rw [List.takeWhile_append_of_pos hnb]
    rcases hr with rfl | ⟨c, t, rfl, hc⟩
    · simp
    · have : ¬ Dw.nb c = true := fun e => (Dw.nb_iff c).1 e hc
      simp [this]
  have hd : (acc ++ r).dropWhile Dw.nb = r := by
    rw [List.dropWhile_append_of_pos hnb]
    rcases hr with rfl | ⟨c, t, rfl, hc⟩
    · simp
    · have : ¬ Dw.nb c = true := fun e => (Dw.nb_iff c).1 e hc
      simp [this]
  unfold Dw.plainS
  rw [ht, hd, if_pos hok]
theorem plain_bad (l acc t : List UInt8) (c : UInt8) (ha : acc.all (fun c => Dw.okc c && Dw.nb c) = true) (hl : l = acc ++ c :: t) (hc : c.toNat ≠ 32) (hb : Dw.okc c = false) : Dw.plainS l = none := by
  subst hl
  have hnb : ∀ c ∈ acc, Dw.nb c = true := fun c hc => by have := List.all_eq_true.1 ha c hc; simp at this; exact this.2
  unfold Dw.plainS
  rw [List.takeWhile_append_of_pos hnb, List.takeWhile_cons, if_pos ((Dw.nb_iff c).2 hc)]
  rw [if_neg]
  simp [hb]

end Go.Proofs.YtpgaimpppehpcafDoor
