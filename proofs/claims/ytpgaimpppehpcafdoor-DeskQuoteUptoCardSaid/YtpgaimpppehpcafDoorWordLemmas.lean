/- The equations of 'words'; slices of strings that the call owns. -/
import Derived.Test.YtpgaimpppehpcafDoorQuoLemmas
import Derived.Test.YtpgaimpppehpcafDoorStr
import Derived.Test.YtpgaimpppehpcafDoorProg
import Derived.Test.YtpgaimpppehpcafDoorWWords
import Derived.KernelRfl
namespace Go.Proofs.YtpgaimpppehpcafDoor
open Go.RowKit Go.Proofs.YtpgaimpppehpcafDoorW.PrintWords

theorem strInfo : (Tryd.prog.info? 9).map (fun i => (i.zero, i.size, i.bytes)) = some (some (.string ⟨#[]⟩), 1, 16) := by kernel_rfl

abbrev OwnStrs (w : World) (base : Nat) (v : Value) (l : List ByteArray) : Prop := Kd.R Kd.string 9 w base (fun _ => True) v l
def bytesL (l : List ByteArray) : List (List UInt8) := l.map fun s => s.data.toList

abbrev ReadStrs (w : World) (A : Option Addr) (l : List ByteArray) : Prop := Kd.C Kd.string w A l.length l

theorem readStr {w : World} {A : Option Addr} {l : List ByteArray} (h : ReadStrs w A l) (k : Nat) (hk : k < l.length) : ∃ ad, A = some ad ∧ w.cell? (ad.add k) = some (.string l[k]) := by
  obtain ⟨ad, e, hc⟩ := (Kd.reads_of_C (d := ByteArray.empty) h).at_ (k : Int) (by omega) (by omega)
  refine ⟨ad, e, ?_⟩
  rw [Int.toNat_natCast] at hc
  rw [hc, rdOf, Int.toNat_natCast, List.getD_eq_getElem?_getD, List.getElem?_eq_getElem hk]; rfl

theorem trim_head (l : List UInt8) : ((l.dropWhile (fun c => c.toNat == 32)).headD 0).toNat ≠ 32 := by
  induction l with
  | nil => simp
  | cons c r ih =>
    by_cases h : c.toNat = 32
    · simp only [List.dropWhile_cons, h, beq_self_eq_true, if_true]; exact ih
    · simp [h]
theorem cons_of (z : ByteArray) (h : 0 < z.size) : z.data.toList = z[0] :: z.data.toList.drop 1 := by
  have := drop_at z 0 h; simpa using this
theorem words_quo {l wd rest : List UInt8} {c : UInt8} (h : c.toNat = 34) (hq : Dw.quo l = some (wd, rest)) : Dw.words (c :: l) = (Dw.words rest).map (wd :: ·) := by
  have := Dw.quo_le _ _ _ _ (Nat.le_refl _) hq
  rw [Dw.words, if_neg (by omega), if_pos h, hq]
  simp only
  rw [if_pos (by omega)]
theorem words_quobad {l : List UInt8} {c : UInt8} (h : c.toNat = 34) (hq : Dw.quo l = none) : Dw.words (c :: l) = none := by
  rw [Dw.words, if_neg (by omega), if_pos h, hq]
theorem words_plain {l wd rest : List UInt8} {c : UInt8} (h : c.toNat ≠ 34) (h32 : c.toNat ≠ 32) (hq : Dw.plainS (c :: l) = some (wd, rest)) : Dw.words (c :: l) = (Dw.words rest).map (wd :: ·) := by
  unfold Dw.plainS at hq
  split at hq
  · rename_i ha
    simp only [Option.some.injEq, Prod.mk.injEq] at hq
    rw [Dw.words, if_neg h32, if_neg h, if_pos ha, ← hq.1, ← hq.2]
    rw [List.dropWhile_cons, if_pos ((Dw.nb_iff c).2 h32)]
  · cases hq
theorem words_plainbad {l : List UInt8} {c : UInt8} (h : c.toNat ≠ 34) (h32 : c.toNat ≠ 32) (hq : Dw.plainS (c :: l) = none) : Dw.words (c :: l) = none := by
  unfold Dw.plainS at hq
  split at hq
  · cases hq
  · rename_i ha
    rw [Dw.words, if_neg h32, if_neg h, if_neg ha]
theorem plain_len {l wd rest : List UInt8} {c : UInt8} (h32 : c.toNat ≠ 32) (hq : Dw.plainS (c :: l) = some (wd, rest)) : rest.length ≤ l.length := by
  unfold Dw.plainS at hq
  split at hq
  · simp only [Option.some.injEq, Prod.mk.injEq] at hq
    rw [← hq.2, List.dropWhile_cons, if_pos ((Dw.nb_iff c).2 h32)]
    exact (List.dropWhile_sublist _).length_le
  · cases hq
theorem map_app {o : Option (List (List UInt8))} (x : List ByteArray) (y : ByteArray) (wd : List UInt8) (hy : y.data.toList = wd) : (o.map (wd :: ·)).map (bytesL x ++ ·) = o.map (bytesL (x ++ [y]) ++ ·) := by
  cases o <;> simp [bytesL, hy]

theorem step_ok {s z y t : ByteArray} {x : List ByteArray} {wd rest : List UInt8} (hlen : x.length + z.size ≤ s.size) (hW : Dw.words s.data.toList = (Dw.words z.data.toList).map (bytesL x ++ ·))
    (hw : Dw.words z.data.toList = (Dw.words rest).map (wd :: ·)) (hr : rest.length < z.size) (hy : y.data.toList = wd) (ht : t.data.toList = rest.dropWhile (fun c => c.toNat == 32)) :
    t.size < z.size ∧ (x ++ [y]).length + t.size ≤ s.size ∧ Dw.words s.data.toList = (Dw.words t.data.toList).map (bytesL (x ++ [y]) ++ ·) := by
  have h1 : t.size ≤ rest.length := by rw [← len_str t, ht]; exact (List.dropWhile_sublist _).length_le
  refine ⟨by omega, by simp; omega, ?_⟩
  rw [hW, hw, map_app x y wd hy, ht, Dw.words_trim]

end Go.Proofs.YtpgaimpppehpcafDoor
