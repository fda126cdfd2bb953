/- strings.Join over strings that the call owns. -/
import Derived.Test.YtpgaimpppehpcabDoorStr
import Derived.Test.YtpgaimpppehpcabDoorWWords
import Derived.Test.YtpgaimpppehpcabDoorShelf
namespace Go.Proofs.YtpgaimpppehpcabDoor
open Go.RowKit Go.Proofs.YtpgaimpppehpcabDoorW.PrintWords

theorem strInfo : (Tryd.prog.info? 9).map (fun i => (i.zero, i.size, i.bytes)) = some (some (.string ⟨#[]⟩), 1, 16) := by kernel_rfl
abbrev OwnStrs (w : World) (base : Nat) (v : Value) (l : List ByteArray) : Prop := Kd.R Kd.string 9 w base (fun _ => True) v l
def bytesL (l : List ByteArray) : List (List UInt8) := l.map fun s => s.data.toList

theorem join_any (sep : ByteArray) (base : Nat) (v : Value) (x : List ByteArray) (w : World) (h : OwnStrs w base v x) (hx : x.length ≤ 140737488355328) (hl : (Lib.join (bytesL x) sep.data.toList).length ≤ 140737488355328) :
    Calls Tryd.prog 15 #[v, .string sep] w fun e w' => (∃ y : ByteArray, e = .returned (.string y) ∧ y.data.toList = Lib.join (bytesL x) sep.data.toList) ∧ Below w.heap.size w w' := by
  rcases Nat.eq_zero_or_pos x.length with h0 | h0
  · obtain ⟨A, c, rfl⟩ := Kd.R_slice h
    obtain rfl := List.length_eq_zero_iff.1 h0
    exact (Tryd.strings_Join_none A c sep w).mono fun e w' ⟨he, hw⟩ => ⟨⟨_, he, rfl⟩, hw ▸ Below.refl _ _⟩
  · obtain ⟨g, cap, rfl, hb, hg, _⟩ := Kd.R_form h h0
    obtain ⟨_, _, e1, hcap, _⟩ := Kd.R_reads h
    injection e1 with _ _ e3
    refine (Tryd.strings_Join g 0 cap x sep w (fun j y hy => ?_) hg hx (e3 ▸ hcap) hl).mono fun e w' ⟨he, hw⟩ => ⟨⟨_, he, rfl⟩, hw⟩
    obtain ⟨hj, hy⟩ := List.getElem?_eq_some_iff.1 hy
    have := (Kd.R_celln (ByteArray.empty) h (j : Int) (by omega) (by omega)).1
    rw [Int.toNat_natCast, rdOf, Int.toNat_natCast, List.getD_eq_getElem?_getD, List.getElem?_eq_getElem hj] at this
    rw [Nat.zero_add, this]; simp [hy]
end Go.Proofs.YtpgaimpppehpcabDoor
