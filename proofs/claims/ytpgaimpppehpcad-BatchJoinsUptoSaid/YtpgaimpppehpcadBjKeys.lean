/- The sorted keys of a map of ints: maps.Keys, slices.Sorted, off the shelf's contracts. -/
import Derived.Test.YtpgaimpppehpcadKeys
import Derived.Test.YtpgaimpppehpcadBjPure
import Derived.WalkKit
import Derived.Test.YtpgaimpppehpcadStr
import Derived.CallsIn
namespace Go.Proofs.Ytpgaimpppehpcad
open Go.RowKit Go.Maps Go.Sort Go.Shelf Go.Proofs.YtpgaimpppehpcadW.PrintWords Go.Proofs.Ytpgaimpppehpcad.PBatchJoins

abbrev iK : Kd Int := Kd.int .i64
theorem sortsA (m : Nat) : AnyZI.SortsIn Try.prog Try.sortedA_ren Fence.wide m :=
  ⟨fun blk off cap ss W hH hblk hsz => callsIn_wide.2 (AnyM.slices_Sort_int Try.sortA blk off cap ss W hH hblk hsz),
   fun p cap W => callsIn_wide.2 (AnyM.slices_Sort_int_none Try.sortA p cap W)⟩

theorem keys_any (mb : Option Nat) (w : World) : Calls Try.prog 16 #[.map mb] w fun e w' => e = .returned (.func (.func 19) #[] #[.pointer (some ⟨w.heap.size, 0, none⟩)]) ∧ w' = w.alloc (.cells #[.map mb] 34) :=
  (callsIn_wide (n := 5)).1 (AnyZI.keys_in Try.keysA Fence.wide 5 trivial rfl mb w)

theorem sorted_any {R : Value → Option (DataW Unit × List MemPlace)} (b nn : Nat) (D0 : Dm) (w : World) (hown : w.ownsMap Try.prog 3 R b nn D0) (hmax : Maps.size D0 ≤ 1099511627776) :
    Calls Try.prog 15 #[.func (.func 19) #[] #[.pointer (some ⟨w.heap.size, 0, none⟩)]] (w.alloc (.cells #[.map (some b)] 34)) fun e w' => (∃ (v : Value) (ss : List Int), e = .returned v ∧ ss.Perm (intKeys D0) ∧
      iK.R 3 w' (w.heap.size + 1) (fun _ => True) v (ss.mergeSort (fun x y => decide (x ≤ y)))) ∧ Below w.heap.size w w' := by
  have hbl := hown.lt
  have hseq : SeqGives Fence.wide 2 Try.prog 19 #[.pointer (some ⟨w.heap.size, 0, none⟩)] encZ (fun ss => ss.Perm (intKeys D0)) (Maps.size D0) (w.alloc (.cells #[.map (some b)] 34)) :=
    AnyZI.keys_gives (ρ := Try.keysA_ren) { Try.keysA with } Fence.wide _ trivial rfl (by omega) w.heap.size b nn D0 _ (by simp) (by simp) (by
      obtain ⟨es, clock, hb, Ft, hs, hD⟩ := hown
      exact ⟨es, clock, (Below.heap_alloc _ _ b hbl).trans hb, Ft, hs, hD⟩)
  have cS := AnyZI.sorted_in Try.sortedA Fence.wide 5 trivial trivial trivial trivial rfl (by omega) (sortsA _) (enters_of Try.func18 (by kernel_rfl) rfl) 19 #[.pointer (some ⟨w.heap.size, 0, none⟩)] trivial (enters_of Try.func19 (by kernel_rfl) rfl) _ _ (by unfold maxLen; omega) (by omega) _ hseq
  refine ((callsIn_wide (n := 5)).1 cS).mono fun e w' ⟨v, ss, he, hp, hrow, _, hb⟩ => ⟨⟨v, ss, he, hp, ?_⟩, ((Below.refl _ w).alloc (Nat.le_refl _) _).trans (hb.mono (by simp))⟩
  have hsz : (w.alloc (.cells #[.map (some b)] 34)).heap.size = w.heap.size + 1 := by simp
  rw [hsz] at hrow
  refine Kd.R_of_own (enc := Value.int .i64) (h1 := fun _ => rfl) ?_ (fun _ _ => trivial)
  have hl : (ss.mergeSort (fun x y => decide (x ≤ y))).length = ss.length := (List.mergeSort_perm ss _).length_eq
  rw [hl]
  exact hrow
end Go.Proofs.Ytpgaimpppehpcad
