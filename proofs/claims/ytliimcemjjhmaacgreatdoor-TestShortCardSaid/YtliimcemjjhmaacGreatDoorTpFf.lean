/- testfile.read's words: strings.Cut at '#', strings.FieldsFunc at blanks. -/
import Derived.Test.YtliimcemjjhmaacGreatDoorTpPt
import Derived.Test.YtliimcemjjhmaacGreatDoorCut
namespace Go.Proofs.YtliimcemjjhmaacGreatDoor
open Go.RowKit Go.Proofs.YtliimcemjjhmaacGreatDoorW.PrintWords Go.Lib

set_option maxHeartbeats 4000000 in
theorem blank_runes (w : World) : PredAtRunes Tryz.prog 21 #[] blankN w := by
  intro W x hx hb
  unfold FnGives
  unfold encR blankN
  by_cases h32 : x = 32
  · subst h32
    go_enter Tryz.func21, Tryz.ntmps21
    go_wp2
    go_ret
    exact ⟨rfl, 0, rfl⟩
  · by_cases h9 : x = 9
    · subst h9
      go_enter Tryz.func21, Tryz.ntmps21
      go_wp2
      go_ret
      exact ⟨rfl, 0, rfl⟩
    · have e : (x == 32 || x == 9) = false := by simp [h32, h9]
      rw [e]
      have i32 : ¬ (x : Int) = 32 := by omega
      have i9 : ¬ (x : Int) = 9 := by omega
      go_enter Tryz.func21, Tryz.ntmps21
      go_wp2
      go_ret
      exact ⟨ret_bool (by rw [beqI_false i32, beqI_false i9]; rfl), 0, rfl⟩
theorem fields_any (s : ByteArray) (w : World) (hs : s.size ≤ 1048576) :
    Calls Tryz.prog 20 #[.string s, .func (.func 21) #[] #[]] w fun e w' => (∃ (A : Nat) (ws : List ByteArray), e = .returned (.slice (some ⟨A, 0, none⟩) ws.length ws.length) ∧ ws.map toB = fieldsB (toB s) [] ∧
      Kd.string.R 9 w' w.heap.size (fun _ => True) (.slice (some ⟨A, 0, none⟩) ws.length ws.length) ws) ∧ Below w.heap.size w w' :=
  (Tryz.strings_FieldsFunc_runes 21 #[] (enters_of Tryz.func21 (by kernel_rfl) rfl) blankN s w (by omega) (blank_runes w)).mono fun e w' ⟨A, h1, h2, h3, h4⟩ =>
    ⟨⟨A, _, h1, fields_eq s, Kd.R_of_own (xs := Lib.goFieldsP blankN s) h3 (fun _ _ => trivial)⟩, h4⟩
end Go.Proofs.YtliimcemjjhmaacGreatDoor
