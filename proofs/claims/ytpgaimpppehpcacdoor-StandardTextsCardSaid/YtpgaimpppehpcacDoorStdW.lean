/- standard.property: the closure that adds a class's points, the file. -/
import Derived.Test.YtpgaimpppehpcacDoorBuf
import Derived.Test.YtpgaimpppehpcacDoorStr
import Derived.Lib.Hide
import Derived.Lib.LaidTab
namespace Go.Proofs.YtpgaimpppehpcacDoor
open Go.RowKit

def lines (c : List UInt8) (fs : List (List UInt8)) : List UInt8 := fs.flatMap fun f => f ++ (59 :: c ++ [10])
theorem lines_snoc (c : List UInt8) (fs : List (List UInt8)) (f : List UInt8) : lines c (fs ++ [f]) = lines c fs ++ (f ++ (59 :: c ++ [10])) := by simp [lines]

theorem tab_below {W W' : World} (h : Lib.TabIs Tryd.prog W "strings.asciiSpace" .u8 Lib.asciiSpaceTab) (hb : Below W.heap.size W W') : Lib.TabIs Tryd.prog W' "strings.asciiSpace" .u8 Lib.asciiSpaceTab := by
  have hg : Tryd.prog.globalNamed "strings.asciiSpace" = some 0 := by kernel_rfl
  unfold Lib.TabIs World.var? at h ⊢
  rw [hg] at h ⊢
  simp only [Option.bind_some] at h ⊢
  have hlt : 0 < W.heap.size := by
    rcases Nat.lt_or_ge 0 W.heap.size with h' | h'
    · exact h'
    · rw [Array.getElem?_eq_none h'] at h; cases h
  rw [hb.block _ hlt]
  exact h

/-- What holds of the Builder at block H. -/
structure PSt (H : Nat) (w : World) (acc : List UInt8) (wr : World) : Prop where
  buf : IsBuf H H (Lib.byteCells acc) wr
  below : Below H w wr
  lt : H < wr.heap.size

structure AddOk (c p : ByteArray) : Prop where
  asc : p.data.toList.all (fun b => decide (b.toNat < 128)) = true
  few : (Lib.fields p.data.toList).length ≤ 1000
  short : (Lib.fields p.data.toList).all (fun f => decide (f.length ≤ 100)) = true
  c : c.size ≤ 100
  p : p.size ≤ 10000

theorem lines_len (c : List UInt8) (hc : c.length ≤ 100) : ∀ fs : List (List UInt8), (∀ f ∈ fs, f.length ≤ 100) → (lines c fs).length ≤ fs.length * 202
  | [], _ => by simp [lines]
  | f :: r, h => by
    have h1 := h f List.mem_cons_self
    have h2 := lines_len c hc r (fun x hx => h x (List.mem_cons_of_mem _ hx))
    unfold lines at h2 ⊢
    rw [List.flatMap_cons]
    simp only [List.length_append, List.length_cons, List.length_nil]
    omega

set_option maxHeartbeats 4000000 in
theorem add_any (H : Nat) (c p : ByteArray) (acc : List UInt8) (w0 w : World) (hs : PSt H w0 acc w) (ho : AddOk c p) (hacc : acc.length ≤ 10000000) (htab : Lib.TabIs Tryd.prog w "strings.asciiSpace" .u8 Lib.asciiSpaceTab) :
    Calls Tryd.prog 16 #[.string c, .string p, .pointer (some ⟨H, 0, none⟩)] w fun e w' => e = .returned (.tuple #[]) ∧ ∃ acc', acc' = acc ++ lines c.data.toList (Lib.fields p.data.toList) ∧ acc'.length ≤ acc.length + 202000 ∧ PSt H w0 acc' w' := by
  have HS := Lib.hid hs
  obtain ⟨fs, hfs⟩ : ∃ fs, Lib.fields p.data.toList = fs := ⟨_, rfl⟩
  have hfew := ho.few; have hshort := ho.short; have hc := ho.c; have hp := ho.p
  rw [hfs] at hfew hshort
  have hsh : ∀ f ∈ fs, f.length ≤ 100 := fun f hf => of_decide_eq_true (List.all_eq_true.1 hshort f hf)
  have HSH := Lib.hid hsh
  have HA := Lib.hid ho.asc
  have HT := Lib.hid htab
  rw [hfs]
  have HFS := Lib.hid hfs
  have hHlt := hs.lt
  clear hs ho hshort hsh htab hfs
  go_enter Tryd.func16, Tryd.ntmps16
  go_wp2_with (go_at_call 17; with_reducible refine (Tryd.strings_Fields p _ (by omega) (fun j b hj => of_decide_eq_true (List.all_eq_true.1 HA.out b (List.mem_of_getElem? hj))) HT.out).mono ?_; rintro e w1 ⟨he, hw1⟩; rw [HFS.out] at he hw1; subst he; subst hw1)
  have hb1 := Lib.hid ((Below.refl _ w).alloc (Nat.le_refl _) (.cells (fs.map fun l => Value.string ⟨l.toArray⟩).toArray 9))
  have HR0 : Hid (PSt H w0 (acc ++ lines c.data.toList (fs.take 0)) (w.alloc (.cells (fs.map fun l => Value.string ⟨l.toArray⟩).toArray 9)) ∧ (w.alloc (.cells (fs.map fun l => Value.string ⟨l.toArray⟩).toArray 9)).heap[w.heap.size]? = some (.cells (fs.map fun l => Value.string ⟨l.toArray⟩).toArray 9 (0, 0))) :=
    Lib.hid ⟨⟨by have := HS.out.buf.alloc (.cells (fs.map fun l => Value.string ⟨l.toArray⟩).toArray 9); simpa [lines] using this, HS.out.below.alloc (by omega) _, by simp; omega⟩, heap_alloc_new _ _⟩
  go_loopw [10] (fun i wr => ∃ k : Nat, i = .int .i64 k ∧ k ≤ fs.length ∧ Hid (PSt H w0 (acc ++ lines c.data.toList (fs.take k)) wr ∧ wr.heap[w.heap.size]? = some (.cells (fs.map fun l => Value.string ⟨l.toArray⟩).toArray 9 (0, 0)))) (fun i _ => fs.length - (intOf i).toNat)
  case atStart => exact ⟨0, rfl, Nat.zero_le _, HR0⟩
  case round =>
    clear HR0 hb1
    obtain ⟨k, rfl, hk, hR⟩ := hrel
    by_cases hlt : k < fs.length
    · have d1 : decide (k < fs.length) = true := decide_eq_true hlt
      obtain ⟨f, hf⟩ : ∃ f : ByteArray, (⟨fs[k].toArray⟩ : ByteArray) = f := ⟨_, rfl⟩
      have hfd : f.data.toList = fs[k] := by rw [← hf]
      have hfl : f.size ≤ 100 := by rw [← len_str, hfd]; exact HSH.out _ (List.getElem_mem _)
      have hcell : wr.cell? ⟨w.heap.size, k, none⟩ = some (.string f) := by
        rw [cell_of_row wr _ k _ _ _ hR.out.2]
        simp [hlt, hf]
      have hll := lines_len c.data.toList (by rw [len_str]; exact hc) (fs.take k) (fun x hx => HSH.out x (List.mem_of_mem_take hx))
      have hlen : Hid ((Lib.byteCells (acc ++ lines c.data.toList (fs.take k))).length ≤ 20000000) := Lib.hid (by
        rw [Lib.byteCells_length, List.length_append]
        rw [List.length_take] at hll; omega)
      have HFD := Lib.hid hfd
      clear hll hfd hf
      go_wp2_with (go_at_call 15; ((with_reducible refine (writeString_any H H _ _ _ hR.out.1.buf ?hl ?hw).mono ?_); (case hl => have := hlen.out; simp only [app_size]; (have e1 : (⟨#[59]⟩ : ByteArray).size = 1 := rfl); (have e2 : (⟨#[10]⟩ : ByteArray).size = 1 := rfl); omega); (case hw => have := hR.out.1.lt; omega)); rintro e w2 ⟨rfl, hi, hb2, hk2⟩; have HI := Lib.hid hi; have HB2 := Lib.hid hb2; have HK2 := Lib.hid hk2; clear hi hb2 hk2)
      go_roundw
      case rel =>
        refine ⟨k + 1, by go_num, hlt, Lib.hid ⟨⟨?_, hR.out.1.below.trans HB2.out, Nat.lt_of_lt_of_le hR.out.1.lt HB2.out.size⟩, HK2.out _ _ hR.out.2 (by intro e; injection e; omega) (by intro c' fz e; injection e with e1 e2; revert e2; decide)⟩⟩
        have := HI.out
        rw [List.take_succ_eq_append_getElem hlt, lines_snoc, ← List.append_assoc, Lib.byteCells_append]
        rw [Lib.byteCells_append] at this ⊢
        have e : Lib.strCells (f ++ ⟨#[59]⟩ ++ c ++ ⟨#[10]⟩) = Lib.byteCells (fs[k] ++ (59 :: c.data.toList ++ [10])) := by
          show Lib.byteCells (f ++ ⟨#[59]⟩ ++ c ++ ⟨#[10]⟩).data.toList = _
          rw [app_data, app_data, app_data, HFD.out]; simp
        rw [e] at this
        exact this
      case measure => simp [intOf]; omega
    · have hke : k = fs.length := by omega
      subst hke
      have d1 : decide (fs.length < fs.length) = false := decide_eq_false (by omega)
      go_wp2_with fail
      go_end0
      have hll := lines_len c.data.toList (by rw [len_str]; exact hc) fs HSH.out
      exact ⟨rfl, _, rfl, by rw [List.length_append]; omega, by have := hR.out.1; rwa [List.take_of_length_le (Nat.le_refl _)] at this⟩

theorem pst0 {w w1 : World} {o : Obj} {s : ByteArray} (hi : IsBuf w.heap.size w.heap.size ([] ++ Lib.strCells s) w1) (hb : Below w.heap.size (w.alloc o) w1) (hs : s.size ≤ 1000) : ∃ acc, acc = s.data.toList ∧ acc.length ≤ 1000 ∧ PSt w.heap.size w acc w1 :=
  ⟨_, rfl, by rw [len_str]; exact hs, hi, ((Below.refl _ w).alloc (Nat.le_refl _) o).trans hb, by have := hb.size; simp at this; omega⟩
end Go.Proofs.YtpgaimpppehpcacDoor
