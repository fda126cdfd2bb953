/- The argument of MaskBare, read: a struct of a struct, a slice of strings, a slice of ints, two strings. -/
import Derived.Test.YtpgaimpppehpcaaDoorLawMB
import Derived.Test.YtpgaimpppehpcaaDoorRows
import Derived.OpenShut
import Derived.SliceStrings
import Derived.ChangeSlices
import Derived.WideShapes
import Derived.ChangeArms
namespace Go.Proofs.YtpgaimpppehpcaaDoor
open Go.ChangeShapes Go.WideShapes Go.RowKit

theorem bulk_pos {H : Type} (d : DataW H) : 1 ≤ Rows.uptoBulk d := by
  cases d with
  | lit l => cases l <;> simp [Rows.uptoBulk]
  | _ => simp [Rows.uptoBulk]
theorem bulk_len {H : Type} : ∀ l : List (DataW H), l.length ≤ Rows.uptoBulkAll l
  | [] => Nat.zero_le _
  | d :: r => by have := bulk_pos d; have := bulk_len r; simp [Rows.uptoBulkAll]; omega
theorem bulk_mem {H : Type} : ∀ (l : List (DataW H)) (d : DataW H), d ∈ l → Rows.uptoBulk d ≤ Rows.uptoBulkAll l
  | x :: r, d, h => by
    rcases List.mem_cons.1 h with rfl | h
    · simp [Rows.uptoBulkAll]
    · have := bulk_mem r d h; simp [Rows.uptoBulkAll]; omega

theorem strs_at {H : Type} {enc : TypeId × Value → H} {W : World} {n : Nat} {c : Value} {y : DataW H × List MemPlace}
    (h : DataW.trod enc Tryd.prog W 0 (fun _ => true) true n 24 [c] = some y) (hb : Rows.uptoBulk y.1 ≤ 1048576) :
    ∃ (TA : Option Addr) (tc : Nat) (tl : List ByteArray), c = .slice TA tl.length tc ∧ StrsAt W TA tl ∧ tl.length ≤ 1048576 := by
  rcases open_strings Tryd.underlying24 Tryd.underlying9 (by kernel_rfl) h with ⟨hc, _⟩ | ⟨a, len, cap, ss, hc, _, hle, _, hl, rfl, hcell, _⟩
  · obtain rfl : c = .slice none 0 0 := by simpa using hc
    exact ⟨none, 0, [], rfl, fun k hk => by simp at hk, Nat.zero_le _⟩
  · obtain rfl : c = .slice (some a) len cap := by simpa using hc
    simp only [if_true] at hl
    have hlen : (ss.take len).length = len := by rw [List.length_take]; omega
    simp only [Rows.uptoBulk] at hb
    have h1 := bulk_len (H := H) (strs (ss.take len))
    have e1 : (strs (H := H) (ss.take len)).length = len := by simp [strs]; omega
    refine ⟨some a, cap, ss.take len, by rw [hlen], fun k hk => ?_, by rw [hlen]; omega⟩
    rw [hlen] at hk
    have hk2 : k < ss.length := by omega
    refine ⟨a, rfl, ?_, ?_⟩
    · rw [hcell k hk2, List.getElem_take, List.getD_eq_getElem?_getD, List.getElem?_eq_getElem hk2]; rfl
    · have h2 := bulk_mem (strs (H := H) (ss.take len)) (.lit (.string (ss.take len)[k].data.toList)) (by
        unfold strs; exact List.mem_map.2 ⟨_, List.getElem_mem _, rfl⟩)
      simp only [Rows.uptoBulk] at h2
      rw [len_str] at h2; omega

theorem ints_at' {H : Type} {enc : TypeId × Value → H} {W : World} {n : Nat} {c : Value} {y : DataW H × List MemPlace}
    (h : DataW.trod enc Tryd.prog W 0 (fun _ => true) true n 25 [c] = some y) (hb : Rows.uptoBulk y.1 ≤ 1048576) :
    ∃ (LA : Option Addr) (lc : Nat) (ll : List Int), c = .slice LA ll.length lc ∧ IntsAt W LA ll ∧ ll.length ≤ 1048576 := by
  rcases open_ints Tryd.underlying25 Tryd.underlying3 (by kernel_rfl) h with ⟨hc, _⟩ | ⟨a, len, cap, zs, hc, _, hle, _, hl, rfl, hcell, _⟩
  · obtain rfl : c = .slice none 0 0 := by simpa using hc
    exact ⟨none, 0, [], rfl, fun k hk => by simp at hk, Nat.zero_le _⟩
  · obtain rfl : c = .slice (some a) len cap := by simpa using hc
    simp only [if_true] at hl
    have hlen : (zs.take len).length = len := by rw [List.length_take]; omega
    simp only [Rows.uptoBulk] at hb
    have h1 := bulk_len (H := H) (lits .i64 (zs.take len))
    have e1 : (lits (H := H) .i64 (zs.take len)).length = len := by simp [lits]; omega
    refine ⟨some a, cap, zs.take len, by rw [hlen], fun k hk => ?_, by rw [hlen]; omega⟩
    rw [hlen] at hk
    have hk2 : k < zs.length := by omega
    refine ⟨a, rfl, ?_⟩
    rw [hcell k hk2, List.getElem_take, List.getD_eq_getElem?_getD, List.getElem?_eq_getElem hk2]; rfl

theorem open_pieces {H : Type} {enc : TypeId × Value → H} {W : World} {v : Value} {d : DataW H} {p : List MemPlace} {b0 : Nat} (hv : Value.okWide Tryd.prog W .any b0 27 v)
    (h : DataW.Trod enc Tryd.prog W 0 (fun _ => true) true 27 v d p) (hb : Rows.uptoBulk d ≤ 1048576) :
    ∃ (v0 v1 v2 v3 v4 v8 : Value) (TA LA : Option Addr) (tc lc : Nat) (tl : List ByteArray) (ll : List Int) (one : ByteArray),
      v = .agg #[v0, v1, v2, v3, v4, .slice TA tl.length tc, .slice LA ll.length lc, .string one, v8] ∧ StrsAt W TA tl ∧ IntsAt W LA ll ∧ tl.length ≤ 1048576 ∧ ll.length ≤ 1048576 ∧ one.size ≤ 1048576 := by
  obtain ⟨cs, rfl, hsz⟩ := okWide_struct Tryd.underlying27 hv
  have hC : Tryd.prog.cellsOf 27 = 9 := by kernel_rfl
  have k1 : Tryd.prog.cellsOf 24 = 1 := by kernel_rfl
  have k2 : Tryd.prog.cellsOf 25 = 1 := by kernel_rfl
  have k3 : Tryd.prog.cellsOf 9 = 1 := by kernel_rfl
  rw [hC] at hsz
  obtain ⟨l⟩ := cs
  match l, hsz with
  | [c0, c1, c2, c3, c4, c5, c6, c7, c8], _ =>
    obtain ⟨fuel, hf⟩ := h
    obtain ⟨xs, n, _, hx, hl, hlen, hfld⟩ := DataW.trod_struct Tryd.underlying27 hf
    match xs, hlen with
    | [y0, y1, y2, y3, y4], _ =>
      have t1 := hfld 1 _ rfl
      have t2 := hfld 2 _ rfl
      have t3 := hfld 3 _ rfl
      clear hfld hf hv hl
      simp only [Prod.mk.injEq] at hx
      obtain ⟨rfl, _⟩ := hx
      simp only [List.map_cons, List.map_nil, Rows.uptoBulk, Rows.uptoBulkAll] at hb
      simp [Value.cells, k1, k2, k3] at t1 t2 t3
      obtain ⟨TA, tc, tl, rfl, hT, htl⟩ := strs_at t1 (by omega)
      obtain ⟨LA, lc, ll, rfl, hL, hll⟩ := ints_at' t2 (by omega)
      obtain ⟨s, hc, hy, _⟩ := DataW.trod_string Tryd.underlying9 t3
      obtain rfl : c7 = .string s := by simpa using hc
      subst hy
      simp only [Rows.uptoBulk] at hb
      rw [len_str] at hb
      exact ⟨c0, c1, c2, c3, c4, c8, TA, LA, tc, lc, tl, ll, s, rfl, hT, hL, htl, hll, by omega⟩
end Go.Proofs.YtpgaimpppehpcaaDoor
