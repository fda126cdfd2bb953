/- An argument, read: a slice of structs of two slices of ints. -/
import Derived.Test.YtliimcemjjhmaabGreatDoorLens
import Derived.Test.YtliimcemjjhmaabGreatDoorRows
import Derived.OpenShut
import Derived.ChangeSlices
import Derived.WideShapes
import Derived.ChangeArms
import Derived.Deep.Slices
import Derived.Deep.Fields
import Derived.ChangeSame
namespace Go.Proofs.YtliimcemjjhmaabGreatDoor
open Go.ChangeShapes Go.WideShapes Go.RowKit Go.Deep

section
variable {H : Type} {enc : TypeId × Value → H} {P : Program} {w : World} {base : Nat} {spare : Nat → Bool} {held : Bool}
theorem open_slice_fields {t e : TypeId} {fs : Array Field} {fuel : Nat} {cs : List Value} {x : DataW H × List MemPlace} (ht : P.underlying t = some (.slice e)) (he : P.underlying e = some (.struct fs))
    (hone : oneCellFields P fs = true) (hC : P.cellsOf e = fs.size) (h : DataW.trod enc P w base spare held fuel t cs = some x) :
    (cs = [.slice none 0 0] ∧ x = (.nil, [])) ∨
    ∃ (a : Addr) (len cap m : Nat) (D : Nat → DataW H) (Pl : Nat → List MemPlace), cs = [.slice (some a) len cap] ∧ base ≤ a.block ∧ len ≤ cap ∧ cap ≤ maxLen ∧ m = (if spare a.block then cap else len) ∧
      x = (.slice ((List.range len).map D) ((List.range (m - len)).map fun j => D (len + j)), MemPlace.row a (m * fs.size) ++ (List.range m).flatMap Pl) ∧
      ∀ i, i < m → ∃ (ys : List (DataW H × List MemPlace)) (n : Nat), D i = .agg (ys.map (·.1)) ∧ Pl i = ys.flatMap (·.2) ∧ ys.length = fs.size ∧
        ∀ (j : Nat) (f : Field), fs[j]? = some f → ∃ (v : Value) (y : DataW H × List MemPlace), w.cell? (a.add (i * fs.size + j)) = some v ∧ ys[j]? = some y ∧ DataW.trod enc P w base spare held n f.type [v] = some y := by
  rcases open_slice ht h with h0 | ⟨a, len, cap, m, n, D, Pl, hcs, hb, hl, hm, hmm, hx, hi⟩
  · exact .inl h0
  · refine .inr ⟨a, len, cap, m, D, Pl, hcs, hb, hl, hm, hmm, by rw [hC] at hx; exact hx, fun i him => ?_⟩
    obtain ⟨cs', hc, ht'⟩ := hi i him
    rw [hC] at hc
    obtain ⟨ys, n', hn', hy, hlen, hyl, hf⟩ := DataW.trod_struct he ht'
    obtain ⟨_, hcl, hat⟩ := World.cells?_some hc
    simp only [Prod.mk.injEq] at hy
    refine ⟨ys, n', hy.1, hy.2, hyl, fun j f hj => ?_⟩
    obtain ⟨ho, hk⟩ := hone_of hone j f hj
    have hjl : j < fs.size := (Array.getElem?_eq_some_iff.1 hj).1
    have hcell := hat j hjl
    have hv : cs'[j]? = some (cs'[j]'(by omega)) := List.getElem?_eq_getElem (by omega)
    have h1 := hf j f hj
    rw [ho, hk] at h1
    have hone' : (cs'.drop j).take 1 = [cs'[j]'(by omega)] := by
      rw [List.drop_eq_getElem_cons (by omega)]
      rfl
    rw [hone'] at h1
    have hys : ys[j]? = some (ys[j]'(by omega)) := List.getElem?_eq_getElem (by omega)
    refine ⟨_, _, ?_, hys, h1.trans hys⟩
    rw [← Go.Deep.add_add, hcell, hv]
end

theorem bulk_pos {H : Type} (d : DataW H) : 1 ≤ Rows.uptoBulk d := by
  cases d with
  | lit l => cases l <;> simp [Rows.uptoBulk]
  | _ => simp [Rows.uptoBulk]
theorem bulk_len {H : Type} : ∀ l : List (DataW H), l.length ≤ Rows.uptoBulkAll l
  | [] => Nat.zero_le _
  | d :: r => by have := bulk_pos d; have := bulk_len r; simp [Rows.uptoBulkAll]; omega
theorem bulk_mem {H : Type} : ∀ (l : List (DataW H)) (d : DataW H), d ∈ l → Rows.uptoBulk d ≤ Rows.uptoBulkAll l
  | x :: r, d, h => by
    rcases List.mem_cons.1 h with rfl | h
    · simp [Rows.uptoBulkAll]
    · have := bulk_mem r d h; simp [Rows.uptoBulkAll]; omega

theorem ints_at' {H : Type} {enc : TypeId × Value → H} {W : World} {n : Nat} {c : Value} {y : DataW H × List MemPlace}
    (h : DataW.trod enc Tryz.prog W 0 (fun _ => true) true n 33 [c] = some y) (hb : Rows.uptoBulk y.1 ≤ 1048576) :
    ∃ (LA : Option Addr) (lc : Nat) (ll : List Int), c = .slice LA ll.length lc ∧ IntsAt W LA ll ∧ ll.length ≤ 1048576 := by
  rcases open_ints Tryz.underlying33 Tryz.underlying3 (by kernel_rfl) h with ⟨hc, _⟩ | ⟨a, len, cap, zs, hc, _, hle, _, hl, rfl, hcell, _⟩
  · obtain rfl : c = .slice none 0 0 := by simpa using hc
    exact ⟨none, 0, [], rfl, fun k hk => by simp at hk, Nat.zero_le _⟩
  · obtain rfl : c = .slice (some a) len cap := by simpa using hc
    simp only [if_true] at hl
    have hlen : (zs.take len).length = len := by rw [List.length_take]; omega
    simp only [Rows.uptoBulk] at hb
    have h1 := bulk_len (H := H) (lits .i64 (zs.take len))
    have e1 : (lits (H := H) .i64 (zs.take len)).length = len := by simp [lits]; omega
    refine ⟨some a, cap, zs.take len, by rw [hlen], fun k hk => ?_, by rw [hlen]; omega⟩
    rw [hlen] at hk
    have hk2 : k < zs.length := by omega
    refine ⟨a, rfl, ?_⟩
    rw [hcell k hk2, List.getElem_take, List.getD_eq_getElem?_getD, List.getElem?_eq_getElem hk2]; rfl

set_option maxRecDepth 100000 in
theorem open_cases {H : Type} {enc : TypeId × Value → H} {W : World} {v : Value} {d : DataW H} {p : List MemPlace} {b0 : Nat} (hv : Value.okWide Tryz.prog W .any b0 22 v)
    (h : DataW.Trod enc Tryz.prog W 0 (fun _ => true) true 22 v d p) (hb : Rows.uptoBulk d ≤ 1048576) :
    ∃ (A : Option Addr) (c : Nat) (cs : List Case), v = .slice A cs.length c ∧ CasesAt W A cs ∧ cs.length ≤ 1048576 ∧ LensOk cs := by
  obtain ⟨fuel, hf⟩ := h
  have hvc : v.cells.toList = [v] := by
    obtain ⟨a, n, c, rfl⟩ := okWide_slice Tryz.underlying22 hv
    rfl
  rw [hvc] at hf
  rcases open_slice_fields Tryz.underlying22 Tryz.underlying35 (by kernel_rfl) (by kernel_rfl) hf with ⟨hc, _⟩ | ⟨a, len, cap, m, D, Pl, hc, _, hle, _, hm, hx, hi⟩
  · obtain rfl : v = .slice none 0 0 := by simpa using hc
    exact ⟨none, 0, [], rfl, fun k hk => by simp at hk, Nat.zero_le _, fun k hk => by simp at hk⟩
  · obtain rfl : v = .slice (some a) len cap := by simpa using hc
    simp only [Prod.mk.injEq] at hx
    obtain ⟨rfl, _⟩ := hx
    simp only [if_true] at hm
    simp only [Rows.uptoBulk] at hb
    have h1 := bulk_len ((List.range len).map D)
    rw [List.length_map, List.length_range] at h1
    obtain ⟨cs, hcl, hcs⟩ := choose_list (P := fun i (c : Case) => ∃ v0 v1, W.cell? (a.add (i * 2)) = some v0 ∧ W.cell? (a.add (i * 2 + 1)) = some v1 ∧ CaseV W c v0 v1 ∧ c.1.length ≤ 2097152 ∧ c.2.length ≤ 2097152) len (fun i hil => by
      obtain ⟨ys, n, hD, _, hyl, hfl⟩ := hi i (by omega)
      have hbi := bulk_mem ((List.range len).map D) (D i) (List.mem_map.2 ⟨i, List.mem_range.2 hil, rfl⟩)
      rw [hD] at hbi
      simp only [Rows.uptoBulk] at hbi
      obtain ⟨c0, y0, hc0, hy0, ht0⟩ := hfl 0 _ rfl
      obtain ⟨c1, y1, hc1, hy1, ht1⟩ := hfl 1 _ rfl
      have m0 := bulk_mem (ys.map (·.1)) y0.1 (List.mem_map.2 ⟨y0, List.mem_of_getElem? hy0, rfl⟩)
      have m1 := bulk_mem (ys.map (·.1)) y1.1 (List.mem_map.2 ⟨y1, List.mem_of_getElem? hy1, rfl⟩)
      obtain ⟨PA, pc, pl, rfl, hP, hpl⟩ := ints_at' ht0 (by omega)
      obtain ⟨BA, bc, br, rfl, hB, hbl⟩ := ints_at' ht1 (by omega)
      exact ⟨(pl, br), _, _, hc0, hc1, ⟨PA, pc, BA, bc, rfl, rfl, hP, hB, by show pl.length ≤ _; omega, by show br.length ≤ _; omega⟩, by show pl.length ≤ _; omega, by show br.length ≤ _; omega⟩)
    refine ⟨some a, cap, cs, by rw [hcl], fun k hk => ?_, by omega, fun k hk => ?_⟩
    · obtain ⟨v0, v1, e0, e1, hv, _⟩ := hcs k hk
      exact ⟨a, v0, v1, rfl, e0, e1, hv⟩
    · obtain ⟨v0, v1, e0, e1, hv, h⟩ := hcs k hk
      exact h
end Go.Proofs.YtliimcemjjhmaabGreatDoor
