/- The argument of BatchJoins, read: a struct of two structs of four ints and a slice of structs of two ints. -/
import Derived.Test.YtpgaimpppehpcadBjLaw
import Derived.Test.YtpgaimpppehpcadRows
import Derived.OpenShut
import Derived.ChangeSlices
import Derived.WideShapes
import Derived.ChangeArms
import Derived.Deep.Slices
import Derived.Deep.Fields
namespace Go.Proofs.Ytpgaimpppehpcad
open Go.ChangeShapes Go.WideShapes Go.RowKit Go.Deep Go.Proofs.YtpgaimpppehpcadW.PrintWords Go.Proofs.Ytpgaimpppehpcad.PBatchJoins

section
variable {H : Type} {enc : TypeId × Value → H} {P : Program} {w : World} {base : Nat} {spare : Nat → Bool} {held : Bool}
theorem open_slice_fields {t e : TypeId} {fs : Array Field} {fuel : Nat} {cs : List Value} {x : DataW H × List MemPlace} (ht : P.underlying t = some (.slice e)) (he : P.underlying e = some (.struct fs))
    (hone : oneCellFields P fs = true) (hC : P.cellsOf e = fs.size) (h : DataW.trod enc P w base spare held fuel t cs = some x) :
    (cs = [.slice none 0 0] ∧ x = (.nil, [])) ∨
    ∃ (a : Addr) (len cap m : Nat) (D : Nat → DataW H) (Pl : Nat → List MemPlace), cs = [.slice (some a) len cap] ∧ base ≤ a.block ∧ len ≤ cap ∧ cap ≤ maxLen ∧ m = (if spare a.block then cap else len) ∧
      x = (.slice ((List.range len).map D) ((List.range (m - len)).map fun j => D (len + j)), MemPlace.row a (m * fs.size) ++ (List.range m).flatMap Pl) ∧
      ∀ i, i < m → ∃ (ys : List (DataW H × List MemPlace)) (n : Nat), D i = .agg (ys.map (·.1)) ∧ Pl i = ys.flatMap (·.2) ∧ ys.length = fs.size ∧
        ∀ (j : Nat) (f : Field), fs[j]? = some f → ∃ (v : Value) (y : DataW H × List MemPlace), w.cell? (a.add (i * fs.size + j)) = some v ∧ ys[j]? = some y ∧ DataW.trod enc P w base spare held n f.type [v] = some y := by
  rcases open_slice ht h with h0 | ⟨a, len, cap, m, n, D, Pl, hcs, hb, hl, hm, hmm, hx, hi⟩
  · exact .inl h0
  · refine .inr ⟨a, len, cap, m, D, Pl, hcs, hb, hl, hm, hmm, by rw [hC] at hx; exact hx, fun i him => ?_⟩
    obtain ⟨cs', hc, ht'⟩ := hi i him
    rw [hC] at hc
    obtain ⟨ys, n', hn', hy, hlen, hyl, hf⟩ := DataW.trod_struct he ht'
    obtain ⟨_, hcl, hat⟩ := World.cells?_some hc
    simp only [Prod.mk.injEq] at hy
    refine ⟨ys, n', hy.1, hy.2, hyl, fun j f hj => ?_⟩
    obtain ⟨ho, hk⟩ := hone_of hone j f hj
    have hjl : j < fs.size := (Array.getElem?_eq_some_iff.1 hj).1
    have hcell := hat j hjl
    have hv : cs'[j]? = some (cs'[j]'(by omega)) := List.getElem?_eq_getElem (by omega)
    have h1 := hf j f hj
    rw [ho, hk] at h1
    have hone' : (cs'.drop j).take 1 = [cs'[j]'(by omega)] := by
      rw [List.drop_eq_getElem_cons (by omega)]
      rfl
    rw [hone'] at h1
    have hys : ys[j]? = some (ys[j]'(by omega)) := List.getElem?_eq_getElem (by omega)
    refine ⟨_, _, ?_, hys, h1.trans hys⟩
    rw [← Go.Deep.add_add, hcell, hv]
end

theorem bulk_pos {H : Type} (d : DataW H) : 1 ≤ Rows.uptoBulk d := by
  cases d with
  | lit l => cases l <;> simp [Rows.uptoBulk]
  | _ => simp [Rows.uptoBulk]
theorem bulk_len {H : Type} : ∀ l : List (DataW H), l.length ≤ Rows.uptoBulkAll l
  | [] => Nat.zero_le _
  | d :: r => by have := bulk_pos d; have := bulk_len r; simp [Rows.uptoBulkAll]; omega

theorem inR_of {n : Int} (h : (Lit.int .i64 n).wf = true) : InR n := by
  unfold InR
  simp [Lit.wf, IntKind.min, IntKind.max, IntKind.signed, IntKind.bits] at h
  omega
theorem choose_list' {α : Type} {P : Nat → α → Prop} : ∀ n, (∀ i, i < n → ∃ x, P i x) → ∃ l : List α, l.length = n ∧ ∀ k (h : k < l.length), P k l[k]
  | 0, _ => ⟨[], rfl, fun k h => by simp at h⟩
  | n + 1, h => by
    obtain ⟨l, hl, hp⟩ := choose_list' n (fun i hi => h i (by omega))
    obtain ⟨x, hx⟩ := h n (by omega)
    refine ⟨l ++ [x], by simp [hl], fun k hk => ?_⟩
    by_cases e : k < l.length
    · rw [List.getElem_append_left e]; exact hp k e
    · have : k = n := by rw [List.length_append] at hk; simp at hk; omega
      subst this
      rw [List.getElem_append_right (by omega)]
      simp only [hl, Nat.sub_self, List.getElem_cons_zero]
      exact hx

theorem lens_at {H : Type} {enc : TypeId × Value → H} {W : World} {n : Nat} {c : Value} {y : DataW H × List MemPlace}
    (h : DataW.trod enc Try.prog W 0 (fun _ => true) true n 22 [c] = some y) (hb : Rows.uptoBulk y.1 ≤ 1048576) :
    ∃ (A : Option Addr) (k : Nat) (l : List S32), c = .slice A l.length k ∧ LensAt W A l ∧ l.length ≤ k ∧ l.length ≤ 1048576 ∧ ∀ x ∈ l, InR x.f0 ∧ InR x.f1 := by
  rcases open_slice_fields Try.underlying22 Try.underlying32 (by kernel_rfl) (by kernel_rfl) h with ⟨hc, _⟩ | ⟨a, len, cap, m, D, Pl, hc, _, hle, _, hm, hx, hi⟩
  · obtain rfl : c = .slice none 0 0 := by simpa using hc
    exact ⟨none, 0, [], rfl, Kd.C_nil _ _, Nat.le_refl _, Nat.zero_le _, fun x hx => by simp at hx⟩
  · obtain rfl : c = .slice (some a) len cap := by simpa using hc
    subst hx
    simp only [if_true] at hm
    simp only [Rows.uptoBulk] at hb
    have h1 := bulk_len ((List.range len).map D)
    rw [List.length_map, List.length_range] at h1
    obtain ⟨l, hcl, hcs⟩ := choose_list' (P := fun i (x : S32) => W.cell? (a.add (i * 2)) = some (.int .i64 x.f0) ∧ W.cell? (a.add (i * 2 + 1)) = some (.int .i64 x.f1) ∧ InR x.f0 ∧ InR x.f1) len (fun i hil => by
      obtain ⟨ys, n, hD, _, hyl, hfl⟩ := hi i (by omega)
      obtain ⟨c0, y0, hc0, hy0, ht0⟩ := hfl 0 _ rfl
      obtain ⟨c1, y1, hc1, hy1, ht1⟩ := hfl 1 _ rfl
      obtain ⟨n0, e0, _, w0⟩ := DataW.trod_int Try.underlying3 ht0
      obtain ⟨n1, e1, _, w1⟩ := DataW.trod_int Try.underlying3 ht1
      obtain rfl : c0 = .int .i64 n0 := by simpa using e0
      obtain rfl : c1 = .int .i64 n1 := by simpa using e1
      exact ⟨⟨n0, n1⟩, hc0, hc1, inR_of w0, inR_of w1⟩)
    refine ⟨some a, cap, l, by rw [hcl], ⟨rfl, by omega, fun h0 => ⟨a, rfl, fun j p hp => ?_⟩⟩, by omega, by omega, fun x hx => ?_⟩
    · obtain ⟨hj, rfl⟩ := List.getElem?_eq_some_iff.1 hp
      obtain ⟨e0, e1, _⟩ := hcs j hj
      refine ⟨_, rfl, k32_mk W l[j], fun i u hu => ?_⟩
      match i, hu with
      | 0, hu => obtain rfl : _ = u := Option.some.inj hu; exact e0
      | 1, hu => obtain rfl : _ = u := Option.some.inj hu; exact e1
      | i + 2, hu => simp at hu
    · obtain ⟨k, hk, rfl⟩ := List.getElem_of_mem hx
      obtain ⟨_, _, h0, h1⟩ := hcs k hk
      exact ⟨h0, h1⟩

theorem open_tally {H : Type} {enc : TypeId × Value → H} {W : World} {n : Nat} {c0 c1 c2 c3 c4 : Value} {y : DataW H × List MemPlace}
    (h : DataW.trod enc Try.prog W 0 (fun _ => true) true n 24 [c0, c1, c2, c3, c4] = some y) (hb : Rows.uptoBulk y.1 ≤ 1048576) :
    ∃ (a0 a1 a2 a3 : Int) (A : Option Addr) (k : Nat) (l : List S32), c0 = .int .i64 a0 ∧ c1 = .int .i64 a1 ∧ c2 = .int .i64 a2 ∧ c3 = .int .i64 a3 ∧ c4 = .slice A l.length k ∧ LensAt W A l ∧ l.length ≤ k ∧ l.length ≤ 1048576 ∧ ∀ x ∈ l, InR x.f0 ∧ InR x.f1 := by
  have k1 : Try.prog.cellsOf 3 = 1 := by kernel_rfl
  have k2 : Try.prog.cellsOf 22 = 1 := by kernel_rfl
  obtain ⟨xs, n', _, hx, hl, hlen, hfld⟩ := DataW.trod_struct Try.underlying24 h
  match xs, hlen with
  | [y0, y1, y2, y3, y4], _ =>
    have t0 := hfld 0 _ rfl
    have t1 := hfld 1 _ rfl
    have t2 := hfld 2 _ rfl
    have t3 := hfld 3 _ rfl
    have t4 := hfld 4 _ rfl
    clear hfld hl
    subst hx
    simp only [List.map_cons, List.map_nil, Rows.uptoBulk, Rows.uptoBulkAll] at hb
    simp [k1, k2] at t0 t1 t2 t3 t4
    obtain ⟨n0, e0, _, _⟩ := DataW.trod_int Try.underlying3 t0
    obtain ⟨n1, e1, _, _⟩ := DataW.trod_int Try.underlying3 t1
    obtain ⟨n2, e2, _, _⟩ := DataW.trod_int Try.underlying3 t2
    obtain ⟨n3, e3, _, _⟩ := DataW.trod_int Try.underlying3 t3
    obtain ⟨A, k, l, rfl, hA, hk, hll, hin⟩ := lens_at t4 (by omega)
    exact ⟨n0, n1, n2, n3, A, k, l, by simpa using e0, by simpa using e1, by simpa using e2, by simpa using e3, rfl, hA, hk, hll, hin⟩

theorem open_tallies {H : Type} {enc : TypeId × Value → H} {W : World} {v : Value} {d : DataW H} {p : List MemPlace} {b0 : Nat} (hv : Value.okWide Try.prog W .any b0 26 v)
    (h : DataW.Trod enc Try.prog W 0 (fun _ => true) true 26 v d p) (hb : Rows.uptoBulk d ≤ 1048576) :
    ∃ (a0 a1 a2 a3 b0 b1 b2 b3 : Int) (A B : Option Addr) (c e : Nat) (l m : List S32),
      v = .agg #[.int .i64 a0, .int .i64 a1, .int .i64 a2, .int .i64 a3, .slice A l.length c, .int .i64 b0, .int .i64 b1, .int .i64 b2, .int .i64 b3, .slice B m.length e] ∧
      LensAt W A l ∧ LensAt W B m ∧ l.length ≤ c ∧ m.length ≤ e ∧ l.length ≤ 1048576 ∧ m.length ≤ 1048576 ∧ ∀ x ∈ l ++ m, InR x.f0 ∧ InR x.f1 := by
  obtain ⟨cs, rfl, hsz⟩ := okWide_struct Try.underlying26 hv
  have hC : Try.prog.cellsOf 26 = 10 := by kernel_rfl
  have k1 : Try.prog.cellsOf 24 = 5 := by kernel_rfl
  rw [hC] at hsz
  obtain ⟨l⟩ := cs
  match l, hsz with
  | [c0, c1, c2, c3, c4, c5, c6, c7, c8, c9], _ =>
    obtain ⟨fuel, hf⟩ := h
    obtain ⟨xs, n, _, hx, hl, hlen, hfld⟩ := DataW.trod_struct Try.underlying26 hf
    match xs, hlen with
    | [y0, y1], _ =>
      have t0 := hfld 0 _ rfl
      have t1 := hfld 1 _ rfl
      clear hfld hf hv hl
      simp only [Prod.mk.injEq] at hx
      obtain ⟨rfl, _⟩ := hx
      simp only [List.map_cons, List.map_nil, Rows.uptoBulk, Rows.uptoBulkAll] at hb
      simp [Value.cells, k1] at t0 t1
      obtain ⟨a0, a1, a2, a3, A, c, l, rfl, rfl, rfl, rfl, rfl, hA, hc, hl, hi⟩ := open_tally t0 (by omega)
      obtain ⟨b0, b1, b2, b3, B, e, m, rfl, rfl, rfl, rfl, rfl, hB, he, hm, hj⟩ := open_tally t1 (by omega)
      exact ⟨a0, a1, a2, a3, b0, b1, b2, b3, A, B, c, e, l, m, rfl, hA, hB, hc, he, hl, hm, fun x hx => (List.mem_append.1 hx).elim (hi x) (hj x)⟩
end Go.Proofs.Ytpgaimpppehpcad
