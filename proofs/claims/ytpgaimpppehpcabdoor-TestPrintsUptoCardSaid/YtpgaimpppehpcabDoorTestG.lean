/- Rows with marks behind them, as kinds of the printed words. -/
import Derived.Test.YtpgaimpppehpcabDoorTestP
namespace Go.Proofs.YtpgaimpppehpcabDoor
open Go.RowKit Go.Proofs.YtpgaimpppehpcabDoorW.PrintWords

/-- A row, and marks behind it within its capacity. -/
def spareK {α : Type} (e : Nat) (d : Kd α) (m : List α) : Kd (List α) where
  sz := 1
  E := e :: d.E
  K := fun w xs cs => ∃ A c, cs = [.slice A xs.length c] ∧ xs.length + m.length ≤ c ∧ d.C w A (xs.length + m.length) (xs ++ m)
  M := fun w base ok xs cs => ∃ A c, cs = [.slice A xs.length c] ∧ d.R e w base ok (.slice A (xs.length + m.length) c) (xs ++ m)
  K_len := by
    rintro w x cs ⟨A, c, rfl, _⟩
    rfl
  K_one := by
    rintro w x cs ⟨A, c, rfl, _⟩ u hu
    rw [List.mem_singleton.1 hu]
    rfl
  K_below := by
    rintro w w1 x cs hb ⟨A, c, rfl, hl, hr⟩
    exact ⟨A, c, rfl, hl, Kd.C_below hr hb⟩
  K_of_M := by
    rintro w base ok x cs ⟨A, c, rfl, h⟩
    obtain ⟨h1, h2, h3⟩ := Kd.R_reads' h
    rw [List.length_append] at h1
    exact ⟨A, c, rfl, h2, by rw [List.length_append] at h3; exact h3⟩
  M_mono := by
    rintro w base ok ok' x cs hok ⟨A, c, rfl, h⟩
    exact ⟨A, c, rfl, Kd.R_mono h hok⟩
  M_bound := by
    rintro w base ok x cs ⟨A, c, rfl, h⟩
    exact ⟨A, c, rfl, Kd.R_bound h⟩
  M_move := by
    rintro w w1 base ok x cs hm ⟨A, c, rfl, h⟩
    exact ⟨A, c, rfl, Kd.R_move h hm⟩
  M_lower := by
    rintro w base base' ok x cs hb ⟨A, c, rfl, h⟩
    exact ⟨A, c, rfl, Kd.R_lower h hb⟩
/-- One kind or another. -/
def eitherK {α β : Type} (a : Kd α) (b : Kd β) (hz : a.sz = b.sz) : Kd (α ⊕ β) where
  sz := a.sz
  E := a.E ++ b.E
  K := fun w x cs => match x with | .inl y => a.K w y cs | .inr y => b.K w y cs
  M := fun w base ok x cs => match x with | .inl y => a.M w base ok y cs | .inr y => b.M w base ok y cs
  K_len := fun {w x cs} h => by cases x with
    | inl y => exact a.K_len h
    | inr y => rw [hz]; exact b.K_len h
  K_one := fun {w x cs} h => by cases x with
    | inl y => exact a.K_one h
    | inr y => exact b.K_one h
  K_below := fun {w w1 x cs} hb h => by cases x with
    | inl y => exact a.K_below hb h
    | inr y => exact b.K_below hb h
  K_of_M := fun {w base ok x cs} h => by cases x with
    | inl y => exact a.K_of_M h
    | inr y => exact b.K_of_M h
  M_mono := fun {w base ok ok' x cs} ho h => by cases x with
    | inl y => exact a.M_mono ho h
    | inr y => exact b.M_mono ho h
  M_bound := fun {w base ok x cs} h => by cases x with
    | inl y => exact a.M_mono (fun k ⟨h2, h3, h4, q, hq, hc⟩ => ⟨h2, h3, h4, q, List.mem_append_left _ hq, hc⟩) (a.M_bound h)
    | inr y => exact b.M_mono (fun k ⟨h2, h3, h4, q, hq, hc⟩ => ⟨h2, h3, h4, q, List.mem_append_right _ hq, hc⟩) (b.M_bound h)
  M_move := fun {w w1 base ok x cs} hm h => by cases x with
    | inl y => exact a.M_move hm h
    | inr y => exact b.M_move hm h
  M_lower := fun {w base base' ok x cs} hb h => by cases x with
    | inl y => exact a.M_lower hb h
    | inr y => exact b.M_lower hb h

abbrev iK : Kd Int := Kd.int .i64
def mk66 : List Int := List.replicate 64 (-66)
def mk67 : List Int := List.replicate 64 (-67)
abbrev gK : Kd (Case ⊕ Case) := eitherK (Kd.pair (spareK 3 iK mk66) (spareK 3 iK mk67)) (Kd.pair (Kd.slice 3 iK) (Kd.slice 3 iK)) rfl
def exS : Case ⊕ Case := .inr ([-68], [])
def withEx (cs : List Case) : List (Case ⊕ Case) := cs.map Sum.inl ++ List.replicate 64 exS

theorem ints_of_C {w : World} {A : Option Addr} {n : Nat} {xs : List Int} (h : iK.C w A n xs) : IntsAt w A xs := fun k hk => by
  obtain ⟨ad, e, hc⟩ := h.2.2 (by have := h.1; omega)
  refine ⟨ad, e, ?_⟩
  obtain ⟨c, hl, hK, hu⟩ := hc k xs[k] (List.getElem?_eq_getElem hk)
  have hK' : c = [.int .i64 xs[k]] := hK
  have := hu 0 (.int .i64 xs[k]) (by rw [hK']; rfl)
  simpa [Kd.int, Kd.scalar] using this
theorem IntsAt.left {w : World} {A : Option Addr} {xs ys : List Int} (h : IntsAt w A (xs ++ ys)) : IntsAt w A xs := fun k hk => by
  obtain ⟨ad, e, hc⟩ := h k (by rw [List.length_append]; omega)
  exact ⟨ad, e, by rw [hc, List.getElem_append_left hk]⟩

/-- What stands at place k of such a row. -/
theorem g_at {w : World} {A : Option Addr} {n : Nat} {xs : List (Case ⊕ Case)} (h : gK.C w A n xs) (k : Nat) (hk : k < xs.length) : ∃ ad v0 v1, A = some ad ∧ w.cell? (ad.add (k * 2)) = some v0 ∧ w.cell? (ad.add (k * 2 + 1)) = some v1 ∧ gK.K w xs[k] [v0, v1] := by
  obtain ⟨ad, e, hc⟩ := h.2.2 (by have := h.1; omega)
  obtain ⟨c, hl, hK, hu⟩ := hc k xs[k] (List.getElem?_eq_getElem hk)
  match c, hl with
  | [v0, v1], _ => exact ⟨ad, v0, v1, e, hu 0 v0 rfl, hu 1 v1 rfl, hK⟩
theorem withEx_at {cs : List Case} {k : Nat} (hk : k < cs.length) : ∃ h, (withEx cs)[k]'h = .inl cs[k] := by
  refine ⟨by unfold withEx; simp; omega, ?_⟩
  unfold withEx
  rw [List.getElem_append_left (by simpa using hk), List.getElem_map]
theorem withEx_len (cs : List Case) : (withEx cs).length = cs.length + 64 := by unfold withEx; simp
theorem case_at {w : World} {A : Option Addr} {n : Nat} {cs : List Case} (h : gK.C w A n (withEx cs)) (k : Nat) (hk : k < cs.length) : ∃ ad PA pc BA bc, A = some ad ∧ w.cell? (ad.add (k * 2)) = some (.slice PA cs[k].1.length pc) ∧ w.cell? (ad.add (k * 2 + 1)) = some (.slice BA cs[k].2.length bc) ∧
    cs[k].1.length + 64 ≤ pc ∧ cs[k].2.length + 64 ≤ bc ∧ IntsAt w PA (cs[k].1 ++ mk66) ∧ IntsAt w BA (cs[k].2 ++ mk67) := by
  obtain ⟨hk', e⟩ := withEx_at hk
  obtain ⟨ad, v0, v1, e1, h0, h1, hK⟩ := g_at h k hk'
  rw [e] at hK
  obtain ⟨c0, c1, hcs, ⟨PA, pc, rfl, hp, hP⟩, ⟨BA, bc, rfl, hb, hB⟩⟩ := hK
  simp only [List.cons_append, List.nil_append, List.cons.injEq, and_true] at hcs
  rw [hcs.1] at h0; rw [hcs.2] at h1
  exact ⟨ad, PA, pc, BA, bc, e1, h0, h1, by simpa [mk66] using hp, by simpa [mk67] using hb, ints_of_C hP, ints_of_C hB⟩
theorem cases_of_C {w : World} {A : Option Addr} {n : Nat} {cs : List Case} (h : gK.C w A n (withEx cs)) (hs : ∀ k (h : k < cs.length), cs[k].1.length ≤ 1099511627776 ∧ cs[k].2.length ≤ 1099511627776) : CasesAt w A cs := fun k hk => by
  obtain ⟨ad, PA, pc, BA, bc, e, h0, h1, _, _, hP, hB⟩ := case_at h k hk
  exact ⟨ad, _, _, e, h0, h1, PA, pc, BA, bc, rfl, rfl, hP.left, hB.left, (hs k hk).1, (hs k hk).2⟩
theorem ex_at {w : World} {A : Option Addr} {n : Nat} {cs : List Case} (h : gK.C w A n (withEx cs)) (k : Nat) (h0 : cs.length ≤ k) (hk : k < cs.length + 64) : ∃ ad g pc, A = some ad ∧ w.cell? (ad.add (k * 2)) = some (.slice (some g) 1 pc) ∧ w.cell? g = some (.int .i64 (-68)) := by
  obtain ⟨ad, v0, v1, e1, h0', h1', hK⟩ := g_at h k (by rw [withEx_len]; exact hk)
  have e : (withEx cs)[k]'(by rw [withEx_len]; exact hk) = exS := by
    unfold withEx
    rw [List.getElem_append_right (by simpa using h0), List.getElem_replicate]
  rw [e] at hK
  obtain ⟨c0, c1, hcs, ⟨PA, pc, rfl, hp, hP⟩, _⟩ := hK
  simp only [List.cons_append, List.nil_append, List.cons.injEq] at hcs
  rw [hcs.1] at h0'
  obtain ⟨g, hg, hc⟩ := ints_of_C hP 0 (by simp)
  rw [hg] at h0'
  exact ⟨ad, g, pc, e1, h0', by rw [Addr.add_zero'] at hc; simpa using hc⟩
end Go.Proofs.YtpgaimpppehpcabDoor
