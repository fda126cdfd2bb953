/- TestParses: what the law asks of its calls. -/
import Derived.Test.YtliimcemjjhmaaaDoorTpOu
import Derived.Test.YtliimcemjjhmaaaDoorTpSame
import Derived.Test.YtliimcemjjhmaaaDoorNum
namespace Go.Proofs.YtliimcemjjhmaaaDoor
open Go.RowKit Go.Proofs.YtliimcemjjhmaaaDoorW.PrintWords Go.Proofs.YtliimcemjjhmaaaDoor.PTestParses

theorem sameInts_f (l : List Int) (hl : l.length ≤ 4000000) : ∀ (d i k : Nat), l.length - i ≤ d → i ≤ l.length → d + 1 ≤ k → caesuraref0_SameInts.l0 k l l (i : Int) = some true := by
  intro d
  induction d with
  | zero =>
    intro i k hd hi hk
    obtain ⟨k, rfl⟩ : ∃ j, k = j + 1 := ⟨k - 1, by omega⟩
    rw [caesuraref0_SameInts.l0, if_neg (by omega)]
  | succ d ih =>
    intro i k hd hi hk
    obtain ⟨k, rfl⟩ : ∃ j, k = j + 1 := ⟨k - 1, by omega⟩
    by_cases he : i = l.length
    · rw [caesuraref0_SameInts.l0, if_neg (by omega)]
    · rw [caesuraref0_SameInts.l0, if_pos (by omega), if_pos (by omega), if_pos (by omega), if_pos rfl, wrap_at (by omega)]
      exact ih (i + 1) k (by omega) (by omega) (by omega)
abbrev LensP (cs : List S40) : Prop := ∀ c ∈ cs, c.f0.length ≤ 2097152 ∧ c.f1.length ≤ 2097152
theorem sameCases_l (l : List S40) (hl : l.length ≤ 4000000) (hs : LensP l) : ∀ (d i k : Nat), l.length - i ≤ d → i ≤ l.length → d + 3000000 ≤ k → caesuraref0_SameCases.l0 k l l (i : Int) = some true := by
  intro d
  induction d with
  | zero =>
    intro i k hd hi hk
    obtain ⟨k, rfl⟩ : ∃ j, k = j + 1 := ⟨k - 1, by omega⟩
    rw [caesuraref0_SameCases.l0, if_neg (by omega)]
  | succ d ih =>
    intro i k hd hi hk
    obtain ⟨k, rfl⟩ : ∃ j, k = j + 1 := ⟨k - 1, by omega⟩
    by_cases he : i = l.length
    · rw [caesuraref0_SameCases.l0, if_neg (by omega)]
    · have hi' : i < l.length := by omega
      have e : rd_T40 l (i : Int) = l[i] := by simp [rd_T40, hi']
      obtain ⟨h1, h2⟩ := hs l[i] (List.getElem_mem hi')
      have e1 : caesuraref0_SameInts.f k l[i].f0 l[i].f0 = some true := by
        unfold caesuraref0_SameInts.f; rw [if_pos rfl]; exact sameInts_f _ (by omega) _ 0 k (Nat.le_refl _) (Nat.zero_le _) (by omega)
      have e2 : caesuraref0_SameInts.f k l[i].f1 l[i].f1 = some true := by
        unfold caesuraref0_SameInts.f; rw [if_pos rfl]; exact sameInts_f _ (by omega) _ 0 k (Nat.le_refl _) (Nat.zero_le _) (by omega)
      rw [caesuraref0_SameCases.l0, if_pos (by omega), if_pos (by omega), if_pos (by omega), e, e1, Option.bind_some, e2, Option.bind_some, if_pos rfl, if_pos rfl, wrap_at (by omega)]
      exact ih (i + 1) k (by omega) (by omega) (by omega)
theorem same_any (A B : Option Addr) (c d : Nat) (cs : List S40) (w : World) (hl : cs.length ≤ 20000) (hs : LensP cs) (h1 : k40.C w A cs.length cs) (hc : cs.length ≤ c) (h2 : k40.C w B cs.length cs) (hd : cs.length ≤ d) :
    Calls Tryd.prog 6 #[.slice A cs.length c, .slice B cs.length d] w fun e w' => e = .returned (.bool true) ∧ Below w.heap.size w w' := by
  have hf : caesuraref0_SameCases.f 4000000 cs cs = some true := by
    unfold caesuraref0_SameCases.f
    rw [if_pos rfl]
    exact sameCases_l cs (by omega) hs cs.length 0 4000000 (by omega) (by omega) (by omega)
  exact (caesuraref0_SameCases.calls _ A c cs B d cs true w h1 hc h2 hd hf).mono fun e w' ⟨he, hd⟩ => ⟨he, hd.below⟩

/-- A list of cases of one's own reads as it is. -/
theorem CasesOwn.reads {W : World} {base n c : Nat} {A : Option Addr} {hs : List Hd} {cs : List S40} (h : CasesOwn W base (.slice A n c) hs cs) : n = cs.length ∧ cs.length ≤ c ∧ k40.C W A cs.length cs := by
  obtain ⟨h1, h2, h3⟩ := Kd.R_reads' h.row
  have hn : n = cs.length := by rw [h1, List.length_map, h.len]
  refine ⟨hn, by omega, rfl, by have := Kd.C_max h3; rw [List.length_map, h.len] at this; exact this, fun h0 => ?_⟩
  obtain ⟨ad, e, hc⟩ := h3.2.2 (by rw [List.length_map, h.len]; exact h0)
  refine ⟨ad, e, fun j p hj => ?_⟩
  obtain ⟨hjc, rfl⟩ := List.getElem?_eq_some_iff.1 hj
  have hjh : j < hs.length := by rw [h.len]; exact hjc
  obtain ⟨c', hl, hK, hcc⟩ := hc j (hdV hs[j]) (by rw [List.getElem?_map, List.getElem?_eq_getElem hjh]; rfl)
  have hK' : c' = hdV hs[j] ∧ _ := hK
  have e1 := hK'.1
  subst e1
  obtain ⟨m1, m2⟩ := flatR_at j hjh hjc
  obtain ⟨A1, c1, v1⟩ := Kd.R_slice (h.fam.rows _ m1)
  obtain ⟨A2, c2, v2⟩ := Kd.R_slice (h.fam.rows _ m2)
  have r1 := h.fam.rows _ m1
  have r2 := h.fam.rows _ m2
  dsimp only at v1 v2 r1 r2
  rw [v1] at r1
  rw [v2] at r2
  obtain ⟨_, l1, g1⟩ := Kd.R_reads' r1
  obtain ⟨_, l2, g2⟩ := Kd.R_reads' r2
  refine ⟨hdV hs[j], rfl, ?_, hcc⟩
  rw [show hdV hs[j] = [hs[j].1, hs[j].2] from rfl, v1, v2]
  exact k40_mk W cs[j] l1 g1 l2 g2

theorem saidW_len2 : ∀ (l : List Bs) (f : Bool) (p b : List Int) (r : List Int × List Int), saidW l f p b = some r → r.2.length ≤ b.length + l.length
  | [], false, _, _, _, h => by simp [saidW] at h
  | [], true, p, b, r, h => by simp [saidW] at h; subst h; simp
  | w :: l, false, p, b, r, h => by
    simp only [saidW] at h
    split at h
    · have := saidW_len2 l true _ _ r h; simp at this ⊢; omega
    · split at h
      · have := saidW_len2 l true _ _ r h; simp; omega
      · cases h
  | w :: l, true, p, b, r, h => by
    simp only [saidW] at h
    split at h
    · cases h
    · have := saidW_len2 l false _ _ r h; simp; omega
theorem fileL_num : ∀ (ls : List Bs) (acc : List S40) (n : Int), (∀ x ∈ ls, x.length ≤ 1048576) → acc.length ≤ 20000 → LensP acc → ∃ cs line en, fileL ls acc n = (cs, line, ((en : Nat) : Int)) ∧ en ≤ 3 ∧ cs.length ≤ 20000 ∧ LensP cs
  | [], acc, n, _, hl, ha => ⟨acc, 0, 0, rfl, by decide, hl, ha⟩
  | s :: r, acc, n, hx, hl, ha => by
    have hr := fun x hm => hx x (List.mem_cons_of_mem _ hm)
    have no : LensP [] := fun c hc => by cases hc
    rw [fileL]
    split
    · exact fileL_num r acc (n + 1) hr hl ha
    · split
      · exact ⟨[], n, 2, rfl, by decide, by decide, no⟩
      · next pb hsd =>
        split
        · split
          · exact ⟨[], n, 3, rfl, by decide, by decide, no⟩
          · refine fileL_num r _ (n + 1) hr (by simp; omega) (fun c hc => ?_)
            rcases List.mem_append.1 hc with hc | hc
            · exact ha c hc
            · rw [List.mem_singleton] at hc
              subst hc
              have h1 := saidW_len _ _ _ _ _ hsd
              have h2 := saidW_len2 _ _ _ _ _ hsd
              have h3 := fieldsB_len (cutHash s) []
              have h4 : (cutHash s).length ≤ s.length := (List.takeWhile_sublist _).length_le
              have h5 := hx s List.mem_cons_self
              rw [show (wordsLn s).length = (fieldsB (cutHash s) []).length from rfl] at h1 h2
              simp only [List.length_nil] at h1 h2
              exact ⟨by show pb.1.length ≤ _; omega, by show pb.2.length ≤ _; omega⟩
        · exact ⟨[], n, 1, rfl, by decide, by decide, no⟩
theorem parse_num (t : Bs) : ∃ cs line en, parseOut t = (cs, line, ((en : Nat) : Int)) ∧ en ≤ 3 ∧ cs.length ≤ 20000 ∧ LensP cs := by
  unfold parseOut
  by_cases h : 1048576 < t.length
  · rw [if_pos h]; exact ⟨[], 0, 3, rfl, by decide, by decide, fun c hc => by cases hc⟩
  · rw [if_neg h]
    exact fileL_num _ [] 1 (fun x hx => by have := linesB_size t [] x hx; simp at this; omega) (by decide) (fun c hc => by cases hc)
/-- What Parse has made, by names. -/
theorem Parse_is {a : Nat → Addr} {t : Bs} {w w' : World} {e : Ending} {cs : List S40} {line : Int} {en : Nat} (hp : parseOut t = (cs, line, ((en : Nat) : Int))) (h : ParsePost a t w e w') : ∃ A c hs, e = .returned (.tuple #[.slice A cs.length c, .int .i64 line, errV a en]) ∧ CasesOwn w' w.heap.size (.slice A cs.length c) hs cs ∧ Below w.heap.size w w' := by
  unfold ParsePost at h
  rw [hp] at h
  obtain ⟨v, hs, he, hc, hb⟩ := h
  dsimp only at he hc
  obtain ⟨A, c, rfl⟩ := hc.form
  exact ⟨A, c, hs, he, hc, hb⟩

/-- The rows of two lists of cases, for apart. -/
def vOf (L : List IRow) : Nat → Value := fun j => (L.getD j (.nilFunc, [])).1
def xOf (L : List IRow) : Nat → List Int := fun j => (L.getD j (.nilFunc, [])).2
theorem hdrs_of (L : List IRow) : hdrs (vOf L) L.length = L.map fun p => [p.1] := by
  unfold hdrs vOf
  apply List.ext_getElem
  · simp
  · intro j h1 h2
    simp at h1
    simp [h1]
theorem famI_of {W : World} {base : Nat} {L : List IRow} (h : Fam W base L) : FamI W base L.length (vOf L) (xOf L) := by
  have e : ∀ j (hj : j < L.length), vOf L j = L[j].1 ∧ xOf L j = L[j].2 := fun j hj => by simp [vOf, xOf, hj]
  refine ⟨fun j hj => ?_, fun i j hi hj hne k e1 e2 => ?_⟩
  · rw [(e j hj).1, (e j hj).2]; exact h.rows _ (List.getElem_mem hj)
  · rw [(e i hi).1] at e1
    rw [(e j hj).1] at e2
    rcases Nat.lt_or_ge i j with hlt | hge
    · exact List.pairwise_iff_getElem.1 h.apart i j hi hj hlt k e1 e2
    · exact List.pairwise_iff_getElem.1 h.apart j i hj hi (by omega) k e2 e1
theorem inI_of {L : List IRow} {k : Nat} (h : InI L.length (vOf L) k) : InFam L k := by
  obtain ⟨j, hj, e⟩ := h
  refine ⟨L[j], List.getElem_mem hj, ?_⟩
  rw [show vOf L j = L[j].1 by simp [vOf, hj]] at e
  exact e
theorem flatR_len : ∀ {hs : List Hd} {cs : List S40}, hs.length = cs.length → (flatR hs cs).length = 2 * cs.length
  | [], [], _ => rfl
  | h :: hs, c :: cs, e => by simp only [flatR, List.length_cons, flatR_len (hs := hs) (cs := cs) (by simpa using e)]; omega
theorem flatR_lens : ∀ {hs : List Hd} {cs : List S40}, LensP cs → ∀ p ∈ flatR hs cs, p.2.length ≤ 2097152
  | [], _, _, p, hp => by simp [flatR] at hp
  | _ :: _, [], _, p, hp => by simp [flatR] at hp
  | h :: hs, c :: cs, hl, p, hp => by
    simp only [flatR, List.mem_cons] at hp
    rcases hp with rfl | rfl | hp
    · exact (hl c List.mem_cons_self).1
    · exact (hl c List.mem_cons_self).2
    · exact flatR_lens (hs := hs) (fun c hc => hl c (List.mem_cons_of_mem _ hc)) p hp
theorem xOf_len {L : List IRow} (h : ∀ p ∈ L, p.2.length ≤ 2097152) : ∀ j, j < L.length → (xOf L j).length ≤ 2097152 := fun j hj => by
  rw [show xOf L j = L[j].2 by simp [xOf, hj]]; exact h _ (List.getElem_mem hj)
end Go.Proofs.YtliimcemjjhmaaaDoor
