/- The sentinel errors of package api: where they lie, that they are different pointers. -/
import Derived.Test.YtliimcemjjhmaacGreatDoorRows
import Derived.WalkKit
import Derived.KernelRfl
import Derived.Below
import Derived.LaidLaws
import Derived.LaidSub
import Derived.LaidEql
import Derived.WideLaws
import Derived.Lib.Hide
import Derived.Deep.Draws
namespace Go.Proofs.YtliimcemjjhmaacGreatDoor
open Go.RowKit

theorem errStar : "*" ++ "errors.errorString" = "*errors.errorString" := by decide
theorem errRow (u : TypeId) (h : Tryz.prog.typeName? 3 u = some "*errors.errorString") : u = 130 :=
  typeName_ptr_named (nm := "errors.errorString") (by rw [errStar]; kernel_rfl) (by kernel_rfl) (by decide) u (by rw [errStar]; exact h)
theorem errCells : Tryz.prog.cellsOf 132 = 1 := by kernel_rfl
theorem errCellsS : Tryz.prog.cellsOf 9 = 1 := by kernel_rfl

def errD (text : List UInt8) : DataW Unit := .iface "*errors.errorString" (.ptr (.agg [.lit (.string text)]))
def IsErr (n : String) (g : Nat) : Prop := Tryz.prog.globalNamed n = some g ∧ (Tryz.prog.globals[g]?).map (·.type) = some 25

set_option maxRecDepth 100000 in
/-- Of a list of laid sentinels: each variable's cell, the row behind it, and that they are apart. -/
theorem sentsOf {W : World} : ∀ (L : List (String × DataW Unit)) (ps : List MemPlace), DataW.LaidVars Tryz.prog W L ps → ps.Nodup →
    (∀ b off, MemPlace.cell b off ∈ ps → (∃ c t, W.heap[b]? = some (.cells c t (0, 0))) ∧ ∀ u v, W.cell? ⟨b, off, none⟩ = some (.iface u v) → Value.okWide Tryz.prog W .any 0 u v) →
    ∃ sa : String → Addr, (∀ n text g, (n, errD text) ∈ L → IsErr n g → W.cell? ⟨g, 0, none⟩ = some (.iface 130 (.pointer (some (sa n)))) ∧ (sa n).spot = none ∧ (∃ c t, W.heap[(sa n).block]? = some (.cells c t (0, 0))) ∧ MemPlace.cell (sa n).block (sa n).off ∈ ps) ∧
      (∀ n n' text text' g g', (n, errD text) ∈ L → (n', errD text') ∈ L → n ≠ n' → IsErr n g → IsErr n' g' → sa n ≠ sa n')
  | [], ps, _, _, _ => ⟨fun _ => ⟨0, 0, none⟩, (fun n text g h => by cases h), (fun n n' text text' _ _ h => by cases h)⟩
  | (m, d) :: r, ps, h, hnd, hrows => by
    obtain ⟨g0, t0, cs0, f0, p0, q, hg0, ht0, hv0, hd0, hr, rfl⟩ := h
    have hq : q.Nodup := List.Nodup.sublist (List.sublist_append_right _ _) hnd
    obtain ⟨sa, h1, h2⟩ := sentsOf r q hr hq (fun b off hm => hrows b off (List.mem_append_right _ hm))
    by_cases hm : (∃ text, d = errD text) ∧ IsErr m g0
    · obtain ⟨⟨text0, rfl⟩, hg1, ht1⟩ := hm
      obtain rfl := Option.some.inj (ht1.symm.trans ht0)
      obtain ⟨l0⟩ := cs0
      have ok0 : ∀ u v, l0 = [.iface u v] → Value.okWide Tryz.prog W .any 0 u v := fun u v e => by
        subst e
        exact (hrows g0 0 (by simp [MemPlace.row])).2 u v (by simpa using World.var?_cell hg0 hv0 0)
      obtain ⟨a0, s0, rfl, hc0, hs0, hz0, rfl⟩ := errorString_of_trod Tryz.underlying25 errRow Tryz.underlying130 Tryz.underlying132 rfl rfl Tryz.underlying9 errCells errCellsS hd0 ok0
      have hsp : a0.spot = none := by
        cases hsp : a0.spot with
        | none => rfl
        | some k => exfalso; simp [World.cell?, hsp] at hc0; split at hc0 <;> simp_all
      have hpl : MemPlace.cell a0.block a0.off ∈ MemPlace.row a0 1 := by simp [MemPlace.row]
      have hcell : W.cell? ⟨g0, 0, none⟩ = some (.iface 130 (.pointer (some a0))) := by simpa using World.var?_cell hg0 hv0 0
      have hrow0 := (hrows a0.block a0.off (by simp [MemPlace.row])).1
      have hapart : ∀ b : Addr, MemPlace.cell b.block b.off ∈ q → a0 ≠ b := fun b hb e => by
        subst e
        exact absurd rfl ((List.nodup_append.1 hnd).2.2 _ (List.mem_append_right _ hpl) _ hb)
      refine ⟨fun n => if n = m then a0 else sa n, fun n text g hmem he => ?_, fun n n' text text' g g' hmem hmem' hne he he' => ?_⟩
      · by_cases hn : n = m
        · subst hn
          obtain rfl := Option.some.inj (he.1.symm.trans hg0)
          simp only [if_true]
          exact ⟨hcell, hsp, hrow0, by simp [MemPlace.row]⟩
        · simp only [if_neg hn]
          have hmem2 : (n, errD text) ∈ r := by
            rcases List.mem_cons.1 hmem with h | h
            · exact absurd (congrArg Prod.fst h) hn
            · exact h
          obtain ⟨k1, k2, k3, k4⟩ := h1 n text g hmem2 he
          exact ⟨k1, k2, k3, List.mem_append_right _ k4⟩
      · have tail : ∀ n text g, (n, errD text) ∈ (m, errD text0) :: r → n ≠ m → IsErr n g → (n, errD text) ∈ r := fun n text g h hn _ => by
          rcases List.mem_cons.1 h with h | h
          · exact absurd (congrArg Prod.fst h) hn
          · exact h
        by_cases hn : n = m
        · subst hn
          have hn' : ¬ n' = n := fun e => hne e.symm
          simp only [if_true, if_neg hn']
          exact hapart _ (h1 n' text' g' (tail n' text' g' hmem' hn' he') he').2.2.2
        · by_cases hn' : n' = m
          · subst hn'
            simp only [if_true, if_neg hn]
            exact fun e => hapart _ (h1 n text g (tail n text g hmem hn he) he).2.2.2 e.symm
          · simp only [if_neg hn, if_neg hn']
            exact h2 n n' text text' g g' (tail n text g hmem hn he) (tail n' text' g' hmem' hn' he') hne he he'
    · have tail : ∀ n text g, (n, errD text) ∈ (m, d) :: r → IsErr n g → (n, errD text) ∈ r := fun n text g h he => by
        rcases List.mem_cons.1 h with h | h
        · obtain ⟨rfl, rfl⟩ := Prod.mk.inj h
          obtain rfl := Option.some.inj (he.1.symm.trans hg0)
          exact absurd ⟨⟨_, rfl⟩, he⟩ hm
        · exact h
      refine ⟨sa, fun n text g hmem he => ?_, fun n n' text text' g g' hmem hmem' hne he he' => h2 n n' text text' g g' (tail _ _ _ hmem he) (tail _ _ _ hmem' he') hne he he'⟩
      obtain ⟨k1, k2, k3, k4⟩ := h1 n text g (tail n text g hmem he) he
      exact ⟨k1, k2, k3, List.mem_append_right _ k4⟩

/-- The sentinels of this translation: the document's number, the name, the variable's block. -/
def errTab : List (Nat × String × Nat) :=
  (1, "caesura/api.ErrArg", 1) ::
  (2, "caesura/api.ErrText", 3) ::
  (3, "caesura/api.ErrMany", 0) ::
  []
def errList : List Nat := errTab.map (·.1)
def errAt (i : Nat) : Nat := ((errTab.find? fun x => x.1 == i).map (·.2.2)).getD 0
def errName (i : Nat) : String := ((errTab.find? fun x => x.1 == i).map (·.2.1)).getD ""

/-- The sentinels lie in their variables, each in a row of its own. -/
structure Sent (a : Nat → Addr) (w : World) : Prop where
  cell : ∀ i, i ∈ errList → w.cell? ⟨errAt i, 0, none⟩ = some (.iface 130 (.pointer (some (a i))))
  row : ∀ i, i ∈ errList → ∃ c t, w.heap[(a i).block]? = some (.cells c t (0, 0))
  apart : ∀ i j, i ∈ errList → j ∈ errList → i ≠ j → a i ≠ a j

theorem Sent.below {a : Nat → Addr} {w w' : World} (h : Sent a w) (hb : Below w.heap.size w w') : Sent a w' := by
  refine ⟨fun i h0 => ?_, fun i h0 => ?_, h.apart⟩
  · have hc := h.cell i h0
    exact (hb.cell (World.block_lt_of_cell? w _ hc)).trans hc
  · obtain ⟨c, t, hr⟩ := h.row i h0
    exact ⟨c, t, (hb.block _ (Array.getElem?_eq_some_iff.1 hr).1).trans hr⟩

theorem Sent.drewN {a : Nat → Addr} {w : World} (h : Sent a w) (n : Nat) : Sent a (w.drewN n) := ⟨h.cell, h.row, h.apart⟩
theorem Sent.drew {a : Nat → Addr} {w : World} (h : Sent a w) : Sent a w.drew := ⟨h.cell, h.row, h.apart⟩

def errV (a : Nat → Addr) : Nat → Value
  | 0 => .nilIface
  | n + 1 => .iface 130 (.pointer (some (a (n + 1))))

theorem errIs : ∀ i ∈ errList, IsErr (errName i) (errAt i) := by
  unfold errList errTab
  simp only [List.map_cons, List.map_nil, List.forall_mem_cons]
  repeat' apply And.intro
  all_goals first | kernel_rfl | (intro i hi; cases hi)

theorem errNames : ∀ i ∈ errList, ∀ j ∈ errList, i ≠ j → errName i ≠ errName j := by decide

/-- Out of a row's list that holds all of them. -/
theorem Sent.of {W : World} {L : List (String × DataW Unit)} (h : laidMet Tryz.prog L W) (hL : ∀ i ∈ errList, ∃ text, (errName i, errD text) ∈ L) : ∃ a, Sent a W := by
  obtain ⟨ps, hv, hnd, hrows⟩ := h
  obtain ⟨sa, h1, h2⟩ := sentsOf L ps hv hnd hrows
  refine ⟨fun i => sa (errName i), fun i h0 => ?_, fun i h0 => ?_, fun i j h0 k0 hne => ?_⟩
  · obtain ⟨text, hm⟩ := hL i h0
    exact (h1 _ text _ hm (errIs i h0)).1
  · obtain ⟨text, hm⟩ := hL i h0
    exact (h1 _ text _ hm (errIs i h0)).2.2.1
  · obtain ⟨text, hm⟩ := hL i h0
    obtain ⟨text', hm'⟩ := hL j k0
    exact h2 _ _ text text' _ _ hm hm' (errNames i h0 j k0 hne) (errIs i h0) (errIs j k0)

theorem infoErrP : ∃ i, Tryz.prog.info? 130 = some i ∧ i.comparable = true := by
  have h : (Tryz.prog.info? 130).map (·.comparable) = some true := by kernel_rfl
  obtain ⟨i, hi, hc⟩ := Option.map_eq_some_iff.1 h
  exact ⟨i, hi, hc⟩
theorem infoErrE : ∃ j, Tryz.prog.info? 132 = some j ∧ j.size ≠ 0 := by
  have h : (Tryz.prog.info? 132).map (·.size) = some 1 := by kernel_rfl
  obtain ⟨i, hi, hc⟩ := Option.map_eq_some_iff.1 h
  exact ⟨i, hi, by omega⟩

/-- '==' between two of them. -/
theorem Sent.eql {a : Nat → Addr} {w : World} (h : Sent a w) (i j : Nat) (h0 : i ∈ errList) (k0 : j ∈ errList) :
    (binOp .eql 25 (.iface 130 (.pointer (some (a i)))) (.iface 130 (.pointer (some (a j))))).run Tryz.prog w = .ok (.bool (i == j)) w := by
  obtain ⟨ip, hip, hcp⟩ := infoErrP
  obtain ⟨je, hje, hsz⟩ := infoErrE
  by_cases e : i = j
  · subst e
    rw [beq_self_eq_true]
    exact run_eql_iface_ptr_same w (a i) Tryz.underlying25 Tryz.underlying130 hip hcp hje
  · rw [beq_eq_false_iff_ne.2 e]
    obtain ⟨c, t, hr⟩ := h.row i h0
    obtain ⟨c', t', hr'⟩ := h.row j k0
    exact run_eql_iface_ptr_other w Tryz.underlying25 Tryz.underlying130 hip hcp hje hsz (h.apart i j h0 k0 e) hr hr'
end Go.Proofs.YtliimcemjjhmaacGreatDoor
