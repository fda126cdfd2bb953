/- The sentinel errors of package api: where they lie, that they are different pointers, and caesurakit.Num of each. -/
import Derived.Test.YtpgaimpppehpcaeDoorRows
import Derived.WalkKit
import Derived.KernelRfl
import Derived.Below
import Derived.LaidLaws
import Derived.LaidSub
import Derived.LaidEql
import Derived.WideLaws
import Derived.Lib.Hide
import Derived.Deep.Draws
namespace Go.Proofs.YtpgaimpppehpcaeDoor
open Go.RowKit

theorem errStar : "*" ++ "errors.errorString" = "*errors.errorString" := by decide
theorem errRow (u : TypeId) (h : Tryd.prog.typeName? 3 u = some "*errors.errorString") : u = 75 :=
  typeName_ptr_named (nm := "errors.errorString") (by rw [errStar]; kernel_rfl) (by kernel_rfl) (by decide) u (by rw [errStar]; exact h)
theorem errCells : Tryd.prog.cellsOf 90 = 1 := by kernel_rfl
theorem errCellsS : Tryd.prog.cellsOf 9 = 1 := by kernel_rfl

def errD (text : List UInt8) : DataW Unit := .iface "*errors.errorString" (.ptr (.agg [.lit (.string text)]))
def IsErr (n : String) (g : Nat) : Prop := Tryd.prog.globalNamed n = some g ∧ (Tryd.prog.globals[g]?).map (·.type) = some 24

/-- Of a list of laid sentinels: each variable's cell, the row behind it, and that they are apart. -/
theorem sentsOf {W : World} : ∀ (L : List (String × DataW Unit)) (ps : List MemPlace), DataW.LaidVars Tryd.prog W L ps → ps.Nodup →
    (∀ b off, MemPlace.cell b off ∈ ps → (∃ c t, W.heap[b]? = some (.cells c t (0, 0))) ∧ ∀ u v, W.cell? ⟨b, off, none⟩ = some (.iface u v) → Value.okWide Tryd.prog W .any 0 u v) →
    ∃ sa : String → Addr, (∀ n text g, (n, errD text) ∈ L → IsErr n g → W.cell? ⟨g, 0, none⟩ = some (.iface 75 (.pointer (some (sa n)))) ∧ (sa n).spot = none ∧ (∃ c t, W.heap[(sa n).block]? = some (.cells c t (0, 0))) ∧ MemPlace.cell (sa n).block (sa n).off ∈ ps) ∧
      (∀ n n' text text' g g', (n, errD text) ∈ L → (n', errD text') ∈ L → n ≠ n' → IsErr n g → IsErr n' g' → sa n ≠ sa n')
  | [], ps, _, _, _ => ⟨fun _ => ⟨0, 0, none⟩, (fun n text g h => by cases h), (fun n n' text text' _ _ h => by cases h)⟩
  | (m, d) :: r, ps, h, hnd, hrows => by
    obtain ⟨g0, t0, cs0, f0, p0, q, hg0, ht0, hv0, hd0, hr, rfl⟩ := h
    have hq : q.Nodup := List.Nodup.sublist (List.sublist_append_right _ _) hnd
    obtain ⟨sa, h1, h2⟩ := sentsOf r q hr hq (fun b off hm => hrows b off (List.mem_append_right _ hm))
    by_cases hm : (∃ text, d = errD text) ∧ IsErr m g0
    · obtain ⟨⟨text0, rfl⟩, hg1, ht1⟩ := hm
      obtain rfl := Option.some.inj (ht1.symm.trans ht0)
      obtain ⟨l0⟩ := cs0
      have ok0 : ∀ u v, l0 = [.iface u v] → Value.okWide Tryd.prog W .any 0 u v := fun u v e => by
        subst e
        exact (hrows g0 0 (by simp [MemPlace.row])).2 u v (by simpa using World.var?_cell hg0 hv0 0)
      obtain ⟨a0, s0, rfl, hc0, hs0, hz0, rfl⟩ := errorString_of_trod Tryd.underlying24 errRow Tryd.underlying75 Tryd.underlying90 rfl rfl Tryd.underlying9 errCells errCellsS hd0 ok0
      have hsp : a0.spot = none := by
        cases hsp : a0.spot with
        | none => rfl
        | some k => exfalso; simp [World.cell?, hsp] at hc0; split at hc0 <;> simp_all
      have hpl : MemPlace.cell a0.block a0.off ∈ MemPlace.row a0 1 := by simp [MemPlace.row]
      have hcell : W.cell? ⟨g0, 0, none⟩ = some (.iface 75 (.pointer (some a0))) := by simpa using World.var?_cell hg0 hv0 0
      have hrow0 := (hrows a0.block a0.off (by simp [MemPlace.row])).1
      have hapart : ∀ b : Addr, MemPlace.cell b.block b.off ∈ q → a0 ≠ b := fun b hb e => by
        subst e
        exact absurd rfl ((List.nodup_append.1 hnd).2.2 _ (List.mem_append_right _ hpl) _ hb)
      refine ⟨fun n => if n = m then a0 else sa n, fun n text g hmem he => ?_, fun n n' text text' g g' hmem hmem' hne he he' => ?_⟩
      · by_cases hn : n = m
        · subst hn
          obtain rfl := Option.some.inj (he.1.symm.trans hg0)
          simp only [if_true]
          exact ⟨hcell, hsp, hrow0, by simp [MemPlace.row]⟩
        · simp only [if_neg hn]
          have hmem2 : (n, errD text) ∈ r := by
            rcases List.mem_cons.1 hmem with h | h
            · exact absurd (congrArg Prod.fst h) hn
            · exact h
          obtain ⟨k1, k2, k3, k4⟩ := h1 n text g hmem2 he
          exact ⟨k1, k2, k3, List.mem_append_right _ k4⟩
      · have tail : ∀ n text g, (n, errD text) ∈ (m, errD text0) :: r → n ≠ m → IsErr n g → (n, errD text) ∈ r := fun n text g h hn _ => by
          rcases List.mem_cons.1 h with h | h
          · exact absurd (congrArg Prod.fst h) hn
          · exact h
        by_cases hn : n = m
        · subst hn
          have hn' : ¬ n' = n := fun e => hne e.symm
          simp only [if_true, if_neg hn']
          exact hapart _ (h1 n' text' g' (tail n' text' g' hmem' hn' he') he').2.2.2
        · by_cases hn' : n' = m
          · subst hn'
            simp only [if_true, if_neg hn]
            exact fun e => hapart _ (h1 n text g (tail n text g hmem hn he) he).2.2.2 e.symm
          · simp only [if_neg hn, if_neg hn']
            exact h2 n n' text text' g g' (tail n text g hmem hn he) (tail n' text' g' hmem' hn' he') hne he he'
    · have tail : ∀ n text g, (n, errD text) ∈ (m, d) :: r → IsErr n g → (n, errD text) ∈ r := fun n text g h he => by
        rcases List.mem_cons.1 h with h | h
        · obtain ⟨rfl, rfl⟩ := Prod.mk.inj h
          obtain rfl := Option.some.inj (he.1.symm.trans hg0)
          exact absurd ⟨⟨_, rfl⟩, he⟩ hm
        · exact h
      refine ⟨sa, fun n text g hmem he => ?_, fun n n' text text' g g' hmem hmem' hne he he' => h2 n n' text text' g g' (tail _ _ _ hmem he) (tail _ _ _ hmem' he') hne he he'⟩
      obtain ⟨k1, k2, k3, k4⟩ := h1 n text g (tail n text g hmem he) he
      exact ⟨k1, k2, k3, List.mem_append_right _ k4⟩

def errName : Nat → String
  | 1 => "caesura/api.ErrArg" | 2 => "caesura/api.ErrText" | 3 => "caesura/api.ErrMany" | 4 => "caesura/api.ErrShort" | 5 => "caesura/api.ErrTwice" | 6 => "caesura/api.ErrOrder"
  | 7 => "caesura/api.ErrLost" | 8 => "caesura/api.ErrCycle" | 9 => "caesura/api.ErrSum" | 10 => "caesura/api.ErrForm" | _ => "caesura/api.ErrEnd"
def errAt : Nat → Nat
  | 1 => 0 | 2 => 1 | 3 => 2 | 4 => 3 | 5 => 4 | 6 => 5
  | 7 => 6 | 8 => 7 | 9 => 8 | 10 => 9 | _ => 10

/-- The eleven sentinels lie in their variables, each in a row of its own. -/
structure Sent (a : Nat → Addr) (w : World) : Prop where
  cell : ∀ i, 1 ≤ i → i ≤ 11 → w.cell? ⟨errAt i, 0, none⟩ = some (.iface 75 (.pointer (some (a i))))
  row : ∀ i, 1 ≤ i → i ≤ 11 → ∃ c t, w.heap[(a i).block]? = some (.cells c t (0, 0))
  apart : ∀ i j, 1 ≤ i → i ≤ 11 → 1 ≤ j → j ≤ 11 → i ≠ j → a i ≠ a j

theorem Sent.below {a : Nat → Addr} {w w' : World} (h : Sent a w) (hb : Below w.heap.size w w') : Sent a w' := by
  refine ⟨fun i h0 h1 => ?_, fun i h0 h1 => ?_, h.apart⟩
  · have hc := h.cell i h0 h1
    exact (hb.cell (World.block_lt_of_cell? w _ hc)).trans hc
  · obtain ⟨c, t, hr⟩ := h.row i h0 h1
    exact ⟨c, t, (hb.block _ (Array.getElem?_eq_some_iff.1 hr).1).trans hr⟩

theorem Sent.drewN {a : Nat → Addr} {w : World} (h : Sent a w) (n : Nat) : Sent a (w.drewN n) := ⟨h.cell, h.row, h.apart⟩
theorem Sent.drew {a : Nat → Addr} {w : World} (h : Sent a w) : Sent a w.drew := ⟨h.cell, h.row, h.apart⟩

def errV (a : Nat → Addr) : Nat → Value
  | 0 => .nilIface
  | n + 1 => .iface 75 (.pointer (some (a (n + 1))))

theorem errIs (i : Nat) (h0 : 1 ≤ i) (h1 : i ≤ 11) : IsErr (errName i) (errAt i) := by
  obtain rfl | rfl | rfl | rfl | rfl | rfl | rfl | rfl | rfl | rfl | rfl : i = 1 ∨ i = 2 ∨ i = 3 ∨ i = 4 ∨ i = 5 ∨ i = 6 ∨ i = 7 ∨ i = 8 ∨ i = 9 ∨ i = 10 ∨ i = 11 := by omega
  all_goals exact ⟨by kernel_rfl, by kernel_rfl⟩

/-- Out of a row's list that holds all eleven. -/
theorem Sent.of {W : World} {L : List (String × DataW Unit)} (h : laidMet Tryd.prog L W) (hL : ∀ i, 1 ≤ i → i ≤ 11 → ∃ text, (errName i, errD text) ∈ L) : ∃ a, Sent a W := by
  obtain ⟨ps, hv, hnd, hrows⟩ := h
  obtain ⟨sa, h1, h2⟩ := sentsOf L ps hv hnd hrows
  refine ⟨fun i => sa (errName i), fun i h0 hi => ?_, fun i h0 hi => ?_, fun i j h0 hi k0 hj hne => ?_⟩
  · obtain ⟨text, hm⟩ := hL i h0 hi
    exact (h1 _ text _ hm (errIs i h0 hi)).1
  · obtain ⟨text, hm⟩ := hL i h0 hi
    exact (h1 _ text _ hm (errIs i h0 hi)).2.2.1
  · obtain ⟨text, hm⟩ := hL i h0 hi
    obtain ⟨text', hm'⟩ := hL j k0 hj
    refine h2 _ _ text text' _ _ hm hm' ?_ (errIs i h0 hi) (errIs j k0 hj)
    obtain rfl | rfl | rfl | rfl | rfl | rfl | rfl | rfl | rfl | rfl | rfl : i = 1 ∨ i = 2 ∨ i = 3 ∨ i = 4 ∨ i = 5 ∨ i = 6 ∨ i = 7 ∨ i = 8 ∨ i = 9 ∨ i = 10 ∨ i = 11 := by omega
    all_goals
      obtain rfl | rfl | rfl | rfl | rfl | rfl | rfl | rfl | rfl | rfl | rfl : j = 1 ∨ j = 2 ∨ j = 3 ∨ j = 4 ∨ j = 5 ∨ j = 6 ∨ j = 7 ∨ j = 8 ∨ j = 9 ∨ j = 10 ∨ j = 11 := by omega
      all_goals first | exact absurd rfl hne | decide

theorem infoErrP : ∃ i, Tryd.prog.info? 75 = some i ∧ i.comparable = true := by
  have h : (Tryd.prog.info? 75).map (·.comparable) = some true := by kernel_rfl
  obtain ⟨i, hi, hc⟩ := Option.map_eq_some_iff.1 h
  exact ⟨i, hi, hc⟩
theorem infoErrE : ∃ j, Tryd.prog.info? 90 = some j ∧ j.size ≠ 0 := by
  have h : (Tryd.prog.info? 90).map (·.size) = some 1 := by kernel_rfl
  obtain ⟨i, hi, hc⟩ := Option.map_eq_some_iff.1 h
  exact ⟨i, hi, by omega⟩

/-- '==' between two of them. -/
theorem Sent.eql {a : Nat → Addr} {w : World} (h : Sent a w) (i j : Nat) (h0 : 1 ≤ i) (h1 : i ≤ 11) (k0 : 1 ≤ j) (k1 : j ≤ 11) :
    (binOp .eql 24 (.iface 75 (.pointer (some (a i)))) (.iface 75 (.pointer (some (a j))))).run Tryd.prog w = .ok (.bool (i == j)) w := by
  obtain ⟨ip, hip, hcp⟩ := infoErrP
  obtain ⟨je, hje, hsz⟩ := infoErrE
  by_cases e : i = j
  · subst e
    rw [beq_self_eq_true]
    exact run_eql_iface_ptr_same w (a i) Tryd.underlying24 Tryd.underlying75 hip hcp hje
  · rw [beq_eq_false_iff_ne.2 e]
    obtain ⟨c, t, hr⟩ := h.row i h0 h1
    obtain ⟨c', t', hr'⟩ := h.row j k0 k1
    exact run_eql_iface_ptr_other w Tryd.underlying24 Tryd.underlying75 hip hcp hje hsz (h.apart i j h0 h1 k0 k1 e) hr hr'

set_option maxHeartbeats 1000000 in
theorem num_more (a : Nat → Addr) (n : Nat) (h0 : 8 ≤ n) (h1 : n ≤ 11) (w : World) (hs : Sent a w) :
    Calls Tryd.prog 13 #[errV a n] w fun e w' => e = .returned (.int .i64 n) ∧ w' = w := by
  have c8 := hs.cell 8 (by omega) (by omega); have c9 := hs.cell 9 (by omega) (by omega); have c10 := hs.cell 10 (by omega) (by omega); have c11 := hs.cell 11 (by omega) (by omega)
  have e8 := hs.eql n 8 (by omega) (by omega) (by omega) (by omega); have e9 := hs.eql n 9 (by omega) (by omega) (by omega) (by omega)
  have e10 := hs.eql n 10 (by omega) (by omega) (by omega) (by omega); have e11 := hs.eql n 11 (by omega) (by omega) (by omega) (by omega)
  clear hs
  simp only [errAt] at c8 c9 c10 c11
  obtain rfl | rfl | rfl | rfl : n = 8 ∨ n = 9 ∨ n = 10 ∨ n = 11 := by omega
  all_goals
    simp only [Nat.reduceBEq] at e8 e9 e10 e11
    unfold errV
    go_enter Tryd.func13, Tryd.ntmps13
    go_wp2
    go_ret
    exact ⟨rfl, rfl⟩

set_option maxHeartbeats 4000000 in
theorem num_any (a : Nat → Addr) (n : Nat) (h1 : n ≤ 11) (w : World) (hs : Sent a w) :
    Calls Tryd.prog 7 #[errV a n] w fun e w' => e = .returned (.int .i64 n) ∧ w' = w := by
  by_cases h8 : 8 ≤ n
  · have c1 := hs.cell 1 (by omega) (by omega); have c2 := hs.cell 2 (by omega) (by omega); have c3 := hs.cell 3 (by omega) (by omega); have c4 := hs.cell 4 (by omega) (by omega)
    have c5 := hs.cell 5 (by omega) (by omega); have c6 := hs.cell 6 (by omega) (by omega); have c7 := hs.cell 7 (by omega) (by omega)
    have e1 := hs.eql n 1 (by omega) (by omega) (by omega) (by omega); have e2 := hs.eql n 2 (by omega) (by omega) (by omega) (by omega)
    have e3 := hs.eql n 3 (by omega) (by omega) (by omega) (by omega); have e4 := hs.eql n 4 (by omega) (by omega) (by omega) (by omega)
    have e5 := hs.eql n 5 (by omega) (by omega) (by omega) (by omega); have e6 := hs.eql n 6 (by omega) (by omega) (by omega) (by omega)
    have e7 := hs.eql n 7 (by omega) (by omega) (by omega) (by omega)
    simp only [errAt] at c1 c2 c3 c4 c5 c6 c7
    have hm := num_more a n h8 h1 w hs
    obtain ⟨m, rfl⟩ : ∃ m, n = m + 1 := ⟨n - 1, by omega⟩
    have f1 : (m + 1 == 1) = false := by simp; omega
    have f2 : (m + 1 == 2) = false := by simp; omega
    have f3 : (m + 1 == 3) = false := by simp; omega
    have f4 : (m + 1 == 4) = false := by simp; omega
    have f5 : (m + 1 == 5) = false := by simp; omega
    have f6 : (m + 1 == 6) = false := by simp; omega
    have f7 : (m + 1 == 7) = false := by simp; omega
    rw [f1] at e1; rw [f2] at e2; rw [f3] at e3; rw [f4] at e4; rw [f5] at e5; rw [f6] at e6; rw [f7] at e7
    clear f1 f2 f3 f4 f5 f6 f7
    have HS := Lib.hid hs; clear hs
    have HM := Lib.hid hm; clear hm
    unfold errV
    go_enter Tryd.func7, Tryd.ntmps7
    go_wp2_with (go_at_call 13; refine HM.out.mono ?_; rintro e w' ⟨rfl, rfl⟩)
    go_ret
    exact ⟨rfl, rfl⟩
  · have c1 := hs.cell 1 (by omega) (by omega); have c2 := hs.cell 2 (by omega) (by omega); have c3 := hs.cell 3 (by omega) (by omega); have c4 := hs.cell 4 (by omega) (by omega)
    have c5 := hs.cell 5 (by omega) (by omega); have c6 := hs.cell 6 (by omega) (by omega); have c7 := hs.cell 7 (by omega) (by omega)
    simp only [errAt] at c1 c2 c3 c4 c5 c6 c7
    cases n with
    | zero =>
      clear hs
      unfold errV
      go_enter Tryd.func7, Tryd.ntmps7
      go_wp2
      go_ret
      exact ⟨rfl, rfl⟩
    | succ m =>
      have e1 := hs.eql (m + 1) 1 (by omega) (by omega) (by omega) (by omega); have e2 := hs.eql (m + 1) 2 (by omega) (by omega) (by omega) (by omega)
      have e3 := hs.eql (m + 1) 3 (by omega) (by omega) (by omega) (by omega); have e4 := hs.eql (m + 1) 4 (by omega) (by omega) (by omega) (by omega)
      have e5 := hs.eql (m + 1) 5 (by omega) (by omega) (by omega) (by omega); have e6 := hs.eql (m + 1) 6 (by omega) (by omega) (by omega) (by omega)
      have e7 := hs.eql (m + 1) 7 (by omega) (by omega) (by omega) (by omega)
      clear hs
      obtain rfl | rfl | rfl | rfl | rfl | rfl | rfl : m = 0 ∨ m = 1 ∨ m = 2 ∨ m = 3 ∨ m = 4 ∨ m = 5 ∨ m = 6 := by omega
      all_goals
        simp only [Nat.reduceAdd, Nat.reduceBEq] at e1 e2 e3 e4 e5 e6 e7
        unfold errV
        go_enter Tryd.func7, Tryd.ntmps7
        go_wp2
        go_ret
        exact ⟨rfl, rfl⟩
end Go.Proofs.YtpgaimpppehpcaeDoor
