/- Rows made by own, as rows of ints; rows of ints, as cases. -/
import Derived.Test.YtpgaimpppehpcabDoorTestOth
import Derived.Test.YtpgaimpppehpcabDoorTestOwn
namespace Go.Proofs.YtpgaimpppehpcabDoor
open Go.RowKit Go.Proofs.YtpgaimpppehpcabDoorW.PrintWords

theorem choose_list {α : Type} {P : Nat → α → Prop} : ∀ n, (∀ i, i < n → ∃ c, P i c) → ∃ cs : List α, cs.length = n ∧ ∀ i (h : i < cs.length), P i cs[i]
  | 0, _ => ⟨[], rfl, fun i h => by simp at h⟩
  | n + 1, h => by
    obtain ⟨cs, hl, hc⟩ := choose_list n (fun i hi => h i (by omega))
    obtain ⟨c, hP⟩ := h n (by omega)
    refine ⟨cs ++ [c], by simp [hl], fun i hi => ?_⟩
    rw [List.length_append, List.length_singleton] at hi
    rcases Nat.lt_or_ge i cs.length with h' | h'
    · rw [List.getElem_append_left h']; exact hc i h'
    · obtain rfl : i = n := by omega
      rw [List.getElem_append_right (by omega)]; simpa [hl] using hP

theorem ints_of_row {w : World} {base gp n : Nat} (h : IntRow w base gp n) : ∃ ll : List Int, ll.length = n ∧ IntsAt w (some ⟨gp, 0, none⟩) ll := by
  obtain ⟨ll, hl, hc⟩ := choose_list (P := fun j z => w.cell? ⟨gp, j, none⟩ = some (.int .i64 z)) n (fun j hj => by obtain ⟨z, hz, _⟩ := h.2 j hj; exact ⟨z, hz⟩)
  exact ⟨ll, hl, fun k hk => ⟨_, rfl, by rw [add_plain]; exact hc k hk⟩⟩

theorem cases_of_rows {w : World} {base g : Nat} {ns : List (Nat × Nat)} (h : RowsAt w base g ns) (hs : ∀ k (h : k < ns.length), ns[k].1 ≤ 2097152 ∧ ns[k].2 ≤ 2097152) :
    ∃ cs : List Case, cs.length = ns.length ∧ CasesAt w (some ⟨g, 0, none⟩) cs ∧ ∀ k (h : k < cs.length), cs[k].1.length ≤ 2097152 ∧ cs[k].2.length ≤ 2097152 := by
  obtain ⟨cs, hl, hc⟩ := choose_list (P := fun k (c : Case) => (∃ v0 v1, w.cell? ⟨g, k * 2, none⟩ = some v0 ∧ w.cell? ⟨g, k * 2 + 1, none⟩ = some v1 ∧ CaseV w c v0 v1) ∧ c.1.length ≤ 2097152 ∧ c.2.length ≤ 2097152) ns.length (fun k hk => by
    obtain ⟨gp, pc, gb, bc, h0, h1, hp, hb⟩ := h k hk
    obtain ⟨l0, e0, i0⟩ := ints_of_row hp
    obtain ⟨l1, e1, i1⟩ := ints_of_row hb
    have := hs k hk
    exact ⟨(l0, l1), ⟨_, _, h0, h1, _, pc, _, bc, by rw [e0], by rw [e1], i0, i1, by show l0.length ≤ _; omega, by show l1.length ≤ _; omega⟩, by show l0.length ≤ _; omega, by show l1.length ≤ _; omega⟩)
  refine ⟨cs, hl, fun k hk => ?_, fun k hk => (hc k hk).2⟩
  obtain ⟨⟨v0, v1, h0, h1, hv⟩, _⟩ := hc k hk
  exact ⟨_, v0, v1, rfl, by rw [add_plain]; exact h0, by rw [add_plain]; exact h1, hv⟩

theorem introw_of_R {w : World} {base n c : Nat} {A : Option Addr} {ok : Nat → Prop} {xs : List Int} (h : iK.R 3 w base ok (.slice A n c) xs) (h0 : 0 < xs.length) : ∃ gp, A = some ⟨gp, 0, none⟩ ∧ IntRow w base gp xs.length := by
  obtain ⟨gp, cap, e, hb, _, cells, hh⟩ := Kd.R_form h h0
  injection e with e1 e2 e3
  subst e1 e2 e3
  refine ⟨gp, rfl, hb, fun j hj => ?_⟩
  have := (Kd.R_celln (0 : Int) h (j : Int) (by omega) (by omega)).1
  rw [Int.toNat_natCast] at this
  exact ⟨_, this, blk_frozen hh j⟩
theorem IntRow.le {w : World} {base gp n m : Nat} (h : IntRow w base gp n) (hm : m ≤ n) : IntRow w base gp m := ⟨h.1, fun j hj => h.2 j (by omega)⟩

def lens2 (cs : List Case) : List (Nat × Nat) := cs.map fun c => (c.1.length, c.2.length)
theorem rows_of_R {w : World} {base g n cap : Nat} {ok : Nat → Prop} {cs : List Case} (h : gK.R 36 w base ok (.slice (some ⟨g, 0, none⟩) n cap) (withEx cs)) : RowsAt w base g (lens2 cs) := fun k hk => by
  have hk' : k < cs.length := by simpa [lens2] using hk
  obtain ⟨_, inner, ho, hr⟩ := h
  obtain ⟨hw, e⟩ := withEx_at hk'
  have hM := hr.2 k (.inl cs[k]) (by rw [← e]; exact List.getElem?_eq_getElem hw)
  obtain ⟨c0, c1, hcs, ⟨A, pc, rfl, hA⟩, ⟨B, bc, rfl, hB⟩⟩ := hM
  obtain ⟨gp, rfl, hp⟩ := introw_of_R hA (by simp [mk66])
  obtain ⟨gb, rfl, hb⟩ := introw_of_R hB (by simp [mk67])
  have i0 : inner[k * 2]? = some (.slice (some ⟨gp, 0, none⟩) cs[k].1.length pc) := by
    have := congrArg (fun l => l[0]?) hcs
    simpa [List.getElem?_take, List.getElem?_drop, show gK.sz = 2 from rfl] using this
  have i1 : inner[k * 2 + 1]? = some (.slice (some ⟨gb, 0, none⟩) cs[k].2.length bc) := by
    have := congrArg (fun l => l[1]?) hcs
    simpa [List.getElem?_take, List.getElem?_drop, show gK.sz = 2 from rfl] using this
  have f0 := ho.cells (g := g) (by simp [Value.ownBlock]) _ _ i0
  have f1 := ho.cells (g := g) (by simp [Value.ownBlock]) _ _ i1
  rw [add_plain] at f0 f1
  refine ⟨gp, pc, gb, bc, ?_, ?_, ?_, ?_⟩
  · simpa [lens2] using f0
  · simpa [lens2] using f1
  · exact hp.le (by simp [lens2])
  · exact hb.le (by simp [lens2])
end Go.Proofs.YtpgaimpppehpcabDoor
