/- append to a row of the call's own: in its place, or in a new row, the elder one as it was. -/
import Derived.Test.YtliimcemjjhmaaaDoorWWords
import Derived.ArgAppend
import Derived.OwnWalk
import Derived.Deep.Onto
import Derived.Test.YtliimcemjjhmaaaDoorWKept
namespace Go.Proofs.YtliimcemjjhmaaaDoor
open Go.RowKit Go.Proofs.YtliimcemjjhmaaaDoorW.PrintWords

theorem grown_none {w w1 : World} (h : w.grownBy w1 none) (row : Option Nat) : w.grownBy w1 row := ⟨h.os, h.tape, h.output, h.size, fun i hi _ => h.block i hi (by simp)⟩
section
variable {P : Program} {ops : Array Oper} {rest : List Oper} {o : Oper} {a : Act} {Q : Exit → Act → World → Prop} {α : Type}
theorem R_append_two (d : Kd α) {w0 W : World} (base : Nat) (hgd : o.guard = none) (s x : Operand) (t e : TypeId) (z : Value) (bytes : Nat)
    (ho : o.op = .call { callee := .builtin .append, args := #[s, x], argTypes := #[t, t] })
    (ht : P.underlying t = some (.slice e)) (hinfo : (P.info? e).map (fun i => (i.zero, i.size, i.bytes)) = some (some z, d.sz, bytes)) (hz : z.cells.size = d.sz) (hs0 : 0 < d.sz) (hb0 : 0 < bytes)
    (v : Value) (xs : List α) (p : α) (cs : List Value) (ok okp : Nat → Prop) (hs : a.eval s = v) (hx : a.eval x = .slice (some ⟨W.heap.size, 0, none⟩) 1 1) (hp : d.M W base okp p cs) (hokp : ∀ k, okp k → ok k ∧ some k ≠ v.ownBlock) (hfresh : ∀ k, W.heap.size ≤ k → ok k)
    (HO : d.R e W base ok v xs) (HB : Below base w0 W) (hbase : base ≤ W.heap.size) (hl : (xs.length + 1) * bytes ≤ 140737488355328)
    (h : ∀ v1 w1, d.R e w1 base ok v1 (xs ++ [p]) → Below base w0 w1 → ((W.grownBy w1 v.ownBlock ∧ ∃ g c, v = .slice (some ⟨g, 0, none⟩) xs.length c ∧ v1 = .slice (some ⟨g, 0, none⟩) (xs.length + 1) c) ∨ (W.grownBy w1 none ∧ ∃ b, v1.ownBlock = some b ∧ W.heap.size ≤ b)) → wpList P ops Q rest (a.put o.dst v1) w1) :
    wpList P ops Q (o :: rest) a (W.alloc (.cells cs.toArray e)) := by
  obtain ⟨h0, inner, hown, hr⟩ := HO
  obtain ⟨i0, hi, hzz⟩ := Option.map_eq_some_iff.1 hinfo
  simp only [Prod.mk.injEq] at hzz
  obtain ⟨hz0, hz1, hz2⟩ := hzz
  have hlen : xs.length + 1 ≤ 140737488355328 := Nat.le_trans (Nat.le_mul_of_pos_right _ hb0) hl
  have hcl : cs.length = d.sz := d.K_len (d.K_of_M hp)
  have hone := d.K_one (d.K_of_M hp)
  have hnews : ∀ j u, cs[j]? = some u → (W.alloc (.cells cs.toArray e)).cell? ((⟨W.heap.size, 0, none⟩ : Addr).add j) = some u := by
    simpa using World.news_of_block (cs := cs.toArray) (t := e) (fr := (0, 0)) (heap_alloc_new W (.cells cs.toArray e))
  have hlb := own_lt hown
  rcases hown.2 with ⟨hv, hn⟩ | ⟨g, cap, cur, hv, hgb, hh, hrest⟩
  · have hin : inner = [] := List.eq_nil_of_length_eq_zero (by have := hown.1; rw [hn] at this; simpa using this)
    refine wpList_append_grows (W.alloc (.cells cs.toArray e)) hgd s x t ho e i0 z d.sz bytes ht hi hz0 hz1 hz2 hz hs0 none xs.length 0 inner (by rw [hs, hv, hn]) (fun _ => ⟨hn, rfl⟩) hown.1 (fun b hb => by cases hb) ⟨W.heap.size, 0, none⟩ 1 1 cs hx (by rw [hcl]; simp) hnews hone (by omega) (by simp only [maxLen]; omega) hl ?_
    intro v1 w1 hown1 hg1
    have hg2 := World.grownBy.trans (World.grownBy_alloc W (.cells cs.toArray e) none) hg1
    obtain ⟨b, hb⟩ : ∃ b, v1.ownBlock = some b := by
      obtain ⟨g, cap, e1, _⟩ := hown1.form (by omega)
      exact ⟨g, by rw [e1]; rfl⟩
    have hbl := own_base hown1 b hb
    rw [World.size_alloc] at hbl
    refine h v1 w1 (Kd.R_appended h0 hr hp hokp hfresh (hown1.mono (by rw [World.size_alloc]; omega)) (grown_none hg2 _) (.inr ⟨b, hb, by omega⟩)) ((HB.alloc hbase _).grown hg1 (by rw [World.size_alloc]; omega) (fun k e => by cases e)) (.inr ⟨hg2, b, hb, by omega⟩)
  · subst hv
    by_cases hroom : xs.length + 1 ≤ cap
    · refine wpList_append_fits (W.alloc (.cells cs.toArray e)) hgd s x t ho base e i0 d.sz ht hi hz1 g xs.length cap inner hs (hown.alloc _) ⟨W.heap.size, 0, none⟩ 1 1 cs hx (by rw [hcl]; simp) hnews hone hroom ?_
      intro w1 hown1 hg1
      have hg2 := World.grownBy.trans (World.grownBy_alloc W (.cells cs.toArray e) (some g)) hg1
      exact h _ w1 (Kd.R_appended h0 hr hp hokp hfresh hown1 hg2 (.inl rfl)) ((HB.alloc hbase _).grown hg1 (by rw [World.size_alloc]; omega) (fun k e => by injection e with e; omega)) (.inl ⟨hg2, g, cap, rfl, rfl⟩)
    · refine wpList_append_grows (W.alloc (.cells cs.toArray e)) hgd s x t ho e i0 z d.sz bytes ht hi hz0 hz1 hz2 hz hs0 (some ⟨g, 0, none⟩) xs.length cap inner hs (fun e => by cases e) hown.1 (fun b hb => by injection hb with hb; subst hb; exact (hown.alloc _).cells rfl) ⟨W.heap.size, 0, none⟩ 1 1 cs hx (by rw [hcl]; simp) hnews hone (by omega) (by simp only [maxLen]; omega) hl ?_
      intro v1 w1 hown1 hg1
      have hg2 := World.grownBy.trans (World.grownBy_alloc W (.cells cs.toArray e) none) hg1
      obtain ⟨b, hb⟩ : ∃ b, v1.ownBlock = some b := by
        obtain ⟨g, cap, e1, _⟩ := hown1.form (by omega)
        exact ⟨g, by rw [e1]; rfl⟩
      have hbl := own_base hown1 b hb
      rw [World.size_alloc] at hbl
      refine h v1 w1 (Kd.R_appended h0 hr hp hokp hfresh (hown1.mono (by rw [World.size_alloc]; omega)) (grown_none hg2 _) (.inr ⟨b, hb, by omega⟩)) ((HB.alloc hbase _).grown hg1 (by rw [World.size_alloc]; omega) (fun k e => by cases e)) (.inr ⟨hg2, b, hb, by omega⟩)
end

/-- While a row is grown: what has come of it (v, xs), and that the elder one (u, l) reads as it did. -/
structure Grw {α : Type} (d : Kd α) (e : Nat) (w0 w wr : World) (u v : Value) (l xs : List α) : Prop where
  r : d.R e wr w0.heap.size (fun _ => True) v xs
  c : (∃ g c, u = .slice (some ⟨g, 0, none⟩) l.length c ∧ v = .slice (some ⟨g, 0, none⟩) xs.length c ∧ ∃ m, xs = l ++ m) ∨ d.R e wr w0.heap.size (fun k => some k ≠ v.ownBlock) u l
  own : v.ownBlock = u.ownBlock ∨ ∃ b, v.ownBlock = some b ∧ w.heap.size ≤ b
  kept : Kept w wr (fun k => some k = u.ownBlock)
  below : Below w0.heap.size w0 wr
theorem Grw.start {α : Type} {d : Kd α} {e : Nat} {w0 w : World} {u : Value} {l : List α} (h : d.R e w w0.heap.size (fun _ => True) u l) (hb : Below w0.heap.size w0 w) : Grw d e w0 w w u u l l := by
  refine ⟨h, ?_, .inl rfl, Kept.refl _ _, hb⟩
  rcases Nat.eq_zero_or_pos l.length with h0 | h0
  · obtain ⟨inner, ho⟩ := Kd.R_own h
    rcases ho.2 with ⟨hv, hn⟩ | ⟨g, cap, cur, hv, _⟩
    · obtain rfl := List.length_eq_zero_iff.1 h0
      rw [hv]; exact .inr (Kd.R_nil _ _ _ _ _)
    · exact .inl ⟨g, cap, hv, hv, [], by simp⟩
  · obtain ⟨g, cap, hv, _⟩ := Kd.R_form h h0
    exact .inl ⟨g, cap, hv, hv, [], by simp⟩
theorem Grw.u {α : Type} {d : Kd α} {e : Nat} {w0 w wr : World} {u v : Value} {l xs : List α} (h : Grw d e w0 w wr u v l xs) : d.R e wr w0.heap.size (fun _ => True) u l := by
  rcases h.c with ⟨g, c, hu, hv, m, hx⟩ | hc
  · have := h.r
    rw [hv] at this
    have h2 := Kd.R_take (m := l.length) this (by rw [hx, List.length_append]; omega)
    rw [hx, List.take_left] at h2
    rw [hu]; exact h2
  · exact Kd.R_mono hc (fun _ _ => trivial)
theorem Grw.step {α : Type} {d : Kd α} {e : Nat} {w0 w wr w1 : World} {u v v1 : Value} {l xs : List α} {p : α} (h : Grw d e w0 w wr u v l xs) (hr : d.R e w1 w0.heap.size (fun _ => True) v1 (xs ++ [p])) (hb : Below w0.heap.size w0 w1)
    (hat : (wr.grownBy w1 v.ownBlock ∧ ∃ g c, v = .slice (some ⟨g, 0, none⟩) xs.length c ∧ v1 = .slice (some ⟨g, 0, none⟩) (xs.length + 1) c) ∨ (wr.grownBy w1 none ∧ ∃ b, v1.ownBlock = some b ∧ wr.heap.size ≤ b)) : Grw d e w0 w w1 u v1 l (xs ++ [p]) := by
  have hu := h.u
  rcases hat with ⟨hg, g', c', hv', hv1⟩ | ⟨hg, b, hb1, hle⟩
  · have ho : v1.ownBlock = v.ownBlock := by rw [hv1, hv']; rfl
    refine ⟨hr, ?_, by rw [ho]; exact h.own, Kept.of_grown hg h.kept (fun k hk => ?_), hb⟩
    · rcases h.c with ⟨g, c, hu, hv, m, hx⟩ | hc
      · rw [hv] at hv'
        injection hv' with e1 _ e3
        refine .inl ⟨g, c, hu, ?_, m ++ [p], by rw [hx, List.append_assoc]⟩
        rw [hv1, ← e1, ← e3, List.length_append, List.length_singleton]
      · rw [ho]; exact .inr (Kd.R_grown hc hg (fun k hk => hk))
    · rcases h.own with e | ⟨b, e, hle⟩
      · exact .inl (hk.symm.trans e)
      · rw [e] at hk; injection hk with hk; exact .inr (by omega)
  · refine ⟨hr, .inr ?_, .inr ⟨b, hb1, Nat.le_trans h.kept.1 hle⟩, Kept.of_grown hg h.kept (fun k hk => by cases hk), hb⟩
    refine Kd.R_grown (Kd.R_mono (Kd.R_bound hu) (fun k hk => ?_)) hg (fun k _ => by simp)
    rw [hb1]; intro e; injection e with e; have := hk.2.2.1; omega
/-- A row of cells alone: its blocks are its own one. -/
theorem R_self {α : Type} {enc : α → Value} {h1 : ∀ x, (enc x).oneCell' = true} {e : Nat} {w : World} {base : Nat} {ok : Nat → Prop} {v : Value} {xs : List α} (h : (Kd.scalar enc h1).R e w base ok v xs) : (Kd.scalar enc h1).R e w base (fun k => some k = v.ownBlock) v xs := ⟨fun _ hk => hk.symm, h.2⟩
end Go.Proofs.YtliimcemjjhmaaaDoor
