/- BatchJoins: what the printed functions answer; two tallies' lengths joined: by insertion, and by a map's sorted keys. -/
import Derived.Test.YtpgaimpppehpcadPBatchJoinsx13
import Derived.Test.YtpgaimpppehpcadPBatchJoinsx11
import Derived.Maps.OwnOps
import Derived.Lib.SlKeysI
import Derived.Lib.Hide
namespace Go.Proofs.Ytpgaimpppehpcad
open Go.RowKit Go.Proofs.YtpgaimpppehpcadW.PrintWords Go.Proofs.Ytpgaimpppehpcad.PBatchJoins Go.Maps

theorem rd_at {l : List S32} {i : Nat} (h : i < l.length) : rd_T32 l (i : Int) = l[i] := by
  unfold rd_T32; rw [Int.toNat_natCast, List.getD_eq_getElem?_getD, List.getElem?_eq_getElem h]; rfl
theorem w64_succ {i n : Nat} (h : i < n) (hn : n ≤ 1099511627776) : wrap64 ((i : Int) + 1) = ((i + 1 : Nat) : Int) := by unfold wrap64; omega

def goL : List S32 → Bool → S32 → List S32
  | [], d, x => if d = true then [] else [x]
  | y :: r, d, x => if y.f0 = x.f0 then ⟨x.f0, wrap64 (y.f1 + x.f1)⟩ :: goL r true x else if d = true then y :: goL r true x else if x.f0 < y.f0 then x :: y :: goL r true x else y :: goL r false x
def insL : List S32 → S32 → List S32
  | [], x => [x]
  | y :: r, x => if y.f0 = x.f0 then ⟨x.f0, wrap64 (y.f1 + x.f1)⟩ :: r else if x.f0 < y.f0 then x :: y :: r else y :: insL r x
abbrev SortedL (l : List S32) : Prop := l.Pairwise (fun a b => a.f0 < b.f0)
theorem goL_true {l : List S32} {x : S32} (h : ∀ y ∈ l, y.f0 ≠ x.f0) : goL l true x = l := by
  induction l with
  | nil => rfl
  | cons y r ih => rw [goL, if_neg (h y List.mem_cons_self), if_pos rfl, ih (fun z hz => h z (List.mem_cons_of_mem _ hz))]
theorem goL_ins {l : List S32} {x : S32} (hs : SortedL l) : goL l false x = insL l x := by
  induction l with
  | nil => rfl
  | cons y r ih =>
    obtain ⟨hy, hr⟩ := List.pairwise_cons.1 hs
    rw [goL, insL]
    by_cases h : y.f0 = x.f0
    · rw [if_pos h, if_pos h, goL_true (fun z hz => by have := hy z hz; omega)]
    · rw [if_neg h, if_neg h, if_neg (by decide)]
      by_cases h2 : x.f0 < y.f0
      · rw [if_pos h2, if_pos h2, goL_true (fun z hz => by have := hy z hz; omega)]
      · rw [if_neg h2, if_neg h2, ih hr]

theorem put_l0 (l : List S32) (hl : l.length ≤ 1099511627776) (x : S32) : ∀ (d i : Nat) (k : Nat) (out : List S32) (b : Bool), i + d = l.length → d < k → out.length ≤ i + 1 → (b = false → out.length ≤ i) →
    caesuraref29_put.l0 k l out b (i : Int) x.f0 x.f1 = some (out ++ goL (l.drop i) b x) := by
  intro d
  induction d with
  | zero =>
    intro i k out b hd hk h1 h2
    obtain ⟨k, rfl⟩ : ∃ m, k = m + 1 := ⟨k - 1, by omega⟩
    simp only [caesuraref29_put.l0]
    rw [if_neg (by omega), List.drop_eq_nil_of_le (by omega), goL]
    cases b with
    | true => simp
    | false => simp only [Bool.false_eq_true, ↓reduceIte]; rw [if_pos (by omega)]
  | succ d ih =>
    intro i k out b hd hk h1 h2
    obtain ⟨k, rfl⟩ : ∃ m, k = m + 1 := ⟨k - 1, by omega⟩
    have hi : i < l.length := by omega
    simp only [caesuraref29_put.l0]
    rw [if_pos (by omega), if_pos (by omega), rd_at hi, w64_succ hi hl, List.drop_eq_getElem_cons hi, goL]
    by_cases h : l[i].f0 = x.f0
    · rw [if_pos h, if_pos h, if_pos (by omega), ih (i + 1) k _ true (by omega) (by omega) (by simp; omega) (fun h => by cases h)]
      simp
    · rw [if_neg h, if_neg h]
      cases b with
      | true =>
        rw [if_pos rfl, if_pos rfl, if_pos (by omega), ih (i + 1) k _ true (by omega) (by omega) (by simp; omega) (fun h => by cases h)]
        simp
      | false =>
        have := h2 rfl
        simp only [Bool.false_eq_true, ↓reduceIte]
        by_cases h3 : x.f0 < l[i].f0
        · rw [if_pos h3, if_pos h3, if_pos (by omega)]
          simp only [Option.bind_some]
          rw [if_pos (by simp; omega), ih (i + 1) k _ true (by omega) (by omega) (by simp; omega) (fun h => by cases h)]
          simp
        · rw [if_neg h3, if_neg h3, if_pos (by omega), ih (i + 1) k _ false (by omega) (by omega) (by simp; omega) (fun _ => by simp; omega)]
          simp
theorem put_f (l : List S32) (hl : l.length ≤ 1099511627776) (x : S32) (k : Nat) (hk : l.length < k) : caesuraref29_put.f k l x.f0 x.f1 = some (goL l false x) := by
  unfold caesuraref29_put.f
  have := put_l0 l hl x l.length 0 k [] false (by omega) hk (by simp) (fun _ => by simp)
  simpa using this

theorem goL_len (x : S32) : ∀ (l : List S32) (b : Bool), (goL l b x).length ≤ l.length + (if b = true then 0 else 1)
  | [], b => by cases b <;> simp [goL]
  | y :: r, b => by
    have h1 := goL_len x r true
    have h2 := goL_len x r false
    simp at h1 h2
    cases b <;> simp [goL] <;> (repeat' split) <;> simp <;> omega
def foldG (l : List S32) (acc : List S32) : List S32 := l.foldl (fun a x => goL a false x) acc
theorem foldG_len (l : List S32) : ∀ acc, (foldG l acc).length ≤ acc.length + l.length := by
  induction l with
  | nil => intro acc; simp [foldG]
  | cons x r ih =>
    intro acc
    have := ih (goL acc false x)
    have h2 := goL_len x acc false
    simp at h2
    simp [foldG] at this ⊢; omega

theorem join_l1 (x0 x1 x2 x3 y0 y1 y2 y3 : Int) (l : List S32) (hl : l.length ≤ 1073741824) : ∀ (d i k : Nat) (acc : List S32), i + d = l.length → d + acc.length + d + 2 < k → acc.length + d ≤ 2147483648 →
    caesuraref29_Join.l1 k (i : Int) x0 x1 x2 x3 l y0 y1 y2 y3 acc = some (y0, y1, y2, y3, foldG (l.drop i) acc) := by
  intro d
  induction d with
  | zero =>
    intro i k acc hd hk ha
    obtain ⟨k, rfl⟩ : ∃ m, k = m + 1 := ⟨k - 1, by omega⟩
    simp only [caesuraref29_Join.l1]
    rw [if_neg (by omega), List.drop_eq_nil_of_le (by omega)]; rfl
  | succ d ih =>
    intro i k acc hd hk ha
    obtain ⟨k, rfl⟩ : ∃ m, k = m + 1 := ⟨k - 1, by omega⟩
    have hi : i < l.length := by omega
    have hg := goL_len l[i] acc false
    simp at hg
    simp only [caesuraref29_Join.l1]
    rw [if_pos (by omega), if_pos (by omega), rd_at hi, w64_succ hi (by omega), put_f acc (by omega) l[i] k (by omega)]
    simp only [Option.bind_some]
    rw [ih (i + 1) k (goL acc false l[i]) (by omega) (by omega) (by omega), List.drop_eq_getElem_cons hi]
    rfl
theorem join_l0 (a0 a1 a2 a3 x0 x1 x2 x3 y0 y1 y2 y3 : Int) (l m : List S32) (hl : l.length ≤ 1073741824) (hm : m.length ≤ 1073741824) : ∀ (d i k : Nat) (acc : List S32), i + d = l.length → 2 * d + 2 * m.length + acc.length + 3 < k → acc.length ≤ i →
    caesuraref29_Join.l0 k (i : Int) a0 a1 a2 a3 l x0 x1 x2 x3 m y0 y1 y2 y3 acc = some (y0, y1, y2, y3, foldG m (foldG (l.drop i) acc)) := by
  intro d
  induction d with
  | zero =>
    intro i k acc hd hk ha
    obtain ⟨k, rfl⟩ : ∃ m, k = m + 1 := ⟨k - 1, by omega⟩
    simp only [caesuraref29_Join.l0]
    rw [if_neg (by omega), List.drop_eq_nil_of_le (by omega)]
    have := join_l1 x0 x1 x2 x3 y0 y1 y2 y3 m hm m.length 0 k acc (by omega) (by omega) (by omega)
    rw [show foldG [] acc = acc from rfl]
    simpa using this
  | succ d ih =>
    intro i k acc hd hk ha
    obtain ⟨k, rfl⟩ : ∃ m, k = m + 1 := ⟨k - 1, by omega⟩
    have hi : i < l.length := by omega
    have hg := goL_len l[i] acc false
    simp at hg
    simp only [caesuraref29_Join.l0]
    rw [if_pos (by omega), if_pos (by omega), rd_at hi, w64_succ hi (by omega), put_f acc (by omega) l[i] k (by omega)]
    simp only [Option.bind_some]
    rw [ih (i + 1) k (goL acc false l[i]) (by omega) (by omega) (by omega), List.drop_eq_getElem_cons hi]
    rfl
def joinG (l m : List S32) : List S32 := foldG m (foldG l [])
theorem join_f (a0 a1 a2 a3 b0 b1 b2 b3 : Int) (l m : List S32) (hl : l.length ≤ 1073741824) (hm : m.length ≤ 1073741824) :
    caesuraref29_Join.f (2 * l.length + 2 * m.length + 4) a0 a1 a2 a3 l b0 b1 b2 b3 m = some (wrap64 (a0 + b0), wrap64 (a1 + b1), wrap64 (a2 + b2), wrap64 (a3 + b3), joinG l m) := by
  unfold caesuraref29_Join.f
  have := join_l0 a0 a1 a2 a3 b0 b1 b2 b3 (wrap64 (a0 + b0)) (wrap64 (a1 + b1)) (wrap64 (a2 + b2)) (wrap64 (a3 + b3)) l m hl hm l.length 0 (2 * l.length + 2 * m.length + 4) [] (by omega) (by simp) (by simp)
  simpa [joinG] using this

theorem same_l0 (a0 a1 a2 a3 : Int) (l : List S32) (hl : l.length ≤ 1099511627776) : ∀ (d i k : Nat), i + d = l.length → d < k → caesuraref0_SameTally.l0 k (i : Int) a0 a1 a2 a3 l a0 a1 a2 a3 l = some true := by
  intro d
  induction d with
  | zero =>
    intro i k hd hk
    obtain ⟨k, rfl⟩ : ∃ m, k = m + 1 := ⟨k - 1, by omega⟩
    simp only [caesuraref0_SameTally.l0]
    rw [if_neg (by omega)]
  | succ d ih =>
    intro i k hd hk
    obtain ⟨k, rfl⟩ : ∃ m, k = m + 1 := ⟨k - 1, by omega⟩
    simp only [caesuraref0_SameTally.l0]
    rw [if_pos (by omega), if_pos (by omega), if_pos (by omega), if_neg (by simp), w64_succ (by omega) hl, ih (i + 1) k (by omega) (by omega)]
theorem same_f (a0 a1 a2 a3 : Int) (l : List S32) (hl : l.length ≤ 1099511627776) : caesuraref0_SameTally.f (l.length + 2) a0 a1 a2 a3 l a0 a1 a2 a3 l = some true := by
  unfold caesuraref0_SameTally.f
  rw [if_pos rfl, if_pos rfl, if_pos rfl, if_pos rfl]
  simp only [caesuraref0_SameTally.j0]
  rw [if_neg (by simp)]
  exact same_l0 a0 a1 a2 a3 l hl l.length 0 _ (by omega) (by omega)

theorem fill_l0 (m : Int) : ∀ (d i k : Nat) (l : List S32), i + d = l.length → l.length ≤ 1099511627776 → d < k → (∀ j (h : j < l.length), j < i → l[j] = ⟨m, 0⟩) →
    ∃ r, caesuralaw29_fill.l0 k l m (i : Int) = some r ∧ r.length = l.length ∧ ∀ j (h : j < r.length), r[j] = ⟨m, 0⟩ := by
  intro d
  induction d with
  | zero =>
    intro i k l hd hl hk h
    obtain ⟨k, rfl⟩ : ∃ m, k = m + 1 := ⟨k - 1, by omega⟩
    simp only [caesuralaw29_fill.l0]
    rw [if_neg (by omega)]
    exact ⟨l, rfl, rfl, fun j hj => h j hj (by omega)⟩
  | succ d ih =>
    intro i k l hd hl hk h
    obtain ⟨k, rfl⟩ : ∃ m, k = m + 1 := ⟨k - 1, by omega⟩
    simp only [caesuralaw29_fill.l0]
    rw [if_pos (by omega), if_pos (by omega), w64_succ (by omega) hl, Int.toNat_natCast]
    obtain ⟨r, h1, h2, h3⟩ := ih (i + 1) k (l.set i ⟨m, 0⟩) (by simp; omega) (by simp; omega) (by omega) (fun j hj hji => by
      rw [List.getElem_set]
      split
      · rfl
      · exact h j (by simpa using hj) (by omega))
    exact ⟨r, h1, by simpa using h2, h3⟩
theorem fill_f (m : Int) (l : List S32) (hl : l.length ≤ 1099511627776) : ∃ r, caesuralaw29_fill.f (l.length + 1) l m = some r ∧ r.length = l.length ∧ ∀ j (h : j < r.length), r[j] = ⟨m, 0⟩ :=
  fill_l0 m l.length 0 _ l (by omega) hl (by omega) (fun j _ h => by omega)
theorem grown_l0 (m : Int) : ∀ (d i k : Nat) (l : List S32), i + d = 64 → l.length ≤ 1099511627776 + i → d < k → caesuralaw29_grown.l0 k l m (i : Int) = some (l ++ List.replicate d ⟨m, 0⟩) := by
  intro d
  induction d with
  | zero =>
    intro i k l hd hl hk
    obtain ⟨k, rfl⟩ : ∃ m, k = m + 1 := ⟨k - 1, by omega⟩
    simp only [caesuralaw29_grown.l0]
    rw [if_neg (by omega)]; simp
  | succ d ih =>
    intro i k l hd hl hk
    obtain ⟨k, rfl⟩ : ∃ m, k = m + 1 := ⟨k - 1, by omega⟩
    simp only [caesuralaw29_grown.l0]
    rw [if_pos (by omega), if_pos (by omega), w64_succ (n := 64) (by omega) (by omega), ih (i + 1) k _ (by omega) (by simp; omega) (by omega), List.replicate_succ]
    simp
theorem grown_f (m : Int) (l : List S32) (hl : l.length ≤ 1099511627776) : caesuralaw29_grown.f 65 l m = some (l ++ List.replicate 64 ⟨m, 0⟩) :=
  grown_l0 m 64 0 _ l (by omega) (by omega) (by omega)
theorem full_l0 (m : Int) (l : List S32) (hl : l.length ≤ 1099511627776) (h : ∀ j (hj : j < l.length), l[j].f0 = m) : ∀ (d i k : Nat), i + d = l.length → d < k → caesuralaw29_full.l0 k l m (i : Int) = some true := by
  intro d
  induction d with
  | zero =>
    intro i k hd hk
    obtain ⟨k, rfl⟩ : ∃ m, k = m + 1 := ⟨k - 1, by omega⟩
    simp only [caesuralaw29_full.l0]
    rw [if_neg (by omega)]
  | succ d ih =>
    intro i k hd hk
    obtain ⟨k, rfl⟩ : ∃ m, k = m + 1 := ⟨k - 1, by omega⟩
    have hi : i < l.length := by omega
    simp only [caesuralaw29_full.l0]
    rw [if_pos (by omega), if_pos (by omega), rd_at hi, if_pos (h i hi), w64_succ hi hl, ih (i + 1) k (by omega) (by omega)]
theorem full_f (m : Int) (l : List S32) (hl : l.length ≤ 1099511627776) (h : ∀ j (hj : j < l.length), l[j].f0 = m) : caesuralaw29_full.f (l.length + 1) l m = some true :=
  full_l0 m l hl h l.length 0 _ (by omega) (by omega)

/-! By a map. -/
def lk : List S32 → Int → Int
  | [], _ => 0
  | y :: r, k => if y.f0 = k then y.f1 else lk r k
theorem lk_none {l : List S32} {k : Int} (h : ∀ y ∈ l, y.f0 ≠ k) : lk l k = 0 := by
  induction l with
  | nil => rfl
  | cons y r ih => rw [lk, if_neg (h y List.mem_cons_self), ih (fun z hz => h z (List.mem_cons_of_mem _ hz))]
def InR (n : Int) : Prop := -9223372036854775808 ≤ n ∧ n ≤ 9223372036854775807
theorem wrap_in {n : Int} (h : InR n) : wrap64 (0 + n) = n := by unfold InR at h; unfold wrap64; omega
theorem ins_mem {l : List S32} {x : S32} {k : Int} : (∃ z ∈ insL l x, z.f0 = k) ↔ k = x.f0 ∨ ∃ z ∈ l, z.f0 = k := by
  induction l with
  | nil => simp [insL, eq_comm]
  | cons y r ih =>
    rw [insL]
    by_cases h : y.f0 = x.f0
    · rw [if_pos h]; simp [h, eq_comm]
    · rw [if_neg h]
      by_cases h2 : x.f0 < y.f0
      · rw [if_pos h2]; simp [eq_comm]
      · rw [if_neg h2]
        constructor
        · rintro ⟨z, hz, rfl⟩
          rcases List.mem_cons.1 hz with rfl | hz
          · exact .inr ⟨_, List.mem_cons_self, rfl⟩
          · rcases ih.1 ⟨z, hz, rfl⟩ with e | ⟨u, hu, e⟩
            · exact .inl e
            · exact .inr ⟨u, List.mem_cons_of_mem _ hu, e⟩
        · rintro (e | ⟨u, hu, e⟩)
          · obtain ⟨z, hz, e⟩ := ih.2 (.inl e); exact ⟨z, List.mem_cons_of_mem _ hz, e⟩
          · rcases List.mem_cons.1 hu with rfl | hu
            · exact ⟨_, List.mem_cons_self, e⟩
            · obtain ⟨z, hz, e⟩ := ih.2 (.inr ⟨u, hu, e⟩); exact ⟨z, List.mem_cons_of_mem _ hz, e⟩
theorem ins_sorted {l : List S32} {x : S32} (hs : SortedL l) : SortedL (insL l x) := by
  induction l with
  | nil => simp [insL]
  | cons y r ih =>
    obtain ⟨hy, hr⟩ := List.pairwise_cons.1 hs
    rw [insL]
    by_cases h : y.f0 = x.f0
    · rw [if_pos h]; exact List.pairwise_cons.2 ⟨fun z hz => by have := hy z hz; simp only; omega, hr⟩
    · rw [if_neg h]
      by_cases h2 : x.f0 < y.f0
      · rw [if_pos h2]
        refine List.pairwise_cons.2 ⟨fun z hz => ?_, hs⟩
        rcases List.mem_cons.1 hz with rfl | hz
        · exact h2
        · have := hy z hz; omega
      · rw [if_neg h2]
        refine List.pairwise_cons.2 ⟨fun z hz => ?_, ih hr⟩
        rcases (ins_mem (k := z.f0)).1 ⟨z, hz, rfl⟩ with e | ⟨u, hu, e⟩
        · omega
        · have := hy u hu; omega
theorem ins_lk {l : List S32} {x : S32} (hs : SortedL l) (hx : InR x.f1) (k : Int) : lk (insL l x) k = if k = x.f0 then wrap64 (lk l k + x.f1) else lk l k := by
  induction l with
  | nil =>
    simp only [insL, lk]
    by_cases h : x.f0 = k
    · rw [if_pos h, if_pos h.symm, wrap_in hx]
    · rw [if_neg h, if_neg (fun e => h e.symm)]
  | cons y r ih =>
    obtain ⟨hy, hr⟩ := List.pairwise_cons.1 hs
    rw [insL]
    by_cases h : y.f0 = x.f0
    · rw [if_pos h]
      simp only [lk]
      by_cases hk : x.f0 = k
      · rw [if_pos hk, if_pos hk.symm, if_pos (h.trans hk)]
      · rw [if_neg hk, if_neg (fun e => hk e.symm), if_neg (fun e => hk (h.symm.trans e))]
    · rw [if_neg h]
      by_cases h2 : x.f0 < y.f0
      · rw [if_pos h2]
        by_cases hk : x.f0 = k
        · rw [lk, if_pos hk, if_pos hk.symm, lk_none, wrap_in hx]
          intro z hz
          rcases List.mem_cons.1 hz with rfl | hz
          · omega
          · have := hy z hz; omega
        · rw [lk, if_neg hk, if_neg (fun e => hk e.symm)]
      · rw [if_neg h2]
        simp only [lk]
        by_cases hk : y.f0 = k
        · rw [if_pos hk, if_pos hk, if_neg (by omega)]
        · rw [if_neg hk, if_neg hk, ih hr]
theorem lk_self {l : List S32} (hs : SortedL l) : l = (l.map (·.f0)).map (fun k => (⟨k, lk l k⟩ : S32)) := by
  induction l with
  | nil => rfl
  | cons y r ih =>
    obtain ⟨hy, hr⟩ := List.pairwise_cons.1 hs
    rw [List.map_cons, List.map_cons]
    congr 1
    · simp [lk]
    · rw [List.map_map]
      conv => lhs; rw [ih hr]
      rw [List.map_map]
      refine List.map_congr_left (fun z hz => ?_)
      have := hy z hz
      simp only [Function.comp, lk]
      rw [if_neg (by omega)]

abbrev Dm := DataW Unit
def valD (D : Dm) (k : Int) : Int := match D.atKey (.int .i64 k) (.lit (.int .i64 0)) with
  | .lit (.int _ c) => c
  | _ => 0
def stepD (D : Dm) (x : S32) : Dm := D.put (.int .i64 x.f0) (.lit (.int .i64 (wrap64 (valD D x.f0 + x.f1))))
def mapD (l : List S32) : Dm := l.foldl stepD (.map [])
theorem mapD_snoc (l : List S32) (x : S32) : mapD (l ++ [x]) = stepD (mapD l) x := by simp [mapD]
theorem isKey (k : Int) : WideAt.IsKeyLit (.int .i64 k) := by simp [WideAt.IsKeyLit]
theorem snoc_ind {α : Type} {P : List α → Prop} (h0 : P []) (h1 : ∀ l x, P l → P (l ++ [x])) (l : List α) : P l := by
  have : ∀ n (l : List α), l.length = n → P l := by
    intro n
    induction n with
    | zero => intro l hl; rw [List.length_eq_zero_iff.1 hl]; exact h0
    | succ n ih =>
      intro l hl
      have hne : l ≠ [] := by intro e; rw [e] at hl; simp at hl
      rw [← List.dropLast_concat_getLast hne]
      exact h1 _ _ (ih _ (by simp [hl]))
  exact this _ l rfl
theorem mapD_isMap (l : List S32) : IsMap (mapD l) := by
  induction l using snoc_ind with
  | h0 => exact isMap_empty
  | h1 l x ih => rw [mapD_snoc]; exact ih.put _ _
theorem foldG_snoc (l : List S32) (x : S32) : foldG (l ++ [x]) [] = goL (foldG l []) false x := by simp [foldG]
/-- Both ways at once. -/
theorem both (l : List S32) (hl : ∀ x ∈ l, InR x.f1) : SortedL (foldG l []) ∧ (∀ k, (∃ z ∈ foldG l [], z.f0 = k) ↔ has (mapD l) (.int .i64 k) = true) ∧ ∀ k, lk (foldG l []) k = valD (mapD l) k := by
  induction l using snoc_ind with
  | h0 => exact ⟨List.Pairwise.nil, fun k => by simp [foldG, mapD, has], fun k => by simp [foldG, lk, valD, mapD, DataW.atKey]⟩
  | h1 l x ih =>
    obtain ⟨h1, h2, h3⟩ := ih (fun y hy => hl y (List.mem_append_left _ hy))
    have hx := hl x (by simp)
    rw [foldG_snoc, goL_ins h1, mapD_snoc]
    refine ⟨ins_sorted h1, fun k => ?_, fun k => ?_⟩
    · rw [ins_mem, h2]
      by_cases hk : k = x.f0
      · subst hk
        have := has_put_same (mapD_isMap l) (isKey x.f0) (.lit (.int .i64 (wrap64 (valD (mapD l) x.f0 + x.f1))))
        simp [stepD, this]
      · have := has_put_other (D := mapD l) (k := .int .i64 x.f0) (k' := .int .i64 k) (by simpa using hk) (.lit (.int .i64 (wrap64 (valD (mapD l) x.f0 + x.f1))))
        simp [stepD, this, hk]
    · rw [ins_lk h1 hx, h3]
      by_cases hk : k = x.f0
      · subst hk
        rw [if_pos rfl]
        have := atKey_put_same (mapD_isMap l) (isKey x.f0) (.lit (.int .i64 (wrap64 (valD (mapD l) x.f0 + x.f1)))) (.lit (.int .i64 0))
        conv => rhs; rw [valD, stepD, this]
      · rw [if_neg hk]
        have := atKey_put_other (D := mapD l) (k := .int .i64 x.f0) (k' := .int .i64 k) (by simpa using hk) (.lit (.int .i64 (wrap64 (valD (mapD l) x.f0 + x.f1)))) (.lit (.int .i64 0))
        conv => rhs; rw [valD, stepD, this]
        rfl
theorem keys_sorted {l : List S32} (h : SortedL l) : (l.map (·.f0)).Pairwise (· < ·) := List.pairwise_map.2 h
/-- The program's list is the document's. -/
theorem joined_eq {l : List S32} (hl : ∀ x ∈ l, InR x.f1) {ss : List Int} (hp : ((foldG l []).map (·.f0)).Perm ss) : (ss.mergeSort (fun x y => decide (x ≤ y))).map (fun k => (⟨k, valD (mapD l) k⟩ : S32)) = foldG l [] := by
  obtain ⟨h1, h2, h3⟩ := both l hl
  have e : ss.mergeSort (fun x y => decide (x ≤ y)) = (foldG l []).map (·.f0) := by
    have tr : ∀ a b c : Int, decide (a ≤ b) = true → decide (b ≤ c) = true → decide (a ≤ c) = true := fun a b c => by simp; omega
    have tt : ∀ a b : Int, (decide (a ≤ b) || decide (b ≤ a)) = true := fun a b => by simp; omega
    refine List.Perm.eq_of_pairwise (le := fun a b => decide (a ≤ b) = true) (fun a b _ _ h1 h2 => by simp at h1 h2; omega) (List.pairwise_mergeSort tr tt ss) ((keys_sorted h1).imp (fun h => by simp; omega)) ((List.mergeSort_perm ss _).trans hp.symm)
  rw [e]
  conv => rhs; rw [lk_self h1]
  exact List.map_congr_left (fun k _ => by rw [h3])
end Go.Proofs.Ytpgaimpppehpcad
