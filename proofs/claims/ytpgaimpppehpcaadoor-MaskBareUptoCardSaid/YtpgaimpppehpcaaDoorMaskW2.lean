/- sort.Search at mask's closure, first, ahead, Out, In: the walks. -/
import Derived.Test.YtpgaimpppehpcaaDoorMaskW
namespace Go.Proofs.YtpgaimpppehpcaaDoor
open Go.RowKit

structure Idx (q : Mk.Piece → Bool) (ps : List Mk.Piece) (k : Nat) : Prop where
  le : k ≤ ps.length
  below : ∀ j (h : j < ps.length), j < k → q ps[j] = false
  above : ∀ j (h : j < ps.length), k ≤ j → q ps[j] = true

theorem Answers.below {w w' : World} {f : Value} {q : Mk.Piece → Bool} (h : Answers w f q) (hb : Below w.heap.size w w') : Answers w' f q :=
  fun p W hW => h p W (below_step hb hW)
theorem cell_below {w w' : World} {a : Addr} {v : Value} (h : w.cell? a = some v) (hb : Below w.heap.size w w') : w'.cell? a = some v :=
  (hb.cell (World.block_lt_of_cell? w a h)).trans h

set_option maxHeartbeats 2000000 in
theorem search_any (isA tA : Addr) (Tb : Nat) (f : Value) (q : Mk.Piece → Bool) (s x : ByteArray) (ps : List Mk.Piece) (w : World)
    (h1 : w.cell? isA = some f) (h2 : w.cell? tA = some (.pointer (some ⟨Tb, 0, none⟩))) (ht : IsText w Tb s x ps) (hf : Answers w f q) (hn : ps.length ≤ 4611686018427387903)
    (hq : ∀ i j (hi : i < ps.length) (hj : j < ps.length), i ≤ j → q ps[i] = true → q ps[j] = true) :
    Calls Tryd.prog 23 #[.int .i64 (ps.length : Int), .func (.func 24) #[] #[.pointer (some isA), .pointer (some tA)]] w fun e w' => ∃ k : Nat, e = .returned (.int .i64 (k : Int)) ∧ Idx q ps k ∧ Below w.heap.size w w' := by
  have H1 := Lib.hid h1
  have H2 := Lib.hid h2
  have HT := Lib.hid ht
  have HF := Lib.hid hf
  have HQ := Lib.hid hq
  clear h1 h2 ht hf hq
  go_enter Tryd.func23, Tryd.ntmps23
  go_wp2
  go_loopw [5, 6] (fun u v wr => ∃ a b : Nat, u = .int .i64 a ∧ v = .int .i64 b ∧ a ≤ b ∧ b ≤ ps.length ∧ Hid (∀ j (h : j < ps.length), j < a → q ps[j] = false) ∧ Hid (∀ j (h : j < ps.length), b ≤ j → q ps[j] = true) ∧ Hid (Below w.heap.size w wr)) (fun u v _ => (intOf v).toNat - (intOf u).toNat)
  case atStart => exact ⟨0, ps.length, rfl, rfl, by omega, by omega, Lib.hid (fun j _ h => by omega), Lib.hid (fun j h h' => by omega), Lib.hid (Below.refl _ _)⟩
  case round =>
    obtain ⟨a, b, rfl, rfl, hab, hb, ha1, hb1, hB⟩ := hrel
    by_cases hlt : a < b
    · obtain ⟨h, hh⟩ : ∃ h, h = (a + b) / 2 := ⟨_, rfl⟩
      have hz : ((a : Int) + (b : Int)) / 2 = (h : Int) := by omega
      have ha2 : a ≤ h := by omega
      have hb2 : h < b := by omega
      have hl : h < ps.length := by omega
      clear hh
      cases hqv : q ps[h] with
      | true =>
        have HV := Lib.hid hqv
        clear hqv
        go_wp2_with (go_at_call 24; refine (first1_any isA tA Tb f q s x ps h hl _ (cell_below H1.out hB.out) (cell_below H2.out hB.out) (HT.out.below hB.out) (HF.out.below hB.out)).mono ?_; rintro e w' ⟨rfl, hbb⟩; rw [HV.out]; have HBB := Lib.hid hbb; clear hbb)
        go_roundw
        case rel => exact ⟨a, h, rfl, rfl, by omega, by omega, ha1, Lib.hid (fun j hj hj2 => HQ.out h j hl hj hj2 HV.out), Lib.hid (below_step hB.out HBB.out)⟩
        case measure => simp [intOf]; omega
      | false =>
        have HV := Lib.hid hqv
        clear hqv
        go_wp2_with (go_at_call 24; refine (first1_any isA tA Tb f q s x ps h hl _ (cell_below H1.out hB.out) (cell_below H2.out hB.out) (HT.out.below hB.out) (HF.out.below hB.out)).mono ?_; rintro e w' ⟨rfl, hbb⟩; rw [HV.out]; have HBB := Lib.hid hbb; clear hbb)
        go_roundw
        case rel => exact ⟨h + 1, b, by go_num, rfl, by omega, by omega, Lib.hid (fun j hj hj2 => by
          cases hv : q ps[j] with
          | false => rfl
          | true => have := HQ.out j h hj hl (by omega) hv; rw [HV.out] at this; cases this), hb1, Lib.hid (below_step hB.out HBB.out)⟩
        case measure => simp [intOf]; omega
    · have hab2 : a = b := by omega
      subst hab2
      go_wp2
      go_ret
      exact ⟨a, rfl, ⟨hb, ha1.out, hb1.out⟩, hB.out⟩

set_option maxHeartbeats 2000000 in
theorem first_any (Tb : Nat) (f : Value) (q : Mk.Piece → Bool) (s x : ByteArray) (ps : List Mk.Piece) (w : World)
    (ht : IsText w Tb s x ps) (hf : Answers w f q) (hn : ps.length ≤ 4611686018427387903) (hF : ∃ F cap, f = .func (.func F) #[] cap)
    (hq : ∀ i j (hi : i < ps.length) (hj : j < ps.length), i ≤ j → q ps[i] = true → q ps[j] = true) :
    Calls Tryd.prog 17 #[.pointer (some ⟨Tb, 0, none⟩), f] w fun e w' => ∃ k : Nat, e = .returned (.int .i64 (k : Int)) ∧ Idx q ps k ∧ Below w.heap.size w w' := by
  obtain ⟨F, cap, rfl⟩ := hF
  obtain ⟨hlt, hc0, hc1, v, hc2, A, c, rfl, hp⟩ := ht
  have HT : Hid (IsText w Tb s x ps) := Lib.hid ⟨hlt, hc0, hc1, _, hc2, A, c, rfl, hp⟩
  have HQ := Lib.hid hq
  have HF := Lib.hid hf
  clear hc0 hc1 hp hq hf
  have n2 := alloc_cell hc2
  have n3 : ∀ o o', ((w.alloc o).alloc o').cell? ⟨Tb, 2, none⟩ = some (.slice A ps.length c) := fun o o' => alloc_cell (n2 o) o'
  go_enter Tryd.func17, Tryd.ntmps17
  go_wp2_with fail
  refine (search_any ⟨w.heap.size + 1, 0, none⟩ ⟨w.heap.size, 0, none⟩ Tb (.func (.func F) #[] cap) q s x ps _ ?k1 ?k2 ?k3 ?k4 hn HQ.out).mono ?_
  case k1 => exact World.cell?_alloc_at _ _ _ _ (by simp)
  case k2 => exact alloc_cell (World.cell?_alloc_at _ _ _ _ rfl) _
  case k3 => exact HT.out.below (((Below.refl _ w).alloc (Nat.le_refl _) _).alloc (by simp) _)
  case k4 => exact HF.out.below (((Below.refl _ w).alloc (Nat.le_refl _) _).alloc (by simp) _)
  rintro e w' ⟨k, rfl, hk, hb⟩
  have HK := Lib.hid hk
  have HB := Lib.hid ((((Below.refl _ w).alloc (Nat.le_refl _) _).alloc (by simp) _).trans (hb.mono (by simp; omega)))
  clear hk hb
  go_wp2
  go_ret
  exact ⟨k, rfl, HK.out, HB.out⟩

set_option maxHeartbeats 2000000 in
theorem ahead_any (Tb : Nat) (s x : ByteArray) (ps : List Mk.Piece) (k : Nat) (hk : k ≤ ps.length) (w : World) (ht : IsText w Tb s x ps) (hF : Mk.Facts s.data.toList x.data.toList ps) (hs : s.size ≤ 4611686018427387903) (hn : ps.length ≤ 4611686018427387903) :
    Calls Tryd.prog 19 #[.pointer (some ⟨Tb, 0, none⟩), .int .i64 (k : Int)] w fun e w' => e = .returned (.int .i64 (Mk.A ps k : Int)) ∧ ∃ n, w' = w.drewN n := by
  obtain ⟨hlt, hc0, hc1, v, hc2, A, c, rfl, hp⟩ := ht
  have htot := hF.total
  rw [len_str, len_str] at htot
  by_cases hkl : k = ps.length
  · subst hkl
    have hd : Hid ((s.size : Int) - (x.size : Int) = (Mk.A ps ps.length : Int)) := Lib.hid (by omega)
    have hxs : x.size ≤ s.size := by omega
    clear hp hF htot
    go_enter Tryd.func19, Tryd.ntmps19
    go_wp2
    go_quiet (fail)
    go_wp2
    go_ret
    exact ⟨ret_int hd.out, _, rfl⟩
  · have hkp : k < ps.length := by omega
    obtain ⟨g, rfl, hg, k0, k1, k2⟩ := hp k hkp
    have hfr := hF.from_ k hkp
    have hle := hF.le k hkp
    rw [len_str] at hle
    have hd : Hid ((ps[k].lo : Int) - (ps[k].bare : Int) = (Mk.A ps k : Int)) := Lib.hid (by omega)
    have hA : Mk.A ps k ≤ s.size := by
      have := Mk.A_mono (ps := ps) hk; omega
    have hb1 : ps[k].lo ≤ 9223372036854775807 := by omega
    have hb2 : ps[k].bare ≤ ps[k].lo := by omega
    have c1 : ((k : Int) == (ps.length : Int)) = false := beqI_false (by omega)
    have hk3 : k * 3 + 2 ≤ 9223372036854775807000 := by omega
    clear hp hF htot hfr hle hA
    generalize ps[k].lo = lo at *
    generalize ps[k].bare = ba at *
    go_enter Tryd.func19, Tryd.ntmps19
    go_wp2
    go_quiet (fail)
    go_wp2
    go_ret
    exact ⟨ret_int hd.out, _, rfl⟩

theorem out_answers (a1 a2 : Addr) (i : Nat) (bh : Bool) (w : World) (h1 : w.cell? a1 = some (.int .i64 (i : Int))) (h2 : w.cell? a2 = some (.bool bh)) :
    Answers w (.func (.func 18) #[] #[.pointer (some a1), .pointer (some a2)]) (outP i bh) :=
  fun p W hW => ⟨_, _, rfl, .inl rfl, out1_any a1 a2 i bh p W (cell_below h1 hW) (cell_below h2 hW)⟩
theorem in_answers (a1 : Addr) (k : Nat) (w : World) (h1 : w.cell? a1 = some (.int .i64 (k : Int))) :
    Answers w (.func (.func 20) #[] #[.pointer (some a1)]) (inP k) :=
  fun p W hW => ⟨_, _, rfl, .inr rfl, in1_any a1 k p W (cell_below h1 hW)⟩

theorem out_mono {t b : List UInt8} {ps : List Mk.Piece} (F : Mk.Facts t b ps) (i : Nat) (bh : Bool) : ∀ j k (hj : j < ps.length) (hk : k < ps.length), j ≤ k → outP i bh ps[j] = true → outP i bh ps[k] = true := by
  intro j k hj hk hjk h
  have hm := F.mono j k hj hk hjk
  unfold outP at h ⊢
  cases bh <;> simp at h ⊢ <;> omega
theorem in_mono {t b : List UInt8} {ps : List Mk.Piece} (F : Mk.Facts t b ps) (i : Nat) : ∀ j k (hj : j < ps.length) (hk : k < ps.length), j ≤ k → inP i ps[j] = true → inP i ps[k] = true := by
  intro j k hj hk hjk h
  unfold inP at h ⊢
  rcases Nat.lt_or_ge j k with hl | hl
  · have h1 := F.from_ j hj; have h2 := F.pos j hj; have h3 := F.from_ k hk; have h4 := F.pos k hk
    have h5 := Mk.A_succ hj
    have h6 := Mk.A_mono (ps := ps) (show j + 1 ≤ k by omega)
    have h7 := F.mono j k hj hk hjk
    simp at h ⊢; omega
  · obtain rfl : j = k := by omega
    exact h
theorem outIdx_of {ps : List Mk.Piece} {i k : Nat} {bh : Bool} (h : Idx (outP i bh) ps k) : Mk.OutIdx ps i bh k := by
  refine ⟨h.le, fun q hq hqk => ?_, fun q hq hqk => ?_⟩
  · have := h.below q hq hqk; unfold outP at this; cases bh <;> simp at this ⊢ <;> omega
  · have := h.above q hq hqk; unfold outP at this; cases bh <;> simp at this ⊢ <;> omega
theorem inIdx_of {ps : List Mk.Piece} {i k : Nat} (h : Idx (inP i) ps k) : Mk.InIdx ps i k := by
  refine ⟨h.le, fun q hq hqk => ?_, fun q hq hqk => ?_⟩
  · have := h.below q hq hqk; unfold inP at this; simp at this; omega
  · have := h.above q hq hqk; unfold inP at this; simpa using this

/-- Where every text lies: the struct, with what is known of its pieces. -/
structure TextOk (w : World) (Tb : Nat) (s x : ByteArray) (ps : List Mk.Piece) : Prop where
  is : IsText w Tb s x ps
  facts : Mk.Facts s.data.toList x.data.toList ps
  small : s.size ≤ 70368744177664
  few : ps.length ≤ 1099511627776
theorem TextOk.below {w w' : World} {Tb : Nat} {s x : ByteArray} {ps : List Mk.Piece} (h : TextOk w Tb s x ps) (hb : Below w.heap.size w w') : TextOk w' Tb s x ps := ⟨h.is.below hb, h.facts, h.small, h.few⟩

set_option maxHeartbeats 4000000 in
theorem Out_any (Tb : Nat) (s x : ByteArray) (ps : List Mk.Piece) (i : Nat) (bh : Bool) (hi : i ≤ x.size) (w : World) (ht : TextOk w Tb s x ps) :
    Calls Tryd.prog 8 #[.pointer (some ⟨Tb, 0, none⟩), .int .i64 (i : Int), .bool bh] w fun e w' => (∃ k : Nat, e = .returned (.tuple #[.int .i64 ((i + Mk.A ps k : Nat) : Int), .nilIface]) ∧ Mk.OutIdx ps i bh k) ∧ Below w.heap.size w w' := by
  have HT := Lib.hid ht
  have hsm := ht.small
  have hfew := ht.few
  obtain ⟨hlt, hc0, hc1, v, hc2, hp⟩ := ht.is
  have n1 : ∀ o o', ((w.alloc o).alloc o').cell? ⟨Tb, 1, none⟩ = some (.string x) := fun o o' => alloc_cell (alloc_cell hc1 o) o'
  have hle : ∀ k, i + Mk.A ps k ≤ s.size := fun k => by have := Mk.out_le ht.facts (i := i) (j := k) (by rw [len_str]; exact hi); rwa [len_str] at this
  have HLE := Lib.hid hle
  have d1 : decide ((x.size : Int) < (i : Int)) = false := decide_eq_false (by omega)
  clear ht hc0 hc2 hp hle
  go_enter Tryd.func8, Tryd.ntmps8
  go_wp2_with fail
  go_quiet (fail)
  go_wp2_with fail
  have hbel : ∀ n, Below w.heap.size w (((w.alloc (.cells #[.int .i64 (i : Int)] 3)).alloc (.cells #[.bool bh] 4)).drewN n) := fun n => below_drewN (((Below.refl _ w).alloc (Nat.le_refl _) _).alloc (by simp) _) n
  have HBEL := Lib.hid hbel
  have k0 : ∀ o', ((w.alloc (.cells #[.int .i64 (i : Int)] 3)).alloc o').cell? ⟨w.heap.size, 0, none⟩ = some (.int .i64 (i : Int)) := fun o' => alloc_cell (World.cell?_alloc_at _ _ _ _ rfl) o'
  have K0 := Lib.hid k0
  clear hbel k0
  refine (first_any Tb _ (outP i bh) s x ps _ (HT.out.is.below (HBEL.out _)) (out_answers _ _ i bh _ ?k1 ?k2) (by omega) ⟨_, _, rfl⟩ (out_mono HT.out.facts i bh)).mono ?_
  case k1 => exact K0.out _
  case k2 => exact World.cell?_alloc_at _ _ _ _ (by simp)
  rintro e w2 ⟨k, rfl, hk, hb⟩
  have k1 : w2.cell? ⟨w.heap.size, 0, none⟩ = some (.int .i64 (i : Int)) := cell_below (w := ((w.alloc _).alloc _).drewN _) (K0.out _) hb
  have HB := Lib.hid (below_step (HBEL.out _) hb)
  have HK := Lib.hid hk
  have hsum := HLE.out k
  have hsum2 : Mk.A ps k ≤ s.size := by omega
  clear hb hk
  go_wp2_with fail
  go_quiet ((go_at_call 19; exact Calls.quiet_of (ahead_any Tb s x ps k HK.out.le _ ((HT.out.is.below HB.out).below (below_of_drewN _ _ _)) HT.out.facts (by omega) (by omega))))
  go_wp2
  go_ret2
  exact ⟨⟨k, by simp, outIdx_of HK.out⟩, below_drewN HB.out _⟩

set_option maxHeartbeats 4000000 in
theorem Out_bad (a : Nat → Addr) (Tb : Nat) (s x : ByteArray) (ps : List Mk.Piece) (i : Nat) (bh : Bool) (hi : x.size < i) (w : World) (ht : TextOk w Tb s x ps) (hsent : Sent a w) :
    Calls Tryd.prog 8 #[.pointer (some ⟨Tb, 0, none⟩), .int .i64 (i : Int), .bool bh] w fun e w' => e = .returned (.tuple #[.int .i64 0, errV a 1]) ∧ Below w.heap.size w w' := by
  obtain ⟨hlt, hc0, hc1, v, hc2, hp⟩ := ht.is
  have n1 : ∀ o o', ((w.alloc o).alloc o').cell? ⟨Tb, 1, none⟩ = some (.string x) := fun o o' => alloc_cell (alloc_cell hc1 o) o'
  have g1 : w.cell? ⟨0, 0, none⟩ = some (.iface 66 (.pointer (some (a 1)))) := hsent.cell 1 (by decide)
  have g2 : ∀ o o', ((w.alloc o).alloc o').cell? ⟨0, 0, none⟩ = some (.iface 66 (.pointer (some (a 1)))) := fun o o' => alloc_cell (alloc_cell g1 o) o'
  have d1 : decide ((x.size : Int) < (i : Int)) = true := decide_eq_true (by omega)
  clear ht hc0 hc2 hp hsent g1
  go_enter Tryd.func8, Tryd.ntmps8
  go_wp2_with fail
  go_quiet (fail)
  go_wp2_with fail
  go_quiet (fail)
  go_wp2_with fail
  go_ret2
  exact ⟨rfl, below_drewN (below_drewN (((Below.refl _ w).alloc (Nat.le_refl _) _).alloc (by simp) _) _) _⟩

theorem in_A_le {t b : List UInt8} {ps : List Mk.Piece} (F : Mk.Facts t b ps) {k j : Nat} (h : Mk.InIdx ps k j) : Mk.A ps j ≤ k := by
  cases j with
  | zero => rw [Mk.A_zero]; omega
  | succ j =>
    have hj : j < ps.length := by have := h.le; omega
    have h1 := h.below j hj (by omega)
    have h2 := F.from_ j hj; have h3 := F.pos j hj
    rw [Mk.A_succ hj]; omega

set_option maxHeartbeats 8000000 in
theorem In_any (Tb : Nat) (s x : ByteArray) (ps : List Mk.Piece) (i : Nat) (hi : i ≤ s.size) (w : World) (ht : TextOk w Tb s x ps) :
    Calls Tryd.prog 9 #[.pointer (some ⟨Tb, 0, none⟩), .int .i64 (i : Int)] w fun e w' => (∃ k : Nat, e = .returned (.tuple #[.int .i64 (Mk.inAt ps i k : Int), .nilIface]) ∧ Mk.InIdx ps i k) ∧ Below w.heap.size w w' := by
  have HT := Lib.hid ht
  have hsm := ht.small
  have hfew := ht.few
  obtain ⟨hlt, hc0, hc1, v, hc2, hp⟩ := ht.is
  have n1 : ∀ o, (w.alloc o).cell? ⟨Tb, 0, none⟩ = some (.string s) := fun o => alloc_cell hc0 o
  have d1 : decide ((s.size : Int) < (i : Int)) = false := decide_eq_false (by omega)
  clear ht hc1 hc2 hp
  go_enter Tryd.func9, Tryd.ntmps9
  go_wp2_with fail
  go_quiet (fail)
  go_wp2_with fail
  have hbel : ∀ n, Below w.heap.size w ((w.alloc (.cells #[.int .i64 (i : Int)] 3)).drewN n) := fun n => below_drewN ((Below.refl _ w).alloc (Nat.le_refl _) _) n
  have HBEL := Lib.hid hbel
  have k0 : (w.alloc (.cells #[.int .i64 (i : Int)] 3)).cell? ⟨w.heap.size, 0, none⟩ = some (.int .i64 (i : Int)) := World.cell?_alloc_at _ _ _ _ rfl
  have K0 := Lib.hid k0
  clear hbel k0 n1
  refine (first_any Tb _ (inP i) s x ps _ (HT.out.is.below (HBEL.out _)) (in_answers _ i _ ?k1) (by omega) ⟨_, _, rfl⟩ (in_mono HT.out.facts i)).mono ?_
  case k1 => exact K0.out
  rintro e w2 ⟨k, rfl, hk, hb⟩
  have k1 : w2.cell? ⟨w.heap.size, 0, none⟩ = some (.int .i64 (i : Int)) := cell_below (w := (w.alloc _).drewN _) K0.out hb
  have hix := inIdx_of hk
  have hAk := in_A_le HT.out.facts hix
  have HB := Lib.hid (below_step (HBEL.out _) hb)
  have HX := Lib.hid hix
  have HT2 := Lib.hid (HT.out.is.below HB.out)
  have hkle := hk.le
  obtain ⟨hlt2, _, _, v2, hd2, A, c, rfl, hp2⟩ := HT.out.is.below HB.out
  clear hb hk hix
  by_cases hkl : k < ps.length
  · obtain ⟨g, rfl, hg, e0, e1, e2⟩ := hp2 k hkl
    have q1 : decide (k < ps.length) = true := decide_eq_true hkl
    by_cases hlo : ps[k].lo < i
    · have q2 : decide (ps[k].lo < i) = true := decide_eq_true hlo
      have HF : Hid (Mk.inAt ps i k = ps[k].bare) := Lib.hid (by unfold Mk.inAt; rw [dif_pos hkl, if_pos hlo])
      clear hp2 hlo e1
      generalize ps[k].lo = lo at *
      generalize ps[k].bare = ba at *
      go_wp2_with fail
      go_quiet (fail)
      go_wp2
      go_ret2
      exact ⟨⟨k, by rw [HF.out]; rfl, HX.out⟩, below_drewN HB.out _⟩
    · have q2 : decide (ps[k].lo < i) = false := decide_eq_false hlo
      have HF : Hid ((Mk.inAt ps i k : Int) = (i : Int) - (Mk.A ps k : Int)) := Lib.hid (by unfold Mk.inAt; rw [dif_pos hkl, if_neg hlo]; omega)
      clear hp2 hlo e1 e2
      generalize ps[k].lo = lo at *
      go_wp2_with fail
      go_quiet (fail)
      have hstep : ∀ n, Below w2.heap.size w2 (w2.drewN n) := fun n => below_of_drewN _ _ _
      generalize hwx : w2.drewN _ = wx
      have hbx : Below w2.heap.size w2 wx := by rw [← hwx]; exact hstep _
      have k1x : wx.cell? ⟨w.heap.size, 0, none⟩ = some (.int .i64 (i : Int)) := cell_below k1 hbx
      have HTX := Lib.hid (HT2.out.below hbx)
      have HBX := Lib.hid (below_step HB.out hbx)
      clear hstep hwx hbx k1
      go_wp2_with fail
      go_quiet ((go_at_call 19; exact Calls.quiet_of (ahead_any Tb s x ps k hkle _ HTX.out HT.out.facts (by omega) (by omega))))
      go_wp2
      go_ret2
      exact ⟨⟨k, by rw [HF.out]; rfl, HX.out⟩, below_drewN HBX.out _⟩
  · have q1 : decide (k < ps.length) = false := decide_eq_false hkl
    have HF : Hid ((Mk.inAt ps i k : Int) = (i : Int) - (Mk.A ps k : Int)) := Lib.hid (by unfold Mk.inAt; rw [dif_neg hkl]; omega)
    clear hp2
    go_wp2_with fail
    go_quiet (fail)
    have hstep : ∀ n, Below w2.heap.size w2 (w2.drewN n) := fun n => below_of_drewN _ _ _
    generalize hwx : w2.drewN _ = wx
    have hbx : Below w2.heap.size w2 wx := by rw [← hwx]; exact hstep _
    have k1x : wx.cell? ⟨w.heap.size, 0, none⟩ = some (.int .i64 (i : Int)) := cell_below k1 hbx
    have HTX := Lib.hid (HT2.out.below hbx)
    have HBX := Lib.hid (below_step HB.out hbx)
    clear hstep hwx hbx k1
    go_wp2_with fail
    go_quiet ((go_at_call 19; exact Calls.quiet_of (ahead_any Tb s x ps k hkle _ HTX.out HT.out.facts (by omega) (by omega))))
    go_wp2
    go_ret2
    exact ⟨⟨k, by rw [HF.out]; rfl, HX.out⟩, below_drewN HBX.out _⟩

set_option maxHeartbeats 4000000 in
theorem In_bad (a : Nat → Addr) (Tb : Nat) (s x : ByteArray) (ps : List Mk.Piece) (i : Nat) (hi : s.size < i) (w : World) (ht : TextOk w Tb s x ps) (hsent : Sent a w) :
    Calls Tryd.prog 9 #[.pointer (some ⟨Tb, 0, none⟩), .int .i64 (i : Int)] w fun e w' => e = .returned (.tuple #[.int .i64 0, errV a 1]) ∧ Below w.heap.size w w' := by
  obtain ⟨hlt, hc0, hc1, v, hc2, hp⟩ := ht.is
  have n1 : ∀ o, (w.alloc o).cell? ⟨Tb, 0, none⟩ = some (.string s) := fun o => alloc_cell hc0 o
  have g1 : w.cell? ⟨0, 0, none⟩ = some (.iface 66 (.pointer (some (a 1)))) := hsent.cell 1 (by decide)
  have g2 : ∀ o, (w.alloc o).cell? ⟨0, 0, none⟩ = some (.iface 66 (.pointer (some (a 1)))) := fun o => alloc_cell g1 o
  have d1 : decide ((s.size : Int) < (i : Int)) = true := decide_eq_true (by omega)
  clear ht hc1 hc2 hp hsent g1
  go_enter Tryd.func9, Tryd.ntmps9
  go_wp2_with fail
  go_quiet (fail)
  go_wp2_with fail
  go_quiet (fail)
  go_wp2_with fail
  go_ret2
  exact ⟨rfl, below_drewN (below_drewN ((Below.refl _ w).alloc (Nat.le_refl _) _) _) _⟩

theorem Bare_any (Tb : Nat) (s x : ByteArray) (ps : List Mk.Piece) (w : World) (ht : IsText w Tb s x ps) :
    Calls Tryd.prog 7 #[.pointer (some ⟨Tb, 0, none⟩)] w fun e w' => e = .returned (.string x) ∧ w = w' := by
  obtain ⟨hlt, hc0, hc1, v, hc2, hp⟩ := ht
  clear hc0 hc2 hp
  go_enter Tryd.func7, Tryd.ntmps7
  go_wp2
  go_ret
  exact ⟨rfl, rfl⟩
end Go.Proofs.YtpgaimpppehpcaaDoor
