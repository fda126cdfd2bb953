/- caesuralaw30.plain, markup, caesurakit.Pick: the walks. -/
import Derived.Test.YtpgaimpppehpcaaDoorMaskSpec
import Derived.Test.YtpgaimpppehpcaaDoorStr
import Derived.Test.YtpgaimpppehpcaaDoorConv
import Derived.Test.YtpgaimpppehpcaaDoorWWords
import Derived.WalkSpells
import Derived.Deep.DeepCutAuto
namespace Go.Proofs.YtpgaimpppehpcaaDoor
open Go.RowKit Go.Proofs.YtpgaimpppehpcaaDoorW.PrintWords

def plainL (l : List UInt8) : List UInt8 := l.filter fun c => !Mk.isMark c
def intsL (l : List UInt8) : List Int := l.map fun c => (c.toNat : Int)
theorem plainL_plain (l : List UInt8) : Mk.Plain (plainL l) := by
  intro c hc
  have := (List.mem_filter.1 hc).2
  simpa using this
theorem plainL_len (l : List UInt8) : (plainL l).length ≤ l.length := List.length_filter_le _ _
theorem plainL_snoc (l : List UInt8) (c : UInt8) : plainL (l ++ [c]) = if Mk.isMark c then plainL l else plainL l ++ [c] := by
  unfold plainL; rw [List.filter_append]
  cases h : Mk.isMark c <;> simp [h]
theorem ints_str (l : List UInt8) : (strOfNums (intsL l)).data.toList = l := by
  rw [strOfNums_data]; unfold intsL
  rw [List.map_map]
  have : ∀ c ∈ l, ((fun n : Int => UInt8.ofNat n.toNat) ∘ fun c : UInt8 => (c.toNat : Int)) c = c := by
    intro c _; simp
  simpa using List.map_congr_left (g := id) this
theorem u8Info : (Tryd.prog.info? 5).map (fun i => (i.zero, i.size, i.bytes)) = some (some (.int .u8 0), 1, 1) := by kernel_rfl

def PlainR (w : World) (s : ByteArray) (k : Nat) (v : Value) (wr : World) : Prop :=
  wr.ownsRow w.heap.size 5 1 v (intsL (plainL (s.data.toList.take k))).length (nums .u8 (intsL (plainL (s.data.toList.take k)))) ∧ Below w.heap.size w wr

set_option maxHeartbeats 4000000 in
theorem plain_any (s : ByteArray) (w : World) (hs : s.size ≤ 70368744177664) :
    Calls Tryd.prog 11 #[.string s] w fun e w' => (∃ y : ByteArray, e = .returned (.string y) ∧ y.data.toList = plainL s.data.toList) ∧ Below w.heap.size w w' := by
  go_enter Tryd.func11, Tryd.ntmps11
  go_wp2_with fail
  go_loopw [3, 4] (fun v i wr => ∃ k : Nat, i = .int .i64 k ∧ k ≤ s.size ∧ Hid (PlainR w s k v wr)) (fun _ i _ => s.size - (intOf i).toNat)
  case atStart => exact ⟨0, rfl, Nat.zero_le _, Lib.hid ⟨own_nil _ _ _ _, Below.refl _ _⟩⟩
  case round =>
    obtain ⟨k, rfl, hk, hR⟩ := hrel
    by_cases hlt : k < s.size
    · have htk : Hid (plainL (s.data.toList.take (k + 1)) = if Mk.isMark s[k] then plainL (s.data.toList.take k) else plainL (s.data.toList.take k) ++ [s[k]]) := Lib.hid (by rw [take_at s k hlt, plainL_snoc])
      have hmk : Hid (Mk.isMark s[k] = (s[k].toNat == 60 || s[k].toNat == 62)) := Lib.hid rfl
      by_cases h60 : s[k].toNat = 60
      · have c60 : ((s[k].toNat : Int) != 60) = false := bneI_false (by omega)
        have hN : Hid (PlainR w s (k + 1) u3 wr) := Lib.hid (by unfold PlainR; rw [htk.out, if_pos (by rw [hmk.out]; simp [h60])]; exact hR.out)
        clear h60
        go_wp2_with fail
        go_roundw
        case rel => exact ⟨k + 1, by go_num, hlt, hN⟩
        case measure => simp [intOf]; omega
      · have c60 : ((s[k].toNat : Int) != 60) = true := bneI_true (by omega)
        by_cases h62 : s[k].toNat = 62
        · have c62 : ((s[k].toNat : Int) != 62) = false := bneI_false (by omega)
          have hN : Hid (PlainR w s (k + 1) u3 wr) := Lib.hid (by unfold PlainR; rw [htk.out, if_pos (by rw [hmk.out]; simp [h62])]; exact hR.out)
          clear h60 h62
          go_wp2_with fail
          go_roundw
          case rel => exact ⟨k + 1, by go_num, hlt, hN⟩
          case measure => simp [intOf]; omega
        · have c62 : ((s[k].toNat : Int) != 62) = true := bneI_true (by omega)
          have hN : Hid (plainL (s.data.toList.take (k + 1)) = plainL (s.data.toList.take k) ++ [s[k]]) := Lib.hid (by rw [htk.out, if_neg (by rw [hmk.out]; simp [h60, h62])])
          have hlen : Hid ((intsL (plainL (s.data.toList.take k))).length ≤ k) := Lib.hid (by
            unfold intsL; rw [List.length_map]
            exact Nat.le_trans (plainL_len _) (by rw [List.length_take]; omega))
          clear h60 h62
          go_wp2_with (at_builtin; refine print_append_num (w0 := w) w.heap.size rfl (.tmp 21) (.tmp 25) 50 5 .u8 1 rfl Tryd.underlying50 u8Info (by decide) u3 (intsL (plainL (s.data.toList.take k))) (s[k].toNat : Int) rfl rfl hR.out.1 hR.out.2 hR.out.2.size (by have := hlen.out; omega) ?_; intro v1 w1 ho hb _ _; have HO := Lib.hid ho; have HB := Lib.hid hb; clear ho hb)
          have hN2 : Hid (PlainR w s (k + 1) v1 w1) := Lib.hid (by unfold PlainR; rw [hN.out]; exact ⟨by have := HO.out; simpa [intsL] using this, HB.out⟩)
          go_roundw
          case rel => exact ⟨k + 1, by go_num, hlt, hN2⟩
          case measure => simp [intOf]; omega
    · have hke : k = s.size := by omega
      subst hke
      have hfull : s.data.toList.take s.size = s.data.toList := List.take_of_length_le (by rw [len_str]; omega)
      have hcv := own_string (P := Tryd.prog) (src := 50) (dst := 9) (e := 5) Tryd.underlying50 Tryd.underlying5 Tryd.underlying9 hR.out.1
      rw [hfull] at hcv
      go_wp2_with fail
      go_ret
      exact ⟨⟨_, rfl, ints_str _⟩, hR.out.2⟩

set_option maxHeartbeats 1000000 in
theorem Pick7_any (x : Int) (w : World) :
    Calls Tryd.prog 13 #[.int .i64 x, .int .i64 7] w fun e w' => (∃ r : Nat, e = .returned (.int .i64 (r : Int)) ∧ r < 7) ∧ w = w' := by
  have h1 := Int.tmod_lt_of_pos x (b := 7) (by decide)
  have h2 := Int.lt_tmod_of_pos x (b := 7) (by decide)
  generalize hq : x.tmod 7 = q at h1 h2
  by_cases h : q < 0
  · have d : decide (q < 0) = true := decide_eq_true h
    have hw : wrap64 (q + 7) = q + 7 := by unfold wrap64; omega
    have hr : Hid (∃ r : Nat, wrap64 (q + 7) = (r : Int) ∧ r < 7) := Lib.hid ⟨(q + 7).toNat, by rw [hw]; omega, by omega⟩
    clear hw
    clear h h1 h2
    go_enter Tryd.func13, Tryd.ntmps13
    go_wp2_with fail
    go_ret
    obtain ⟨r, hr1, hr2⟩ := hr.out
    exact ⟨⟨r, ret_int hr1, hr2⟩, rfl⟩
  · have d : decide (q < 0) = false := decide_eq_false h
    have hr : Hid (∃ r : Nat, q = (r : Int) ∧ r < 7) := Lib.hid ⟨q.toNat, by omega, by omega⟩
    clear h h1 h2
    go_enter Tryd.func13, Tryd.ntmps13
    go_wp2_with fail
    go_ret
    obtain ⟨r, hr1, hr2⟩ := hr.out
    exact ⟨⟨r, ret_int hr1, hr2⟩, rfl⟩

def MarkR (o : ByteArray) (i : Nat) : Prop := ∃ m, o.data.toList = 60 :: m ∧ Mk.Plain m ∧ m.length = i
theorem MarkR.size {o : ByteArray} {i : Nat} (h : MarkR o i) : o.size = i + 1 := by
  obtain ⟨m, hm, _, hl⟩ := h
  rw [← len_str, hm, List.length_cons, hl]
theorem MarkR.snoc {o c : ByteArray} {i : Nat} (h : MarkR o i) (x : UInt8) (hc : c.data.toList = [x]) (hx : Mk.isMark x = false) : MarkR (o ++ c) (i + 1) := by
  obtain ⟨m, hm, hp, hl⟩ := h
  refine ⟨m ++ [x], by rw [app_data, hm, hc]; rfl, fun y hy => ?_, by rw [List.length_append, hl]; rfl⟩
  rcases List.mem_append.1 hy with hy | hy
  · exact hp y hy
  · obtain rfl := List.mem_singleton.1 hy; exact hx
theorem byte_mem (s : ByteArray) (j : Nat) (h : j < s.size) : s[j] ∈ s.data.toList := List.mem_of_mem_drop (i := j) (by rw [drop_at s j h]; exact List.mem_cons_self)
theorem plain_nil : Mk.Plain [] := fun _ h => by cases h
theorem ext_one (s : ByteArray) (j : Nat) (h : j < s.size) : (s.extract j (j + 1)).data.toList = [s[j]] := by
  rw [ext_sub, drop_at s j h, show j + 1 - j = 1 from by omega]; rfl

set_option maxHeartbeats 4000000 in
theorem markup_any (n : Nat) (h2 : 2 ≤ n) (h8 : n ≤ 8) (s : ByteArray) (w : World) (hs : s.size ≤ 70368744177664) :
    Calls Tryd.prog 12 #[.int .i64 (n : Int), .string s] w fun e w' => (∃ y : ByteArray, e = .returned (.string y) ∧ ∃ m, y.data.toList = 60 :: m ++ [62] ∧ Mk.Plain m ∧ m.length ≤ 6) ∧ Below w.heap.size w w' := by
  go_enter Tryd.func12, Tryd.ntmps12
  go_wp2_with (go_at_call 11; refine (plain_any s _ hs).mono ?_; rintro e w1 ⟨⟨p, rfl, hp⟩, hb⟩; have HP := Lib.hid hp; have HB := Lib.hid hb; clear hp hb)
  go_loop [6, 7] (fun o i => ∃ (x : ByteArray) (k : Nat), o = .string x ∧ i = .int .i64 k ∧ k + 2 ≤ n ∧ Hid (MarkR x k)) (fun _ i => n - (intOf i).toNat)
  case atStart => exact ⟨_, 0, rfl, rfl, h2, Lib.hid ⟨[], rfl, plain_nil, rfl⟩⟩
  case round =>
    obtain ⟨x, k, rfl, rfl, hk, hM⟩ := hrel
    have hxs := hM.out.size
    have hps : p.size ≤ 70368744177664 := by
      have := plainL_len s.data.toList
      rw [← HP.out, len_str, len_str] at this; omega
    by_cases hlt : k + 2 < n
    · by_cases hz : p.size = 0
      · have hN : Hid (MarkR (x ++ ⟨#[45]⟩) (k + 1)) := Lib.hid (hM.out.snoc 45 rfl (by decide))
        have d1 : decide ((k : Int) < (n : Int) - 2) = true := decide_eq_true (by omega)
        have e0 : p = ⟨#[]⟩ := str_ext (List.eq_nil_of_length_eq_zero (by rw [len_str]; exact hz))
        subst e0
        go_wp2_with fail
        go_round
        case rel => exact ⟨_, k + 1, rfl, by go_num, by omega, hN⟩
        case measure => simp [intOf]; omega
      · have d1 : decide ((k : Int) < (n : Int) - 2) = true := decide_eq_true (by omega)
        have hjl : k % p.size < p.size := Nat.mod_lt _ (by omega)
        have hrem : (k : Int).tmod (p.size : Int) = ((k % p.size : Nat) : Int) := (Int.ofNat_tmod k p.size).symm
        have d2 : decide (0 < p.size) = true := decide_eq_true (by omega)
        have hN : Hid (MarkR (x ++ p.extract (k % p.size) (k % p.size + 1)) (k + 1)) := Lib.hid (hM.out.snoc p[k % p.size] (ext_one p _ hjl) (by
          have := plainL_plain s.data.toList; rw [← HP.out] at this
          exact this _ (byte_mem p _ hjl)))
        have hxe : (p.extract (k % p.size) (k % p.size + 1)).size = 1 := by rw [← len_str, ext_one p _ hjl]; rfl
        have hjne : k % p.size ≤ 100 := by have := Nat.mod_le k p.size; omega
        generalize hj : k % p.size = j at *
        clear hj
        go_wp2_with fail
        go_round
        case rel => exact ⟨_, k + 1, rfl, by go_num, by omega, hN⟩
        case measure => simp [intOf]; omega
    · have d1 : decide ((k : Int) < (n : Int) - 2) = false := decide_eq_false (by omega)
      go_wp2_with fail
      go_ret
      obtain ⟨m, hm, hpl, hl⟩ := hM.out
      exact ⟨⟨_, rfl, m, by rw [app_data, hm]; rfl, hpl, by omega⟩, HB.out⟩
end Go.Proofs.YtpgaimpppehpcaaDoor
