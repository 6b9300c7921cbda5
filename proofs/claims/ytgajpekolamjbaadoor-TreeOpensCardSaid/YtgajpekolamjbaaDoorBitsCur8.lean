/- BitsCur6 BitsCur7 BitsCur8, laid as one. -/
import Derived.Test.YtgajpekolamjbaaDoorBitsCur5
import Derived.OwnWalk
set_option linter.unusedVariables false
set_option linter.unusedSimpArgs false
/- Cursors: the number that stands next. -/
namespace Go.Proofs.YtgajpekolamjbaaDoor
open Go.RowKit Go.Tk
/-- The number at the front of bytes, how many it has, an error. -/
def pkF : List Int → Nat → Int → Int × Int × Int
  | [], _, _ => (0, 0, 10)
  | b :: r, i, n => if (i = 9 ∧ 1 < b) ∨ (0 < i ∧ b = 0) then (0, 0, 11)
      else if b < 128 then (bits .or .u64 n (IntKind.u64.wrap (b % 128 * 2 ^ (7 * i))), (i : Int) + 1, 0)
      else pkF r (i + 1) (bits .or .u64 n (IntKind.u64.wrap (b % 128 * 2 ^ (7 * i))))
def pk (l : List Int) : Int × Int × Int := pkF l 0 0
def pkV (t : Int × Int × Int) : Value := .tuple #[.int .u64 t.1, .int .i64 t.2.1, .int .i64 t.2.2]
theorem bits_127 {x : Int} (h : 0 ≤ x ∧ x < 256) : bits .and .u8 x 127 = x % 128 := by
  obtain ⟨m, rfl⟩ : ∃ m : Nat, x = m := ⟨x.toNat, by omega⟩
  have : ∀ m : Fin 256, bits .and .u8 ((m : Nat) : Int) 127 = ((m : Nat) : Int) % 128 := by decide +kernel
  exact this ⟨m, by omega⟩
set_option maxHeartbeats 1000000 in
theorem number_calls (w : World) (a : Option Addr) (n cap : Nat) (l : List Int) (h : SlI .u8 w a n cap l) (hz : ∀ x ∈ l, 0 ≤ x ∧ x < 256) :
    Calls Tryd.prog 30 #[.slice a n cap] w fun e' w' => e' = .returned (pkV (pk l)) ∧ w = w' := by
  obtain rfl : l.length = n := h.len
  have hle := h.le
  have hmx := h.max
  go_enter Tryd.func30, Tryd.ntmps30
  go_wp2_with fail
  go_loopw [5, 6] (fun nv iv wr => ∃ (q : Nat) (m : Int), iv = .int .i64 q ∧ q ≤ 9 ∧ q ≤ l.length ∧ nv = .int .u64 m ∧ pkF (l.drop q) q m = pk l ∧ w = wr) (fun _ iv _ => l.length - (intOf iv).toNat)
  case atStart => exact ⟨0, 0, rfl, by omega, by omega, rfl, rfl, rfl⟩
  case round =>
    obtain ⟨q, m, rfl, hq9n, hq, rfl, hp, rfl⟩ := hrel
    by_cases hm : q < l.length
    · obtain ⟨b, o, rfl, hc0⟩ := h.cell q hm
      obtain ⟨x, hx⟩ : ∃ x, x = l.getD q 0 := ⟨_, rfl⟩
      have hxr : 0 ≤ x ∧ x < 256 := by rw [hx]; exact hz _ (by simp [hm])
      have hc1 : w.cell? ⟨b, o + q, none⟩ = some (.int .u8 x) := by rw [hc0, hx]
      have hd : l.drop q = x :: l.drop (q + 1) := by rw [List.drop_eq_getElem_cons hm, hx]; simp [hm]
      have hx0 := hxr.1
      have hx1 := hxr.2
      have hy0 := bits_127 hxr
      rw [hd] at hp
      clear hc0 hx hxr hd
      by_cases hb : (q = 9 ∧ 1 < x) ∨ (0 < q ∧ x = 0)
      · have hp2 : pk l = (0, 0, 11) := by rw [← hp]; simp only [pkF]; rw [if_pos hb]
        have HP := Lib.hid hp2
        clear hp hp2
        rcases hb with ⟨rfl, hx2⟩ | ⟨h0, rfl⟩
        · go_wp2
          all_goals (go_ret3; exact ⟨by rw [HP.out]; rfl, rfl⟩)
        · go_wp2
          all_goals (go_ret3; exact ⟨by rw [HP.out]; rfl, rfl⟩)
      · have hb1 : (q = 9 ∧ x ≤ 1) ∨ ¬ q = 9 := by omega
        have hb2 : q = 0 ∨ (0 < q ∧ ¬ x = 0) := by omega
        simp only [pkF] at hp
        rw [if_neg hb] at hp
        clear hb
        by_cases h7 : x < 128
        · rw [if_pos h7] at hp
          have HP := Lib.hid hp
          clear hp
          rcases hb1 with ⟨rfl, hx9⟩ | hq9
          · rcases hb2 with h0 | ⟨h0, hxn⟩
            · omega
            · obtain rfl : x = 1 := by omega
              go_wp2
              all_goals (go_ret3; exact ⟨by rw [← HP.out]; rfl, rfl⟩)
          · rcases hb2 with h0 | ⟨h0, hxn⟩
            · have h0' : ¬ (0 : Int) < (q : Int) := by omega
              have hq9' : ¬ ((q : Int) = 9) := by omega
              clear h0
              go_wp2
              all_goals (go_ret3; exact ⟨by rw [← HP.out]; rfl, rfl⟩)
            · have hq9' : ¬ ((q : Int) = 9) := by omega
              have h0' : (0 : Int) < (q : Int) := by omega
              have hxb : (x == 0) = false := by simp [hxn]
              go_wp2
              all_goals (go_ret3; exact ⟨by rw [← HP.out]; rfl, rfl⟩)
        · rw [if_neg h7] at hp
          have HP := Lib.hid hp
          clear hp
          rcases hb1 with ⟨rfl, hx9⟩ | hq9
          · omega
          · rcases hb2 with h0 | ⟨h0, hxn⟩
            · have h0' : ¬ (0 : Int) < (q : Int) := by omega
              have hq9' : ¬ ((q : Int) = 9) := by omega
              clear h0
              go_wp2
              go_roundw
              case rel => exact ⟨q + 1, _, by simp, by omega, by omega, rfl, HP.out, trivial⟩
              case measure => simp [intOf]; omega
            · have hq9' : ¬ ((q : Int) = 9) := by omega
              have h0' : (0 : Int) < (q : Int) := by omega
              have hxb : (x == 0) = false := by simp [hxn]
              go_wp2
              go_roundw
              case rel => exact ⟨q + 1, _, by simp, by omega, by omega, rfl, HP.out, trivial⟩
              case measure => simp [intOf]; omega
    · obtain rfl : q = l.length := by omega
      have hp2 : pk l = (0, 0, 10) := by rw [← hp]; simp [pkF]
      have HP := Lib.hid hp2
      clear hp hp2
      go_wp2
      go_ret3
      exact ⟨by rw [HP.out]; rfl, rfl⟩
end Go.Proofs.YtgajpekolamjbaaDoor
/- Cursors: peek. -/
namespace Go.Proofs.YtgajpekolamjbaaDoor
open Go.RowKit Go.Tk
set_option maxHeartbeats 1000000 in
theorem peek_calls (w : World) (c : Nat) (a : Option Addr) (cap : Nat) (z : List Int) (i : Nat) (e : Int) (h : CurC w c a cap z i e) (hz : ∀ x ∈ z, 0 ≤ x ∧ x < 256) :
    Calls Tryd.prog 63 #[.pointer (some ⟨c, 0, none⟩)] w fun e' w' => e' = .returned (pkV (pk (z.drop i))) ∧ ∃ n, w' = w.drewN n := by
  have c0 := h.c0
  have c1 := h.c1
  have hle := h.le
  have hm := h.sl.max
  have hl := h.sl.le
  have hz : ∀ x ∈ z.drop i, 0 ≤ x ∧ x < 256 := fun x hx => hz x (List.mem_of_mem_drop hx)
  have hs0 := SlI.tail h.sl i hle
  obtain ⟨l, hl2⟩ : ∃ l, l = z.drop i := ⟨_, rfl⟩
  have hll : l.length = z.length - i := by rw [hl2]; simp
  rw [← hl2] at hs0 hz ⊢
  rw [← hll] at hs0
  have HLL := Lib.hid hll
  clear hl2 hll
  go_enter Tryd.func63, Tryd.ntmps63
  go_wp2_with fail
  go_quiet (fail)
  have hs := hs0.drewN nq
  clear hs0 c0 c1
  obtain ⟨A, hA⟩ : ∃ A, A = if cap = i then a else Option.map (fun x => x.add i) a := ⟨_, rfl⟩
  rw [← hA] at hs ⊢
  rw [← HLL.out]
  obtain ⟨wq, hwq⟩ : ∃ wq, wq = w.drewN nq := ⟨_, rfl⟩
  rw [← hwq] at hs ⊢
  have HQ := Lib.hid hwq
  have hmx := hs.max
  have hle2 := hs.le
  clear hA hwq hl hm hle h
  generalize cap - i = cap2 at *
  go_wp2_with fail
  go_loopw [5, 18] (fun nv iv wr => ∃ (q : Nat) (m : Int), iv = .int .i64 q ∧ q ≤ 9 ∧ q ≤ l.length ∧ nv = .int .u64 m ∧ pkF (l.drop q) q m = pk l ∧ wq = wr) (fun _ iv _ => l.length - (intOf iv).toNat)
  case atStart => exact ⟨0, 0, rfl, by omega, by omega, rfl, rfl, rfl⟩
  case round =>
    obtain ⟨q, m, rfl, hq9n, hq, rfl, hp, rfl⟩ := hrel
    by_cases hm : q < l.length
    · obtain ⟨b, o, rfl, hc0⟩ := hs.cell q hm
      obtain ⟨x, hx⟩ : ∃ x, x = l.getD q 0 := ⟨_, rfl⟩
      have hxr : 0 ≤ x ∧ x < 256 := by rw [hx]; exact hz _ (by simp [hm])
      have hc1 : wq.cell? ⟨b, o + q, none⟩ = some (.int .u8 x) := by rw [hc0, hx]
      have hd : l.drop q = x :: l.drop (q + 1) := by rw [List.drop_eq_getElem_cons hm, hx]; simp [hm]
      have hx0 := hxr.1
      have hx1 := hxr.2
      have hy0 := bits_127 hxr
      rw [hd] at hp
      clear hc0 hx hxr hd
      by_cases hb : (q = 9 ∧ 1 < x) ∨ (0 < q ∧ x = 0)
      · have hp2 : pk l = (0, 0, 11) := by rw [← hp]; simp only [pkF]; rw [if_pos hb]
        have HP := Lib.hid hp2
        clear hp hp2
        rcases hb with ⟨rfl, hx2⟩ | ⟨h0, rfl⟩
        · go_wp2
          all_goals (go_ret3; exact ⟨by rw [HP.out]; rfl, nq, HQ.out⟩)
        · go_wp2
          all_goals (go_ret3; exact ⟨by rw [HP.out]; rfl, nq, HQ.out⟩)
      · have hb1 : (q = 9 ∧ x ≤ 1) ∨ ¬ q = 9 := by omega
        have hb2 : q = 0 ∨ (0 < q ∧ ¬ x = 0) := by omega
        simp only [pkF] at hp
        rw [if_neg hb] at hp
        clear hb
        by_cases h7 : x < 128
        · rw [if_pos h7] at hp
          have HP := Lib.hid hp
          clear hp
          rcases hb1 with ⟨rfl, hx9⟩ | hq9
          · rcases hb2 with h0 | ⟨h0, hxn⟩
            · omega
            · obtain rfl : x = 1 := by omega
              go_wp2
              all_goals (go_ret3; exact ⟨by rw [← HP.out]; rfl, nq, HQ.out⟩)
          · rcases hb2 with h0 | ⟨h0, hxn⟩
            · have h0' : ¬ (0 : Int) < (q : Int) := by omega
              have hq9' : ¬ ((q : Int) = 9) := by omega
              clear h0
              go_wp2
              all_goals (go_ret3; exact ⟨by rw [← HP.out]; rfl, nq, HQ.out⟩)
            · have hq9' : ¬ ((q : Int) = 9) := by omega
              have h0' : (0 : Int) < (q : Int) := by omega
              have hxb : (x == 0) = false := by simp [hxn]
              go_wp2
              all_goals (go_ret3; exact ⟨by rw [← HP.out]; rfl, nq, HQ.out⟩)
        · rw [if_neg h7] at hp
          have HP := Lib.hid hp
          clear hp
          rcases hb1 with ⟨rfl, hx9⟩ | hq9
          · omega
          · rcases hb2 with h0 | ⟨h0, hxn⟩
            · have h0' : ¬ (0 : Int) < (q : Int) := by omega
              have hq9' : ¬ ((q : Int) = 9) := by omega
              clear h0
              go_wp2
              go_roundw
              case rel => exact ⟨q + 1, _, by simp, by omega, by omega, rfl, HP.out, trivial⟩
              case measure => simp [intOf]; omega
            · have hq9' : ¬ ((q : Int) = 9) := by omega
              have h0' : (0 : Int) < (q : Int) := by omega
              have hxb : (x == 0) = false := by simp [hxn]
              go_wp2
              go_roundw
              case rel => exact ⟨q + 1, _, by simp, by omega, by omega, rfl, HP.out, trivial⟩
              case measure => simp [intOf]; omega
    · obtain rfl : q = l.length := by omega
      have hp2 : pk l = (0, 0, 10) := by rw [← hp]; simp [pkF]
      have HP := Lib.hid hp2
      clear hp hp2
      go_wp2
      go_ret3
      exact ⟨by rw [HP.out]; rfl, nq, HQ.out⟩
end Go.Proofs.YtgajpekolamjbaaDoor
/- Cursors: Upto, Varint. -/
namespace Go.Proofs.YtgajpekolamjbaaDoor
open Go.RowKit Go.Tk
theorem pkF_len : ∀ (l : List Int) (i : Nat) (n : Int), ∃ k : Nat, (pkF l i n).2.1 = k ∧ k ≤ i + l.length ∧ (k = 0 ∨ i < k) ∧ ((pkF l i n).2.2 = 0 ∨ (pkF l i n).2.2 = 10 ∨ (pkF l i n).2.2 = 11)
  | [], i, n => ⟨0, by simp [pkF], by simp, .inl rfl, by simp [pkF]⟩
  | b :: r, i, n => by
    simp only [pkF]
    split
    · exact ⟨0, by simp, by simp, .inl rfl, by simp⟩
    · split
      · exact ⟨i + 1, by simp, by simp only [List.length_cons]; omega, .inr (by omega), by simp⟩
      · obtain ⟨k, h1, h2, h3, h4⟩ := pkF_len r (i + 1) (bits .or .u64 n (IntKind.u64.wrap (b % 128 * 2 ^ (7 * i))))
        exact ⟨k, h1, by simp only [List.length_cons]; omega, by omega, h4⟩
/-- What Upto answers, and where it leaves the cursor. -/
def upS (z : List Int) (i : Nat) (e most : Int) : Int × Nat × Int :=
  if ¬ e = 0 then (0, i, e) else if ¬ (pk (z.drop i)).2.2 = 0 then (0, i, (pk (z.drop i)).2.2) else if most < (pk (z.drop i)).1 then (0, i, 11) else ((pk (z.drop i)).1, i + (pk (z.drop i)).2.1.toNat, 0)
theorem cupto_calls (w : World) (c : Nat) (a : Option Addr) (cap : Nat) (z : List Int) (i : Nat) (e most : Int) (h : CurC w c a cap z i e) (hz : ∀ x ∈ z, 0 ≤ x ∧ x < 256) :
    Calls Tryd.prog 45 #[.pointer (some ⟨c, 0, none⟩), .int .u64 most] w fun e' w' => e' = .returned (.int .u64 (upS z i e most).1) ∧ CurC w' c a cap z (upS z i e most).2.1 (upS z i e most).2.2 ∧ Kept (fun k => k = c) w w' := by
  have hP := peek_calls w c a cap z i e h hz
  obtain ⟨k, hk1, hk2, hk3, hk4⟩ := pkF_len (z.drop i) 0 0
  have c2 := h.c2
  have hle := h.le
  have hm := h.sl.max
  have hl := h.sl.le
  have hkl : i + k ≤ z.length := by simp at hk2; omega
  unfold upS
  change (pk (z.drop i)).2.1 = k at hk1
  change (pk (z.drop i)).2.2 = 0 ∨ (pk (z.drop i)).2.2 = 10 ∨ (pk (z.drop i)).2.2 = 11 at hk4
  generalize pk (z.drop i) = t at *
  obtain ⟨n, kk, er⟩ := t
  simp only at hk1 hk4 ⊢
  subst hk1
  clear hk2 hk3
  by_cases h0 : e = 0
  · subst h0
    rw [if_neg (by simp)]
    by_cases h1 : er = 0
    · subst h1
      rw [if_neg (by simp)]
      clear hk4
      by_cases h2 : most < n
      · rw [if_pos h2]
        have c2' : ∀ m, (w.drewN m).cell? ⟨c, 2, none⟩ = some (.int .i64 0) := fun _ => c2
        have f2' : ∀ m, (w.drewN m).frozen? ⟨c, 2, none⟩ = false := fun _ => h.fr 2
        go_enter Tryd.func45, Tryd.ntmps45
        go_wp2_with (go_at_call 63; refine hP.mono ?_; rintro e' w1 ⟨rfl, n1, rfl⟩; unfold pkV)
        go_ret
        exact ⟨rfl, (h.drewN n1).setE 11, ((Kept.refl (fun k => k = c) w).drewN n1).setCell (p := ⟨c, 2, none⟩) (.inl rfl) _⟩
      · rw [if_neg h2]
        have c1' : ∀ m, (w.drewN m).cell? ⟨c, 1, none⟩ = some (.int .i64 i) := fun _ => h.c1
        have f1' : ∀ m, (w.drewN m).frozen? ⟨c, 1, none⟩ = false := fun _ => h.fr 1
        go_enter Tryd.func45, Tryd.ntmps45
        go_wp2_with (go_at_call 63; refine hP.mono ?_; rintro e' w1 ⟨rfl, n1, rfl⟩; unfold pkV)
        go_ret
        have hS := (h.drewN n1).setI (i + k) hkl
        have hK : Kept (fun k => k = c) w ((w.drewN n1).setCell ⟨c, 1, none⟩ (.int .i64 (i + k : Nat))) := ((Kept.refl (fun k => k = c) w).drewN n1).setCell (p := ⟨c, 1, none⟩) (.inl rfl) _
        rw [show ((i + k : Nat) : Int) = (i : Int) + (k : Int) by omega] at hS hK
        exact ⟨rfl, by simpa using hS, hK⟩
    · rw [if_pos h1]
      have c2' : ∀ m, (w.drewN m).cell? ⟨c, 2, none⟩ = some (.int .i64 0) := fun _ => c2
      have f2' : ∀ m, (w.drewN m).frozen? ⟨c, 2, none⟩ = false := fun _ => h.fr 2
      clear hk4
      go_enter Tryd.func45, Tryd.ntmps45
      go_wp2_with (go_at_call 63; refine hP.mono ?_; rintro e' w1 ⟨rfl, n1, rfl⟩; unfold pkV)
      go_ret
      exact ⟨rfl, (h.drewN n1).setE er, ((Kept.refl (fun k => k = c) w).drewN n1).setCell (p := ⟨c, 2, none⟩) (.inl rfl) _⟩
  · rw [if_pos h0]
    clear hP hk4
    go_enter Tryd.func45, Tryd.ntmps45
    go_wp2
    go_ret
    exact ⟨rfl, h, Kept.refl _ _⟩
theorem cvarint_calls (w : World) (c : Nat) (a : Option Addr) (cap : Nat) (z : List Int) (i : Nat) (e : Int) (h : CurC w c a cap z i e) (hz : ∀ x ∈ z, 0 ≤ x ∧ x < 256) :
    Calls Tryd.prog 25 #[.pointer (some ⟨c, 0, none⟩)] w fun e' w' => e' = .returned (.int .u64 (upS z i e 18446744073709551615).1) ∧ CurC w' c a cap z (upS z i e 18446744073709551615).2.1 (upS z i e 18446744073709551615).2.2 ∧ Kept (fun k => k = c) w w' := by
  have hU := cupto_calls w c a cap z i e 18446744073709551615 h hz
  generalize upS z i e 18446744073709551615 = t at *
  go_enter Tryd.func25, Tryd.ntmps25
  go_wp2_with (go_at_call 45; refine hU.mono ?_; rintro e' w1 ⟨rfl, hC, hk⟩)
  go_ret
  exact ⟨rfl, hC, hk⟩
end Go.Proofs.YtgajpekolamjbaaDoor
