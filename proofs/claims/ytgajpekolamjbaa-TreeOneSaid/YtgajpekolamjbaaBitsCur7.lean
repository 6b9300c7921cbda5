/- BitsCur2 BitsCur3 BitsCur4 BitsCur5 BitsCur6 BitsCur7, laid as one. -/
import Derived.Test.YtgajpekolamjbaaSlc
import Derived.Test.YtgajpekolamjbaaBitsCur
import Derived.OwnWalk
set_option linter.unusedVariables false
set_option linter.unusedSimpArgs false
/- Cursors: take. -/
namespace Go.Proofs.Ytgajpekolamjbaa
open Go.RowKit Go.Tk
/-- What a take of n bytes gives, and where it leaves the cursor. -/
def tk (z : List Int) (i : Nat) (e n : Int) : List Int × Nat × Int :=
  if ¬ e = 0 then ([], i, e) else if n < 0 ∨ (z.length : Int) - i < n then ([], i, 10) else ((z.drop i).take n.toNat, i + n.toNat, 0)
theorem SlI.drop {k : IntKind} {w : World} {b o n cap : Nat} {zs : List Int} (h : SlI k w (some ⟨b, o, none⟩) n cap zs) (m : Nat) (hm : m ≤ n) : SlI k w (some ⟨b, o + m, none⟩) (n - m) (cap - m) (zs.drop m) := by
  have hl := h.len
  have hle := h.le
  have hmx := h.max
  refine ⟨by simp [hl], by omega, by omega, fun i hi => ?_⟩
  obtain ⟨b', o', e, hc⟩ := h.cell (m + i) (by omega)
  obtain ⟨rfl, rfl⟩ : b = b' ∧ o = o' := by simpa using e
  refine ⟨b, o + m, rfl, ?_⟩
  rw [Nat.add_assoc, hc]
  simp
/-- What is known behind a take: bytes where they lie. -/
def TookC (w : World) (c : Nat) (a : Option Addr) (cap : Nat) (z : List Int) (t : List Int × Nat × Int) (e' : Ending) (w' : World) : Prop :=
  ∃ a' c', e' = .returned (.slice a' t.1.length c') ∧ SlI .u8 w' a' t.1.length c' t.1 ∧ (a' = none → c' = 0) ∧ CurC w' c a cap z t.2.1 t.2.2 ∧ Kept (fun k => k = c) w w'
end Go.Proofs.Ytgajpekolamjbaa
/- Cursors: Raw, Byte, Fixed. -/
namespace Go.Proofs.Ytgajpekolamjbaa
open Go.RowKit Go.Tk
theorem Ow.rebase {k : IntKind} {e : TypeId} {base base' : Nat} {w : World} {v : Value} {zs : List Int} (h : Ow k e base w v zs) (hb : base' ≤ base) : Ow k e base' w v zs := h.mono hb
/-- What is known behind a Raw: new bytes. -/
def RawC (w : World) (c : Nat) (a : Option Addr) (cap : Nat) (z : List Int) (t : List Int × Nat × Int) (e' : Ending) (w' : World) : Prop :=
  ∃ v', e' = .returned v' ∧ Ow .u8 5 w.heap.size w' v' t.1 ∧ CurC w' c a cap z t.2.1 t.2.2 ∧ Kept (fun k => k = c) w w'
theorem tk_len (z : List Int) (i : Nat) (e n : Int) : (tk z i e n).1.length ≤ z.length := by
  unfold tk
  split
  · simp
  · split
    · simp
    · simp; omega
end Go.Proofs.Ytgajpekolamjbaa
/- Cursors: Byte. -/
namespace Go.Proofs.Ytgajpekolamjbaa
open Go.RowKit Go.Tk
theorem tk_one (z : List Int) (i : Nat) (e : Int) : (tk z i e 1).1 = [] ∨ ∃ x, (tk z i e 1).1 = [x] := by
  have : (tk z i e 1).1.length ≤ 1 := by
    unfold tk
    split
    · simp
    · split
      · simp
      · simp; omega
  match h : (tk z i e 1).1, this with
  | [], _ => exact .inl rfl
  | [x], _ => exact .inr ⟨x, rfl⟩
end Go.Proofs.Ytgajpekolamjbaa
/- Cursors: Fixed. -/
namespace Go.Proofs.Ytgajpekolamjbaa
open Go.RowKit Go.Tk
/-- The number of so many first bytes. -/
def fxA (l : List Int) : Nat → Int
  | 0 => 0
  | k + 1 => bits .or .u64 (fxA l k) (IntKind.u64.wrap (l.getD k 0 * 2 ^ (8 * k)))
theorem tk_fix (z : List Int) (i : Nat) (e : Int) (k : Nat) (hz : ∀ x ∈ z, 0 ≤ x ∧ x < 256) : (tk z i e k).1.length ≤ k ∧ ∀ x ∈ (tk z i e k).1, 0 ≤ x ∧ x < 256 := by
  unfold tk
  split
  · simp
  · split
    · simp
    · refine ⟨by simp; omega, fun x hx => hz x (List.mem_of_mem_drop (List.mem_of_mem_take hx))⟩
end Go.Proofs.Ytgajpekolamjbaa
/- Cursors: the number that stands next. -/
namespace Go.Proofs.Ytgajpekolamjbaa
open Go.RowKit Go.Tk
/-- The number at the front of bytes, how many it has, an error. -/
def pkF : List Int → Nat → Int → Int × Int × Int
  | [], _, _ => (0, 0, 10)
  | b :: r, i, n => if (i = 9 ∧ 1 < b) ∨ (0 < i ∧ b = 0) then (0, 0, 11)
      else if b < 128 then (bits .or .u64 n (IntKind.u64.wrap (b % 128 * 2 ^ (7 * i))), (i : Int) + 1, 0)
      else pkF r (i + 1) (bits .or .u64 n (IntKind.u64.wrap (b % 128 * 2 ^ (7 * i))))
def pk (l : List Int) : Int × Int × Int := pkF l 0 0
def pkV (t : Int × Int × Int) : Value := .tuple #[.int .u64 t.1, .int .i64 t.2.1, .int .i64 t.2.2]
theorem bits_127 {x : Int} (h : 0 ≤ x ∧ x < 256) : bits .and .u8 x 127 = x % 128 := by
  obtain ⟨m, rfl⟩ : ∃ m : Nat, x = m := ⟨x.toNat, by omega⟩
  have : ∀ m : Fin 256, bits .and .u8 ((m : Nat) : Int) 127 = ((m : Nat) : Int) % 128 := by decide +kernel
  exact this ⟨m, by omega⟩
end Go.Proofs.Ytgajpekolamjbaa
/- Cursors: peek. -/
namespace Go.Proofs.Ytgajpekolamjbaa
open Go.RowKit Go.Tk
set_option maxHeartbeats 1000000 in
theorem peek_calls (w : World) (c : Nat) (a : Option Addr) (cap : Nat) (z : List Int) (i : Nat) (e : Int) (h : CurC w c a cap z i e) (hz : ∀ x ∈ z, 0 ≤ x ∧ x < 256) :
    Calls Try.prog 117 #[.pointer (some ⟨c, 0, none⟩)] w fun e' w' => e' = .returned (pkV (pk (z.drop i))) ∧ ∃ n, w' = w.drewN n := by
  have c0 := h.c0
  have c1 := h.c1
  have hle := h.le
  have hm := h.sl.max
  have hl := h.sl.le
  have hz : ∀ x ∈ z.drop i, 0 ≤ x ∧ x < 256 := fun x hx => hz x (List.mem_of_mem_drop hx)
  have hs0 := SlI.tail h.sl i hle
  obtain ⟨l, hl2⟩ : ∃ l, l = z.drop i := ⟨_, rfl⟩
  have hll : l.length = z.length - i := by rw [hl2]; simp
  rw [← hl2] at hs0 hz ⊢
  rw [← hll] at hs0
  have HLL := Lib.hid hll
  clear hl2 hll
  go_enter Try.func117, Try.ntmps117
  go_wp2_with fail
  go_quiet (fail)
  have hs := hs0.drewN nq
  clear hs0 c0 c1
  obtain ⟨A, hA⟩ : ∃ A, A = if cap = i then a else Option.map (fun x => x.add i) a := ⟨_, rfl⟩
  rw [← hA] at hs ⊢
  rw [← HLL.out]
  obtain ⟨wq, hwq⟩ : ∃ wq, wq = w.drewN nq := ⟨_, rfl⟩
  rw [← hwq] at hs ⊢
  have HQ := Lib.hid hwq
  have hmx := hs.max
  have hle2 := hs.le
  clear hA hwq hl hm hle h
  generalize cap - i = cap2 at *
  go_wp2_with fail
  go_loopw [5, 18] (fun nv iv wr => ∃ (q : Nat) (m : Int), iv = .int .i64 q ∧ q ≤ 9 ∧ q ≤ l.length ∧ nv = .int .u64 m ∧ pkF (l.drop q) q m = pk l ∧ wq = wr) (fun _ iv _ => l.length - (intOf iv).toNat)
  case atStart => exact ⟨0, 0, rfl, by omega, by omega, rfl, rfl, rfl⟩
  case round =>
    obtain ⟨q, m, rfl, hq9n, hq, rfl, hp, rfl⟩ := hrel
    by_cases hm : q < l.length
    · obtain ⟨b, o, rfl, hc0⟩ := hs.cell q hm
      obtain ⟨x, hx⟩ : ∃ x, x = l.getD q 0 := ⟨_, rfl⟩
      have hxr : 0 ≤ x ∧ x < 256 := by rw [hx]; exact hz _ (by simp [hm])
      have hc1 : wq.cell? ⟨b, o + q, none⟩ = some (.int .u8 x) := by rw [hc0, hx]
      have hd : l.drop q = x :: l.drop (q + 1) := by rw [List.drop_eq_getElem_cons hm, hx]; simp [hm]
      have hx0 := hxr.1
      have hx1 := hxr.2
      have hy0 := bits_127 hxr
      rw [hd] at hp
      clear hc0 hx hxr hd
      by_cases hb : (q = 9 ∧ 1 < x) ∨ (0 < q ∧ x = 0)
      · have hp2 : pk l = (0, 0, 11) := by rw [← hp]; simp only [pkF]; rw [if_pos hb]
        have HP := Lib.hid hp2
        clear hp hp2
        rcases hb with ⟨rfl, hx2⟩ | ⟨h0, rfl⟩
        · go_wp2
          all_goals (go_ret3; exact ⟨by rw [HP.out]; rfl, nq, HQ.out⟩)
        · go_wp2
          all_goals (go_ret3; exact ⟨by rw [HP.out]; rfl, nq, HQ.out⟩)
      · have hb1 : (q = 9 ∧ x ≤ 1) ∨ ¬ q = 9 := by omega
        have hb2 : q = 0 ∨ (0 < q ∧ ¬ x = 0) := by omega
        simp only [pkF] at hp
        rw [if_neg hb] at hp
        clear hb
        by_cases h7 : x < 128
        · rw [if_pos h7] at hp
          have HP := Lib.hid hp
          clear hp
          rcases hb1 with ⟨rfl, hx9⟩ | hq9
          · rcases hb2 with h0 | ⟨h0, hxn⟩
            · omega
            · obtain rfl : x = 1 := by omega
              go_wp2
              all_goals (go_ret3; exact ⟨by rw [← HP.out]; rfl, nq, HQ.out⟩)
          · rcases hb2 with h0 | ⟨h0, hxn⟩
            · have h0' : ¬ (0 : Int) < (q : Int) := by omega
              have hq9' : ¬ ((q : Int) = 9) := by omega
              clear h0
              go_wp2
              all_goals (go_ret3; exact ⟨by rw [← HP.out]; rfl, nq, HQ.out⟩)
            · have hq9' : ¬ ((q : Int) = 9) := by omega
              have h0' : (0 : Int) < (q : Int) := by omega
              have hxb : (x == 0) = false := by simp [hxn]
              go_wp2
              all_goals (go_ret3; exact ⟨by rw [← HP.out]; rfl, nq, HQ.out⟩)
        · rw [if_neg h7] at hp
          have HP := Lib.hid hp
          clear hp
          rcases hb1 with ⟨rfl, hx9⟩ | hq9
          · omega
          · rcases hb2 with h0 | ⟨h0, hxn⟩
            · have h0' : ¬ (0 : Int) < (q : Int) := by omega
              have hq9' : ¬ ((q : Int) = 9) := by omega
              clear h0
              go_wp2
              go_roundw
              case rel => exact ⟨q + 1, _, by simp, by omega, by omega, rfl, HP.out, trivial⟩
              case measure => simp [intOf]; omega
            · have hq9' : ¬ ((q : Int) = 9) := by omega
              have h0' : (0 : Int) < (q : Int) := by omega
              have hxb : (x == 0) = false := by simp [hxn]
              go_wp2
              go_roundw
              case rel => exact ⟨q + 1, _, by simp, by omega, by omega, rfl, HP.out, trivial⟩
              case measure => simp [intOf]; omega
    · obtain rfl : q = l.length := by omega
      have hp2 : pk l = (0, 0, 10) := by rw [← hp]; simp [pkF]
      have HP := Lib.hid hp2
      clear hp hp2
      go_wp2
      go_ret3
      exact ⟨by rw [HP.out]; rfl, nq, HQ.out⟩
end Go.Proofs.Ytgajpekolamjbaa
