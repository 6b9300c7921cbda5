/- Cursors: the number that stands next. -/
import Derived.Test.YtgkbkkhlnidigaaBitsCur5
import Derived.OwnWalk
set_option linter.unusedVariables false
set_option linter.unusedSimpArgs false
namespace Go.Proofs.Ytgkbkkhlnidigaa
open Go.RowKit Go.Tk
/-- The number at the front of bytes, how many it has, an error. -/
def pkF : List Int → Nat → Int → Int × Int × Int
  | [], _, _ => (0, 0, 10)
  | b :: r, i, n => if (i = 9 ∧ 1 < b) ∨ (0 < i ∧ b = 0) then (0, 0, 11)
      else if b < 128 then (bits .or .u64 n (IntKind.u64.wrap (b % 128 * 2 ^ (7 * i))), (i : Int) + 1, 0)
      else pkF r (i + 1) (bits .or .u64 n (IntKind.u64.wrap (b % 128 * 2 ^ (7 * i))))
def pk (l : List Int) : Int × Int × Int := pkF l 0 0
def pkV (t : Int × Int × Int) : Value := .tuple #[.int .u64 t.1, .int .i64 t.2.1, .int .i64 t.2.2]
theorem SlI.tail {k : IntKind} {w : World} {a : Option Addr} {n cap : Nat} {zs : List Int} (h : SlI k w a n cap zs) (i : Nat) (hi : i ≤ n) : SlI k w (if cap = i then a else Option.map (fun x => x.add i) a) (n - i) (cap - i) (zs.drop i) := by
  have hl := h.len
  have := SlI.cut h i (n - i) (by omega)
  rw [show i + (n - i) - i = n - i by omega, List.take_of_length_le (by simp; omega)] at this
  exact this
theorem bits_127 {x : Int} (h : 0 ≤ x ∧ x < 256) : bits .and .u8 x 127 = x % 128 := by
  obtain ⟨m, rfl⟩ : ∃ m : Nat, x = m := ⟨x.toNat, by omega⟩
  have : ∀ m : Fin 256, bits .and .u8 ((m : Nat) : Int) 127 = ((m : Nat) : Int) % 128 := by decide +kernel
  exact this ⟨m, by omega⟩
set_option maxHeartbeats 1000000 in
theorem number_calls (w : World) (a : Option Addr) (n cap : Nat) (l : List Int) (h : SlI .u8 w a n cap l) (hz : ∀ x ∈ l, 0 ≤ x ∧ x < 256) :
    Calls Try.prog 70 #[.slice a n cap] w fun e' w' => e' = .returned (pkV (pk l)) ∧ w = w' := by
  obtain rfl : l.length = n := h.len
  have hle := h.le
  have hmx := h.max
  go_enter Try.func70, Try.ntmps70
  go_wp2_with fail
  go_loopw [5, 6] (fun nv iv wr => ∃ (q : Nat) (m : Int), iv = .int .i64 q ∧ q ≤ 9 ∧ q ≤ l.length ∧ nv = .int .u64 m ∧ pkF (l.drop q) q m = pk l ∧ w = wr) (fun _ iv _ => l.length - (intOf iv).toNat)
  case atStart => exact ⟨0, 0, rfl, by omega, by omega, rfl, rfl, rfl⟩
  case round =>
    obtain ⟨q, m, rfl, hq9n, hq, rfl, hp, rfl⟩ := hrel
    by_cases hm : q < l.length
    · obtain ⟨b, o, rfl, hc0⟩ := h.cell q hm
      obtain ⟨x, hx⟩ : ∃ x, x = l.getD q 0 := ⟨_, rfl⟩
      have hxr : 0 ≤ x ∧ x < 256 := by rw [hx]; exact hz _ (by simp [hm])
      have hc1 : w.cell? ⟨b, o + q, none⟩ = some (.int .u8 x) := by rw [hc0, hx]
      have hd : l.drop q = x :: l.drop (q + 1) := by rw [List.drop_eq_getElem_cons hm, hx]; simp [hm]
      have hx0 := hxr.1
      have hx1 := hxr.2
      have hy0 := bits_127 hxr
      rw [hd] at hp
      clear hc0 hx hxr hd
      by_cases hb : (q = 9 ∧ 1 < x) ∨ (0 < q ∧ x = 0)
      · have hp2 : pk l = (0, 0, 11) := by rw [← hp]; simp only [pkF]; rw [if_pos hb]
        have HP := Lib.hid hp2
        clear hp hp2
        rcases hb with ⟨rfl, hx2⟩ | ⟨h0, rfl⟩
        · go_wp2
          all_goals (go_ret3; exact ⟨by rw [HP.out]; rfl, rfl⟩)
        · go_wp2
          all_goals (go_ret3; exact ⟨by rw [HP.out]; rfl, rfl⟩)
      · have hb1 : (q = 9 ∧ x ≤ 1) ∨ ¬ q = 9 := by omega
        have hb2 : q = 0 ∨ (0 < q ∧ ¬ x = 0) := by omega
        simp only [pkF] at hp
        rw [if_neg hb] at hp
        clear hb
        by_cases h7 : x < 128
        · rw [if_pos h7] at hp
          have HP := Lib.hid hp
          clear hp
          rcases hb1 with ⟨rfl, hx9⟩ | hq9
          · rcases hb2 with h0 | ⟨h0, hxn⟩
            · omega
            · obtain rfl : x = 1 := by omega
              go_wp2
              all_goals (go_ret3; exact ⟨by rw [← HP.out]; rfl, rfl⟩)
          · rcases hb2 with h0 | ⟨h0, hxn⟩
            · have h0' : ¬ (0 : Int) < (q : Int) := by omega
              have hq9' : ¬ ((q : Int) = 9) := by omega
              clear h0
              go_wp2
              all_goals (go_ret3; exact ⟨by rw [← HP.out]; rfl, rfl⟩)
            · have hq9' : ¬ ((q : Int) = 9) := by omega
              have h0' : (0 : Int) < (q : Int) := by omega
              have hxb : (x == 0) = false := by simp [hxn]
              go_wp2
              all_goals (go_ret3; exact ⟨by rw [← HP.out]; rfl, rfl⟩)
        · rw [if_neg h7] at hp
          have HP := Lib.hid hp
          clear hp
          rcases hb1 with ⟨rfl, hx9⟩ | hq9
          · omega
          · rcases hb2 with h0 | ⟨h0, hxn⟩
            · have h0' : ¬ (0 : Int) < (q : Int) := by omega
              have hq9' : ¬ ((q : Int) = 9) := by omega
              clear h0
              go_wp2
              go_roundw
              case rel => exact ⟨q + 1, _, by simp, by omega, by omega, rfl, HP.out, trivial⟩
              case measure => simp [intOf]; omega
            · have hq9' : ¬ ((q : Int) = 9) := by omega
              have h0' : (0 : Int) < (q : Int) := by omega
              have hxb : (x == 0) = false := by simp [hxn]
              go_wp2
              go_roundw
              case rel => exact ⟨q + 1, _, by simp, by omega, by omega, rfl, HP.out, trivial⟩
              case measure => simp [intOf]; omega
    · obtain rfl : q = l.length := by omega
      have hp2 : pk l = (0, 0, 10) := by rw [← hp]; simp [pkF]
      have HP := Lib.hid hp2
      clear hp hp2
      go_wp2
      go_ret3
      exact ⟨by rw [HP.out]; rfl, rfl⟩
end Go.Proofs.Ytgkbkkhlnidigaa
