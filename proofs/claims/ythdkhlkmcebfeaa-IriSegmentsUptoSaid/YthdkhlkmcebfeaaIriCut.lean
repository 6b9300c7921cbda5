/- The last slash: bytealg.LastIndexByte, the document's cut. -/
import Derived.Test.YthdkhlkmcebfeaaIriU
set_option linter.unusedVariables false
set_option linter.unusedSimpArgs false
namespace Go.Tk
/-- The place of the last of some byte, plus one; 0: there is none. -/
def lastS (x : UInt8) : List UInt8 → Nat
  | [] => 0
  | b :: l => if lastS x l = 0 then (if b == x then 1 else 0) else lastS x l + 1
theorem lastS_le (x : UInt8) : ∀ l : List UInt8, lastS x l ≤ l.length
  | [] => Nat.le_refl _
  | b :: l => by
    have := lastS_le x l
    simp only [lastS]
    split
    · split <;> simp
    · simp; omega
theorem lastS_none (x : UInt8) : ∀ l : List UInt8, (∀ b ∈ l, b ≠ x) → lastS x l = 0
  | [], _ => rfl
  | b :: l, h => by
    simp only [lastS]
    rw [if_pos (lastS_none x l (fun y hy => h y (by simp [hy]))), if_neg (by simpa using h b (by simp))]
theorem lastS_at (x : UInt8) : ∀ (l : List UInt8) (i : Nat) (hi : i < l.length), l[i] = x → (∀ b ∈ l.drop (i + 1), b ≠ x) → lastS x l = i + 1
  | [], i, hi, _, _ => by simp at hi
  | b :: l, 0, _, h, hn => by
    simp only [lastS]
    rw [if_pos (lastS_none x l (fun y hy => hn y (by simpa using hy))), if_pos (by simpa using h)]
  | b :: l, i + 1, hi, h, hn => by
    simp only [lastS]
    rw [lastS_at x l i (by simpa using hi) (by simpa using h) (fun y hy => hn y (by simpa using hy))]
    simp
theorem lastS_spec (x : UInt8) : ∀ l : List UInt8, (lastS x l = 0 ∧ ∀ b ∈ l, b ≠ x) ∨ (∃ i, ∃ hi : i < l.length, lastS x l = i + 1 ∧ l[i] = x ∧ ∀ b ∈ l.drop (i + 1), b ≠ x)
  | [] => .inl ⟨rfl, by simp⟩
  | b :: l => by
    rcases lastS_spec x l with ⟨h0, hn⟩ | ⟨i, hi, h1, h2, h3⟩
    · by_cases hb : b = x
      · right
        exact ⟨0, by simp, by simp [lastS, h0, hb], by simpa using hb, by simpa using hn⟩
      · left
        refine ⟨by simp [lastS, h0, hb], ?_⟩
        intro y hy
        rcases List.mem_cons.1 hy with h | h
        · rw [h]; exact hb
        · exact hn y h
    · right
      exact ⟨i + 1, by simpa using hi, by simp [lastS, h1], by simpa using h2, by simpa using h3⟩
theorem upB_lastS (l : List UInt8) : upB l = l.take (lastS 47 l - 1) := by
  rcases lastS_spec 47 l with ⟨h0, hn⟩ | ⟨i, hi, h1, h2, h3⟩
  · rw [upB_none l hn, h0]; simp
  · rw [upB_at l i hi h2 h3, h1]; simp
theorem drop_step {l : List UInt8} {x : UInt8} {m : Nat} (hm : m < l.length) (h : ∀ b ∈ l.drop (m + 1), b ≠ x) (h1 : l[m] ≠ x) : ∀ b ∈ l.drop m, b ≠ x := by
  intro b hb
  rw [List.drop_eq_getElem_cons hm] at hb
  rcases List.mem_cons.1 hb with h2 | h2
  · rw [h2]; exact h1
  · exact h b h2
end Go.Tk
namespace Go.Proofs.Ythdkhlkmcebfeaa
open Go.RowKit Go.Tk
theorem lastIndexByte_calls (w : World) (a : Option Addr) (n c : Nat) (bs : List UInt8) (x : UInt8) (h : SlI .u8 w a n c (nums bs)) :
    Calls Try.prog 56 #[.slice a n c, .int .u8 x.toNat] w fun e w' => e = .returned (.int .i64 ((lastS x bs : Int) - 1)) ∧ w = w' := by
  have hl := h.len
  rw [nums_len] at hl
  have hm := h.max
  have hle := h.le
  have HL := Lib.hid hl
  clear hl
  go_enter Try.func56, Try.ntmps56
  go_wp2
  go_loop [5] (fun i => ∃ (k : Nat) (y : Int), k ≤ n ∧ y + 1 = (k : Int) ∧ i = .int .i64 y ∧ ∀ b ∈ bs.drop k, b ≠ x) (fun i => (intOf i + 1).toNat)
  case atStart => exact ⟨n, _, Nat.le_refl _, by omega, rfl, by rw [List.drop_of_length_le (by rw [HL.out]; omega)]; simp⟩
  case round =>
    obtain ⟨k, y, hk, hy, rfl, ht⟩ := hrel
    have HT := Lib.hid ht
    clear ht
    cases k with
    | zero =>
      obtain rfl : y = -1 := by omega
      clear hy
      go_wp2
      go_ret
      refine ⟨ret_int ?_, rfl⟩
      rw [lastS_none x bs (by simpa using HT.out)]; rfl
    | succ m =>
      obtain rfl : y = (m : Int) := by omega
      clear hy
      obtain ⟨b, o, rfl, hc⟩ := h.cell m (by omega)
      have hmb : m < bs.length := by rw [HL.out]; omega
      rw [nums_getD bs m hmb] at hc
      by_cases he : bs[m] = x
      · have hb : ((bs[m].toNat : Int) == (x.toNat : Int)) = true := by rw [he]; simp
        have HE := Lib.hid he
        clear he
        go_wp2
        go_ret
        refine ⟨ret_int ?_, rfl⟩
        rw [lastS_at x bs m hmb HE.out HT.out]; simp
      · have hb : ((bs[m].toNat : Int) == (x.toNat : Int)) = false := by
          rw [beq_eq_false_iff_ne]; intro h; exact he (UInt8.toNat.inj (by omega))
        have HE := Lib.hid he
        clear he
        go_wp2
        go_round
        case rel => exact ⟨m, _, by omega, by omega, rfl, drop_step hmb HT.out HE.out⟩
        case measure => simp [intOf]
theorem blastIndexByte_calls (w : World) (a : Option Addr) (n c : Nat) (bs : List UInt8) (x : UInt8) (h : SlI .u8 w a n c (nums bs)) :
    Calls Try.prog 33 #[.slice a n c, .int .u8 x.toNat] w fun e w' => e = .returned (.int .i64 ((lastS x bs : Int) - 1)) ∧ w = w' := by
  go_enter Try.func33, Try.ntmps33
  go_wp2_with (go_at_call 56; refine (lastIndexByte_calls _ _ _ _ _ _ h).mono ?_; rintro e w' ⟨rfl, rfl⟩)
  go_ret
  exact ⟨rfl, rfl⟩
/-- The document's cut. -/
theorem cut_calls (w : World) (B : Nat) (v : Value) (bs : List UInt8) (hw : Ow .u8 5 B w v (nums bs)) :
    Calls Try.prog 37 #[v] w fun e w' => (∃ v', e = .returned v' ∧ Ow .u8 5 B w v' (nums (upB bs)) ∧ (v'.ownBlock = v.ownBlock ∨ v'.ownBlock = none)) ∧ w = w' := by
  obtain ⟨a, c, rfl, h, _⟩ := hw.sl
  have HW := Lib.hid hw
  clear hw
  rw [nums_len] at h HW ⊢
  have hm := h.max
  have hle := h.le
  go_enter Try.func37, Try.ntmps37
  go_wp2
  go_loop [3] (fun i => ∃ (k : Nat) (y : Int), k ≤ bs.length ∧ y + 1 = (k : Int) ∧ i = .int .i64 y ∧ ∀ b ∈ bs.drop k, b ≠ 47) (fun i => (intOf i + 1).toNat)
  case atStart => exact ⟨bs.length, _, Nat.le_refl _, by omega, rfl, by simp⟩
  case round =>
    obtain ⟨k, y, hk, hy, rfl, ht⟩ := hrel
    have HT := Lib.hid ht
    clear ht
    cases k with
    | zero =>
      obtain rfl : y = -1 := by omega
      clear hy
      go_wp2
      go_ret
      refine ⟨⟨_, rfl, ?_, .inr rfl⟩, rfl⟩
      rw [upB_none bs (by simpa using HT.out)]
      exact Ow.nil _ _ _ _
    | succ m =>
      obtain rfl : y = (m : Int) := by omega
      clear hy
      obtain ⟨b, o, rfl, hc⟩ := h.cell m (by omega)
      have hmb : m < bs.length := by omega
      rw [nums_getD bs m hmb] at hc
      by_cases he : bs[m] = 47
      · have hb : ((bs[m].toNat : Int) == 47) = true := byte_lit_eq 47 rfl he
        have HE := Lib.hid he
        clear he
        go_wp2
        go_ret
        refine ⟨⟨_, rfl, ?_, .inl rfl⟩, rfl⟩
        rw [upB_at bs m hmb HE.out HT.out, ← nums_take]
        exact HW.out.front m (by rw [nums_len]; omega)
      · have hb : ((bs[m].toNat : Int) == 47) = false := byte_lit_ne 47 rfl he
        have HE := Lib.hid he
        clear he
        go_wp2
        go_round
        case rel => exact ⟨m, _, by omega, by omega, rfl, drop_step hmb HT.out HE.out⟩
        case measure => simp [intOf]
end Go.Proofs.Ythdkhlkmcebfeaa
