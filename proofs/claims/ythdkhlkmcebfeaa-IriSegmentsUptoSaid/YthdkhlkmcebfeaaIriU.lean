/- The document's until and begins. -/
import Derived.Test.YthdkhlkmcebfeaaTypes
import Derived.Test.YthdkhlkmcebfeaaBytes
import Derived.Test.YthdkhlkmcebfeaaReg
import Derived.Test.YthdkhlkmcebfeaaIriC
import Derived.BigQuiet
import Derived.WalkSpells
set_option linter.unusedVariables false
set_option linter.unusedSimpArgs false
namespace Go.Tk
/-- How many bytes there are ahead of the first that is asked for. -/
def unt (q : UInt8 → Bool) : List UInt8 → Nat
  | [] => 0
  | b :: l => if q b then 0 else unt q l + 1
theorem unt_le (q : UInt8 → Bool) : ∀ l : List UInt8, unt q l ≤ l.length
  | [] => Nat.le_refl _
  | b :: l => by
    have := unt_le q l
    simp only [unt]
    split <;> simp <;> omega
theorem unt_at (q : UInt8 → Bool) : ∀ (l : List UInt8) (i : Nat) (hi : i < l.length), q l[i] = true → (∀ b ∈ l.take i, q b = false) → unt q l = i
  | [], i, hi, _, _ => by simp at hi
  | b :: l, 0, _, h, _ => by
    have : q b = true := by simpa using h
    simp [unt, this]
  | b :: l, i + 1, hi, h, hn => by
    have hb : q b = false := hn b (by simp)
    simp only [unt]
    rw [if_neg (by simp [hb]), unt_at q l i (by simpa using hi) (by simpa using h) (fun x hx => hn x (by simp [hx]))]
theorem unt_none (q : UInt8 → Bool) : ∀ l : List UInt8, (∀ b ∈ l, q b = false) → unt q l = l.length
  | [], _ => rfl
  | b :: l, h => by
    simp only [unt]
    rw [if_neg (by simp [h b (by simp)]), unt_none q l (fun x hx => h x (by simp [hx]))]
    rfl
theorem toS_unt : ∀ l : List UInt8, toS l = unt (fun b => b == 47) l
  | [] => rfl
  | b :: l => by
    simp only [toS, unt]
    rw [toS_unt l]
theorem mem_take_snoc {q : UInt8 → Bool} {l : List UInt8} {k : Nat} (hk : k < l.length) (h : ∀ b ∈ l.take k, q b = false) (h1 : q l[k] = false) : ∀ b ∈ l.take (k + 1), q b = false := by
  intro b hb
  rw [List.take_succ_eq_append_getElem hk] at hb
  rcases List.mem_append.1 hb with h2 | h2
  · exact h b h2
  · simp at h2; subst h2; exact h1
/-- Is it one of the signs? -/
def among (signs : List UInt8) (b : UInt8) : Bool := signs.contains b
theorem among_at {signs : List UInt8} {b : UInt8} {j : Nat} (hj : j < signs.length) (h : b = signs[j]) : among signs b = true := by
  unfold among; simp [h]
theorem among_no {signs : List UInt8} {b : UInt8} (h : ∀ x ∈ signs, x ≠ b) : among signs b = false := by
  unfold among
  rw [List.contains_eq_mem]
  simp only [decide_eq_false_iff_not]
  exact fun hm => h b hm rfl
theorem among_one (x : UInt8) : among [x] = fun b => b == x := by
  funext b
  unfold among
  rw [List.contains_eq_mem]
  by_cases h : b = x
  · simp [h]
  · simp [h]
theorem toS_among (l : List UInt8) : toS l = unt (among [47]) l := by rw [toS_unt, among_one]
end Go.Tk
namespace Go.Proofs.Ythdkhlkmcebfeaa
open Go.RowKit Go.Tk
set_option maxHeartbeats 400000 in
theorem until_calls (s signs : ByteArray) (w : World) (hs : s.size ≤ 9223372036854775807) (hg : signs.size ≤ 9223372036854775807) :
    Calls Try.prog 38 #[.string s, .string signs] w fun e w' => e = .returned (.int .i64 (unt (among signs.data.toList) s.data.toList : Nat)) ∧ ∃ n, w' = w.drewN n := by
  go_enter Try.func38, Try.ntmps38
  go_wp2
  go_loopw [5, 6] (fun i _ wr => ∃ k n, k ≤ s.size ∧ i = .int .i64 (k : Nat) ∧ wr = w.drewN n ∧ ∀ b ∈ s.data.toList.take k, among signs.data.toList b = false) (fun i _ _ => s.size - (intOf i).toNat)
  case atStart => exact ⟨0, 0, Nat.zero_le _, rfl, rfl, by simp⟩
  case round =>
    obtain ⟨k, n, hk, rfl, rfl, ht⟩ := hrel
    have HT := Lib.hid ht
    clear ht
    by_cases hlt : k < s.size
    · go_wp2_with fail
      obtain ⟨wo, hwo⟩ : ∃ wo : World, wo = w.drewN n := ⟨_, rfl⟩
      rw [← hwo]
      have HWO := Lib.hid hwo
      clear hwo
      go_loopw [6] (fun j wr => ∃ q m, q ≤ signs.size ∧ j = .int .i64 (q : Nat) ∧ wr = wo.drewN m ∧ ∀ x ∈ signs.data.toList.take q, x ≠ s[k]) (fun j _ => signs.size - (intOf j).toNat)
      case atStart => exact ⟨0, 0, Nat.zero_le _, rfl, rfl, by simp⟩
      case round =>
        obtain ⟨q, m, hq, rfl, rfl, hx⟩ := hrel
        have HX := Lib.hid hx
        clear hx
        by_cases hlq : q < signs.size
        · by_cases he : s[k] = signs[q]
          · have hb : ((s[k].toNat : Int) == (signs[q].toNat : Int)) = true := by rw [he]; simp
            have HE := Lib.hid he
            clear he
            go_wp2_with fail
            go_quiet (fail)
            go_wp2
            go_ret
            refine ⟨ret_int ?_, _, by rw [HWO.out, World.drewN_drewN, World.drewN_drewN]⟩
            rw [unt_at _ _ k (by simpa using hlt) (among_at (j := q) (by simpa using hlq) HE.out) HT.out]
          · have hb : ((s[k].toNat : Int) == (signs[q].toNat : Int)) = false := by
              rw [beq_eq_false_iff_ne]; intro h; exact he (UInt8.toNat.inj (by omega))
            have HE := Lib.hid he
            clear he
            go_wp2_with fail
            go_quiet (fail)
            go_wp2
            go_roundw
            case rel =>
              refine ⟨q + 1, _, by omega, by go_num, rfl, ?_⟩
              intro x hx
              rw [List.take_succ_eq_append_getElem (by simpa using hlq)] at hx
              rcases List.mem_append.1 hx with h1 | h1
              · exact HX.out x h1
              · simp at h1; subst h1; exact fun h => HE.out h.symm
            case measure => simp [intOf]; omega
        · go_wp2_with fail
          go_roundw
          case rel =>
            refine ⟨k + 1, _, by omega, by go_num, by rw [HWO.out]; exact World.drewN_drewN _ _ _, ?_⟩
            refine mem_take_snoc (by simpa using hlt) HT.out (among_no fun x hx => ?_)
            have := HX.out
            rw [List.take_of_length_le (by simp; omega)] at this
            exact this x hx
          case measure => simp [intOf]; omega
    · go_wp2_with fail
      go_ret
      refine ⟨ret_int ?_, _, rfl⟩
      have := HT.out
      rw [List.take_of_length_le (by simp; omega)] at this
      rw [unt_none _ _ this]
      simp
theorem begins_calls (s p : ByteArray) (w : World) (hs : s.size ≤ 9223372036854775807) (hp : p.size ≤ 9223372036854775807) :
    Calls Try.prog 36 #[.string s, .string p] w fun e w' => e = .returned (.bool (Lib.hasPrefix s.data.toList p.data.toList)) ∧ w = w' := by
  have hr := Lib.hasPrefix_raw s p
  by_cases h : p.size ≤ s.size
  · have e : Lib.hasPrefix s.data.toList p.data.toList = ((s.extract 0 p.size).toList == p.toList) := by rw [← hr]; simp [h]
    rw [e]
    clear hr e
    go_enter Try.func36, Try.ntmps36
    go_wp2
    go_ret
    exact ⟨rfl, rfl⟩
  · have e : Lib.hasPrefix s.data.toList p.data.toList = false := by rw [← hr]; simp [h]
    rw [e]
    clear hr e
    go_enter Try.func36, Try.ntmps36
    go_wp2
    go_ret
    exact ⟨rfl, rfl⟩
end Go.Proofs.Ythdkhlkmcebfeaa
