/- Halving: sort.Search, of any test; how far a test holds in a dictionary of any bytes. -/
import Derived.Test.YtjgcmnppiaikcaaDkE
set_option linter.unusedVariables false
set_option linter.unusedSimpArgs false
namespace Go.Tk
open Go Go.RowKit
/-- What the halving finds. -/
def bsF (p : Nat → Bool) : Nat → Nat → Nat → Nat
  | 0, lo, _ => lo
  | f + 1, lo, hi => if lo < hi then (if p ((lo + hi) / 2) = true then bsF p f lo ((lo + hi) / 2) else bsF p f ((lo + hi) / 2 + 1) hi) else lo
theorem bsF_end (p : Nat → Bool) (f lo hi : Nat) (h : ¬ lo < hi) : bsF p f lo hi = lo := by
  cases f with
  | zero => rfl
  | succ f => simp only [bsF]; rw [if_neg h]
theorem bsF_le (p : Nat → Bool) : ∀ (f lo hi : Nat), hi - lo ≤ f → lo ≤ hi → lo ≤ bsF p f lo hi ∧ bsF p f lo hi ≤ hi
  | 0, lo, hi, h, h2 => by simp only [bsF]; omega
  | f + 1, lo, hi, h, h2 => by
    simp only [bsF]
    split
    · split
      · have := bsF_le p f lo ((lo + hi) / 2) (by omega) (by omega); omega
      · have := bsF_le p f ((lo + hi) / 2 + 1) hi (by omega) (by omega); omega
    · omega
theorem bsF_fuel (p : Nat → Bool) : ∀ (f g lo hi : Nat), hi - lo ≤ f → hi - lo ≤ g → bsF p f lo hi = bsF p g lo hi
  | 0, g, lo, hi, h, h2 => by rw [bsF_end p g lo hi (by omega)]; rfl
  | f + 1, 0, lo, hi, h, h2 => by rw [bsF_end p (f + 1) lo hi (by omega)]; rfl
  | f + 1, g + 1, lo, hi, h, h2 => by
    simp only [bsF]
    split
    · split
      · exact bsF_fuel p f g _ _ (by omega) (by omega)
      · exact bsF_fuel p f g _ _ (by omega) (by omega)
    · rfl
/-- Where the test turns from no to yes once, the halving finds the place. -/
theorem bsF_turn (p : Nat → Bool) (m : Nat) : ∀ (f lo hi : Nat), hi - lo ≤ f → lo ≤ m → m ≤ hi → (∀ i, lo ≤ i → i < hi → p i = decide (m ≤ i)) → bsF p f lo hi = m
  | 0, lo, hi, h, h1, h2, hp => by simp only [bsF]; omega
  | f + 1, lo, hi, h, h1, h2, hp => by
    simp only [bsF]
    split
    · rename_i hlt
      have hm := hp ((lo + hi) / 2) (by omega) (by omega)
      split
      · rename_i h3
        rw [h3] at hm
        have := of_decide_eq_true hm.symm
        exact bsF_turn p m f lo _ (by omega) h1 (by omega) (fun i h4 h5 => hp i h4 (by omega))
      · rename_i h3
        have h3 : p ((lo + hi) / 2) = false := by simpa using h3
        rw [h3] at hm
        have := of_decide_eq_false hm.symm
        exact bsF_turn p m f _ hi (by omega) (by omega) h2 (fun i h4 h5 => hp i (by omega) h5)
    · omega
theorem bsF_same (p q : Nat → Bool) : ∀ (f lo hi : Nat), (∀ i, lo ≤ i → i < hi → p i = q i) → bsF p f lo hi = bsF q f lo hi
  | 0, lo, hi, hp => rfl
  | f + 1, lo, hi, hp => by
    simp only [bsF]
    split
    · rw [hp ((lo + hi) / 2) (by omega) (by omega), bsF_same p q f lo _ (fun i h4 h5 => hp i h4 (by omega)), bsF_same p q f _ hi (fun i h4 h5 => hp i (by omega) h5)]
    · rfl
end Go.Tk
namespace Go.Proofs.Ytjgcmnppiaikcaa
open Go.RowKit Go.Tk
set_option maxRecDepth 100000 in
set_option maxHeartbeats 2000000 in
theorem search_calls (w : World) (n : Nat) (hn : n ≤ 4194304) (g : FuncId) (cb : Array Value) (p : Nat → Bool) (hcf : ∀ args W, (callFunc g args).run Try.prog W = .ok (.enter g args) W)
    (hf : ∀ W i, i < n → Below w.heap.size w W → Calls Try.prog g (#[.int .i64 (i : Nat)] ++ cb) W fun e w' => e = .returned (.bool (p i)) ∧ Below W.heap.size W w') :
    Calls Try.prog 73 #[.int .i64 (n : Nat), .func (.func g) #[] cb] w fun e w' => e = .returned (.int .i64 (bsF p n 0 n : Nat)) ∧ Below w.heap.size w w' := by
  obtain ⟨R, hR⟩ : ∃ R, R = bsF p n 0 n := ⟨_, rfl⟩
  rw [← hR]
  have HR := Lib.hid hR
  have HF := Lib.hid hf
  clear hR hf
  go_enter Try.func73, Try.ntmps73
  go_wp2
  go_loopw [5, 6] (fun s5 s6 wr => ∃ (lo hi : Nat), s5 = .int .i64 (lo : Nat) ∧ s6 = .int .i64 (hi : Nat) ∧ lo ≤ hi ∧ hi ≤ n ∧ R = bsF p n lo hi ∧ Below w.heap.size w wr) (fun s5 s6 _ => (intOf s6).toNat - (intOf s5).toNat)
  case atStart => exact ⟨0, n, rfl, rfl, Nat.zero_le _, Nat.le_refl _, HR.out, Below.refl _ _⟩
  case round =>
    obtain ⟨lo, hi, rfl, rfl, hlh, hin, hRl, hb⟩ := hrel
    have HRL := Lib.hid hRl
    have HB := Lib.hid hb
    clear hRl hb
    by_cases hlt : lo < hi
    · have hc := HF.out wr ((lo + hi) / 2) (by omega) HB.out
      rw [show (((lo + hi) / 2 : Nat) : Int) = ((lo : Int) + (hi : Int)) / 2 by omega] at hc
      have hst : bsF p n lo hi = if p ((lo + hi) / 2) = true then bsF p n lo ((lo + hi) / 2) else bsF p n ((lo + hi) / 2 + 1) hi := by
        rw [bsF_fuel p n (n + 1) lo hi (by omega) (by omega)]
        simp only [bsF]
        rw [if_pos hlt]
      have HST := Lib.hid hst
      clear hst
      cases hp : p ((lo + hi) / 2) with
      | false =>
        rw [hp] at hc
        have HP := Lib.hid hp
        have HC := Lib.hid hc
        clear hp hc
        go_wp2_with (refine HC.out.mono ?_; rintro e w' ⟨rfl, hb'⟩; (have HB2 := Lib.hid hb'); clear hb')
        refine ⟨⟨(lo + hi) / 2 + 1, hi, by rw [show ((lo : Int) + (hi : Int)) / 2 + 1 = (((lo + hi) / 2 + 1 : Nat) : Int) by omega], rfl, by omega, hin, ?_, ?_⟩, ?_⟩
        · rw [HRL.out, HST.out, HP.out]; rfl
        · exact HB.out.trans (HB2.out.mono HB.out.size)
        · simp [intOf]; omega
      | true =>
        rw [hp] at hc
        have HP := Lib.hid hp
        have HC := Lib.hid hc
        clear hp hc
        go_wp2_with (refine HC.out.mono ?_; rintro e w' ⟨rfl, hb'⟩; (have HB2 := Lib.hid hb'); clear hb')
        refine ⟨⟨lo, (lo + hi) / 2, rfl, by rw [show ((lo : Int) + (hi : Int)) / 2 = (((lo + hi) / 2 : Nat) : Int) by omega], by omega, by omega, ?_, ?_⟩, ?_⟩
        · rw [HRL.out, HST.out, HP.out]; rfl
        · exact HB.out.trans (HB2.out.mono HB.out.size)
        · simp [intOf]; omega
    · have hend : R = lo := by rw [HRL.out]; exact bsF_end p n lo hi hlt
      subst hend
      go_wp2
      go_ret
      exact ⟨rfl, HB.out⟩
end Go.Proofs.Ytjgcmnppiaikcaa
