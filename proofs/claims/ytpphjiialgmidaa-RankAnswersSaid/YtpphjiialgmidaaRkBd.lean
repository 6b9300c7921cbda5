/- Open of right bytes. -/
import Derived.Test.YtpphjiialgmidaaRkA
set_option linter.unusedVariables false
set_option linter.unusedSimpArgs false
namespace Go.Proofs.Ytpphjiialgmidaa
open Go.RowKit Go.Tk
theorem nums_cut (l : List UInt8) (i m : Nat) : ((nums l).drop i).take m = nums ((l.drop i).take m) := by simp [nums, List.map_drop, List.map_take]
theorem wh_cut (d : List UInt8) (N : Nat) : ((whB d N).drop 8).take d.length = d := by
  obtain ⟨t, ht⟩ := dat_wh d N
  unfold datB at ht
  rw [ht, List.take_left' rfl]
theorem data_wh (w : World) (gv : Nat) (a : Option Addr) (c : Nat) (d : List UInt8) (N : Nat) (hl : d.length = (N + 7) / 8) (hv : VecAt w gv a c (whB d N) N (cntB d N)) :
    Calls Try.prog 48 #[.pointer (some ⟨gv, 0, none⟩)] w fun e w' => ∃ ad cd, e = .returned (.slice ad d.length cd) ∧ SlI .u8 w ad d.length cd (nums d) ∧ ∃ k, w' = w.drewN k := by
  have hfit := hv.fit
  have h8 : 8 + d.length ≤ (whB d N).length := by rw [hfit]; unfold oE oM oS oG; omega
  obtain ⟨b, o, ha, -⟩ := hv.sl.cell 0 (by omega)
  have hcut := hv.sl.cut 8 d.length h8
  have e8 : 8 + d.length - 8 = d.length := by omega
  rw [e8, nums_cut, wh_cut] at hcut
  have hG : oG N = 8 + d.length := by unfold oG; omega
  have k0 := hv.k0
  have k3 := hv.k3
  have k4 := hv.k4
  rw [hG] at k4
  have hle := hv.sl.le
  have hmx := hv.sl.max
  subst ha
  have hd := data_go w gv b o (whB d N).length c (8 + d.length) (by omega) h8 hle hmx k0 k3 k4
  rw [e8] at hd
  refine hd.mono fun e w' ⟨h1, h2⟩ => ⟨_, _, h1, ?_, h2⟩
  have : (if c = 8 then (some ⟨b, o, none⟩ : Option Addr) else Option.map (fun x : Addr => x.add 8) (some ⟨b, o, none⟩)) = if c = 8 then some ⟨b, o, none⟩ else some ⟨b, o + 8, none⟩ := by
    split <;> rfl
  rw [this] at hcut
  exact hcut
theorem cnt_pad (d : List UInt8) (N : Nat) (hl : d.length = (N + 7) / 8) (hp : padB d N = true) : cntB d (8 * d.length) = cntB d N := by
  by_cases h : N % 8 = 0
  · rw [show 8 * d.length = N by omega]
  · have hp' : (d.getD (N / 8) 0).toNat / 2 ^ (N % 8) = 0 := by
      simpa [padB, h] using hp
    have hlt : (d.getD (N / 8) 0).toNat < 2 ^ (N % 8) := by
      rcases Nat.div_eq_zero_iff.mp hp' with h0 | h0
      · exact absurd h0 (Nat.ne_of_gt (Nat.two_pow_pos _))
      · exact h0
    have h1 := cnt_byte d (N / 8)
    have h2 := cnt_low d (N / 8) (N % 8) (by omega)
    rw [Nat.mod_eq_of_lt hlt] at h2
    rw [show 8 * d.length = 8 * (N / 8) + 8 by omega, h1, ← h2, show 8 * (N / 8) + N % 8 = N by omega]
end Go.Proofs.Ytpphjiialgmidaa
