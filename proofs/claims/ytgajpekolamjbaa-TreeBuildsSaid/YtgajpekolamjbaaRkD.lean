/- put, directory of the program. -/
import Derived.Test.YtgajpekolamjbaaRkL
import Derived.Outline
set_option linter.unusedVariables false
set_option linter.unusedSimpArgs false
namespace Go.Tk
open Go Go.RowKit
theorem le_val (v i : Nat) : ((v : Int) / 2 ^ (8 * i) % 256) = ((v / 256 ^ i % 256 : Nat) : Int) := by
  have e : (2 : Nat) ^ (8 * i) = 256 ^ i := by rw [Nat.pow_mul]
  have e2 : (2 : Int) ^ (8 * i) = ((256 ^ i : Nat) : Int) := by rw [← e, Int.natCast_pow]; rfl
  rw [e2]; omega
/-- A row with a number's bytes written at a place. -/
def putL (zs : List Int) (o v : Nat) : Nat → List Int
  | 0 => zs
  | k + 1 => (putL zs o v k).set (o + k) ((v / 256 ^ k % 256 : Nat) : Int)
theorem put_len (zs : List Int) (o v : Nat) : ∀ k, (putL zs o v k).length = zs.length
  | 0 => rfl
  | k + 1 => by simp [putL, put_len zs o v k]
theorem put_at (zs : List Int) (o v : Nat) : ∀ (k i : Nat), i < zs.length → (putL zs o v k)[i]? = if o ≤ i ∧ i < o + k then some ((v / 256 ^ (i - o) % 256 : Nat) : Int) else zs[i]?
  | 0, i, _ => by rw [if_neg (by omega)]; rfl
  | k + 1, i, hi => by
    simp only [putL]
    by_cases h : o + k = i
    · subst h
      rw [List.getElem?_set_self (by rw [put_len]; exact hi), if_pos (by omega)]
      rw [show o + k - o = k by omega]
    · rw [List.getElem?_set_ne h, put_at zs o v k i hi]
      by_cases h2 : o ≤ i ∧ i < o + k
      · rw [if_pos h2, if_pos (by omega)]
      · rw [if_neg h2, if_neg (by omega)]
/-- The bits from one on. -/
def clrB (y v : Nat) : Nat := y / 2 ^ v * 2 ^ v
/-- What the directories hold: the part, the number's index there, the number. -/
def Vt (d : List UInt8) (N : Nat) (t : Nat × Nat × Nat) : Prop := (t.1 = 2048 ∧ (grL d N)[t.2.1]? = some t.2.2) ∨ (t.1 = 256 ∧ (smL d N)[t.2.1]? = some t.2.2) ∨ (t.1 = 512 ∧ (mkL d N)[t.2.1]? = some t.2.2)
def CovG (d : List UInt8) (N : Nat) (L : List (Nat × Nat × Nat)) (x : Nat) : Prop := ∀ j v, j * 2048 < x → (grL d N)[j]? = some v → (2048, j, v) ∈ L
def CovS (d : List UInt8) (N : Nat) (L : List (Nat × Nat × Nat)) (x : Nat) : Prop := ∀ j v, j * 256 < x → (smL d N)[j]? = some v → (256, j, v) ∈ L
def CovM (d : List UInt8) (N : Nat) (L : List (Nat × Nat × Nat)) (c : Nat) : Prop := ∀ k v, k * 512 < c → (mkL d N)[k]? = some v → (512, k, v) ∈ L
theorem CovG.app {d N L x} (h : CovG d N L x) (t : Nat × Nat × Nat) : CovG d N (L ++ [t]) x := fun j v a b => List.mem_append_left _ (h j v a b)
theorem CovS.app {d N L x} (h : CovS d N L x) (t : Nat × Nat × Nat) : CovS d N (L ++ [t]) x := fun j v a b => List.mem_append_left _ (h j v a b)
theorem CovM.app {d N L x} (h : CovM d N L x) (t : Nat × Nat × Nat) : CovM d N (L ++ [t]) x := fun j v a b => List.mem_append_left _ (h j v a b)
theorem CovG.step {d N L A v} (h : CovG d N L A) (hA : A % 2048 = 0) (hv : (grL d N)[A / 2048]? = some v) : CovG d N (L ++ [(2048, A / 2048, v)]) (A + 8) := fun j u a b => by
  by_cases hj : j * 2048 < A
  · exact List.mem_append_left _ (h j u hj b)
  · obtain rfl : j = A / 2048 := by omega
    rw [hv] at b
    obtain rfl := Option.some.inj b
    exact List.mem_append_right _ (by simp)
theorem CovS.step {d N L A v} (h : CovS d N L A) (hA : A % 256 = 0) (hv : (smL d N)[A / 256]? = some v) : CovS d N (L ++ [(256, A / 256, v)]) (A + 8) := fun j u a b => by
  by_cases hj : j * 256 < A
  · exact List.mem_append_left _ (h j u hj b)
  · obtain rfl : j = A / 256 := by omega
    rw [hv] at b
    obtain rfl := Option.some.inj b
    exact List.mem_append_right _ (by simp)
theorem CovG.skip {d N L A} (h : CovG d N L A) (h8 : A % 8 = 0) (hA : ¬ A % 2048 = 0) : CovG d N L (A + 8) := fun j u a b => h j u (by omega) b
theorem CovS.skip {d N L A} (h : CovS d N L A) (h8 : A % 8 = 0) (hA : ¬ A % 256 = 0) : CovS d N L (A + 8) := fun j u a b => h j u (by omega) b
theorem CovM.step {d N L c v} (h : CovM d N L c) (hc : c % 512 = 0) (hv : (mkL d N)[c / 512]? = some v) : CovM d N (L ++ [(512, c / 512, v)]) (c + 1) := fun j u a b => by
  by_cases hj : j * 512 < c
  · exact List.mem_append_left _ (h j u hj b)
  · obtain rfl : j = c / 512 := by omega
    rw [hv] at b
    obtain rfl := Option.some.inj b
    exact List.mem_append_right _ (by simp)
theorem CovM.skip {d N L c} (h : CovM d N L c) (hc : ¬ c % 512 = 0) : CovM d N L (c + 1) := fun j u a b => h j u (by omega) b
theorem cov_at {d N L c m} (h : m = c) (hc : CovM d N L c) : CovM d N L m := by rw [h]; exact hc
theorem and_pred : ∀ x : Fin 256, x.val ≠ 0 → bits .and .u8 (x.val : Int) ((x.val : Int) - 1) = ((x.val &&& (x.val - 1) : Nat) : Int) := by decide +kernel
end Go.Tk
namespace Go.Proofs.Ytgajpekolamjbaa
open Go.RowKit Go.Tk
theorem kept_set {w w' : World} {g : Nat} (h : Kept (fun j => j = g) w w') (i : Nat) (v : Value) : Kept (fun j => j = g) w (w'.setCell ⟨g, i, none⟩ v) := Kept.setCell h (p := ⟨g, i, none⟩) (.inl rfl) v
set_option maxHeartbeats 1000000 in
theorem put_calls (w : World) (g : Nat) (zs : List Int) (o len c v k : Nat) (hrow : RowI .u8 5 w g zs) (ho : o + len ≤ zs.length) (hk : k ≤ len) (hz : zs.length ≤ 9000000000000000000) (hv : v ≤ 9000000000000000000) (h8 : k ≤ 7) :
    Calls Try.prog 83 #[.slice (some ⟨g, o, none⟩) len c, .int .i64 (v : Nat), .int .i64 (k : Nat)] w fun e w' => e = .returned (.tuple #[]) ∧ RowI .u8 5 w' g (putL zs o v k) ∧ Kept (fun j => j = g) w w' := by
  have HROW := Lib.hid hrow
  clear hrow
  go_enter Try.func83, Try.ntmps83
  go_wp2
  go_loopw [8] (fun iv wr => ∃ i : Nat, iv = .int .i64 (i : Nat) ∧ i ≤ k ∧ RowI .u8 5 wr g (putL zs o v i) ∧ Kept (fun j => j = g) w wr) (fun iv _ => k - (intOf iv).toNat)
  case atStart => exact ⟨0, rfl, Nat.zero_le _, HROW.out, Kept.refl _ _⟩
  case round =>
    obtain ⟨i, rfl, hi, hr, hkp⟩ := hrel
    by_cases hik : i < k
    · have c0 := hr.cell (o + i) (by rw [put_len]; omega)
      have hfz := hr.frozen (o + i)
      have hs := hr.set (o + i) ((v / 256 ^ i % 256 : Nat) : Int)
      have HS := Lib.hid hs
      have HK := Lib.hid hkp
      have hlt := hr.lt
      clear hr hs hkp
      go_wp2
      go_roundw
      case rel => exact ⟨i + 1, by go_num, by omega, by rw [le_val]; exact HS.out, kept_set HK.out _ _⟩
      case measure => simp [intOf]; omega
    · obtain rfl : i = k := by omega
      have HR := Lib.hid hr
      have HK := Lib.hid hkp
      clear hr hkp
      go_wp2
      go_end0
      exact ⟨rfl, HR.out, HK.out⟩
end Go.Proofs.Ytgajpekolamjbaa
