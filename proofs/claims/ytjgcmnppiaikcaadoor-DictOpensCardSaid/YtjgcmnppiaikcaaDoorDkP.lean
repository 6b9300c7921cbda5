/- The bytes of a dictionary, plain. -/
import Derived.Test.YtjgcmnppiaikcaaDoorDkS
import Derived.Test.YtjgcmnppiaikcaaDoorBitsNum
import Derived.Test.YtjgcmnppiaikcaaDoorBitsPackD
set_option linter.unusedVariables false
set_option linter.unusedSimpArgs false
namespace Go.Tk
open Go Go.RowKit
theorem vz_len3 {x : Int} (h0 : 0 ≤ x) (h : x < 2097152) : (vz x).length ≤ 3 := by
  by_cases h1 : x < 128
  · rw [vz_last h1]; simp
  · rw [vz_step (by omega) (by omega)]
    by_cases h2 : x / 128 < 128
    · rw [vz_last h2]; simp
    · rw [vz_step (by omega) (by omega), vz_last (by omega)]; simp
theorem vz_u8 (x : Int) : ∀ y ∈ vz x, 0 ≤ y ∧ y < 256 := by
  have key : ∀ f (n : Int), ∀ y ∈ vzN f n, 0 ≤ y ∧ y < 256 := by
    intro f
    induction f with
    | zero => intro n y hy; simp [vzN] at hy; omega
    | succ f ih =>
      intro n y hy
      simp only [vzN] at hy
      split at hy
      · rcases List.mem_cons.1 hy with rfl | hy
        · have : ∀ k : Fin 256, 0 ≤ bits .or .u8 (k.val : Int) 128 ∧ bits .or .u8 (k.val : Int) 128 < 256 := by decide +kernel
          have hk := this ⟨(n % 256).toNat, by omega⟩
          have e : (((n % 256).toNat : Nat) : Int) = n % 256 := by omega
          simpa [e] using hk
        · exact ih _ _ hy
      · simp at hy; omega
  exact key 9 x
/-- What entry i adds to the fourth part. -/
def entB (L : List (List UInt8)) (i : Nat) : List Int :=
  if i % 16 = 0 then vz ((L.getD i []).length : Nat) ++ nums (L.getD i [])
  else vz ((comN (L.getD (i - 1) []) (L.getD i []) : Nat) : Int) ++ (vz (((L.getD i []).length - comN (L.getD (i - 1) []) (L.getD i []) : Nat) : Int) ++ nums ((L.getD i []).drop (comN (L.getD (i - 1) []) (L.getD i []))))
def areaN (L : List (List UInt8)) : Nat → List Int
  | 0 => []
  | i + 1 => areaN L i ++ entB L i
def placN (L : List (List UInt8)) : Nat → List Int
  | 0 => []
  | i + 1 => if i % 16 = 0 then placN L i ++ [((areaN L i).length : Int)] else placN L i
theorem ent_len {L : List (List UInt8)} {i : Nat} (h : (L.getD i []).length ≤ 262144) : (entB L i).length ≤ (L.getD i []).length + 6 := by
  unfold entB
  have hc := comN_le (L.getD (i - 1) []) (L.getD i [])
  split
  · have := vz_len3 (x := ((L.getD i []).length : Nat)) (by omega) (by omega)
    simp only [List.length_append, nums_len]; omega
  · have h1 := vz_len3 (x := ((comN (L.getD (i - 1) []) (L.getD i []) : Nat) : Int)) (by omega) (by omega)
    have h2 := vz_len3 (x := (((L.getD i []).length - comN (L.getD (i - 1) []) (L.getD i []) : Nat) : Int)) (by omega) (by omega)
    simp only [List.length_append, nums_len, List.length_drop]; omega
theorem area_len {L : List (List UInt8)} (hs : ∀ i, i < L.length → (L.getD i []).length ≤ 262144) : ∀ i, i ≤ L.length → (areaN L i).length ≤ 6 * tot (L.take i)
  | 0, _ => by simp [areaN]
  | i + 1, hi => by
    have h1 := area_len hs i (by omega)
    have h2 := ent_len (hs i (by omega))
    rw [tot_take (by omega)]
    simp only [areaN, List.length_append]; omega
theorem area_small {L : List (List UInt8)} (hs : ∀ i, i < L.length → (L.getD i []).length ≤ 262144) (hf : tot L ≤ 2000000) (i : Nat) (hi : i ≤ L.length) : (areaN L i).length ≤ 12000000 := by
  have h1 := area_len hs i hi
  have h2 := tot_mono L i
  omega
theorem plac_len (L : List (List UInt8)) : ∀ i, (placN L i).length ≤ i
  | 0 => by simp [placN]
  | i + 1 => by
    have := plac_len L i
    simp only [placN]
    split <;> simp <;> omega
theorem plac_u64 {L : List (List UInt8)} (hs : ∀ i, i < L.length → (L.getD i []).length ≤ 262144) (hf : tot L ≤ 2000000) : ∀ i, i ≤ L.length → ∀ x ∈ placN L i, 0 ≤ x ∧ x < 18446744073709551616
  | 0, _, x, hx => by simp [placN] at hx
  | i + 1, hi, x, hx => by
    have := area_small hs hf i (by omega)
    simp only [placN] at hx
    split at hx
    · rcases List.mem_append.1 hx with hx | hx
      · exact plac_u64 hs hf i (by omega) x hx
      · simp at hx; omega
    · exact plac_u64 hs hf i (by omega) x hx
theorem tot_len (L : List (List UInt8)) : L.length ≤ tot L := by
  unfold tot
  induction L with
  | nil => simp
  | cons x L ih => simp at ih ⊢; omega
end Go.Tk
namespace Go.Proofs.YtjgcmnppiaikcaaDoor
open Go Go.Tk
/-- How wide the places are. -/
def widthD (L : List (List UInt8)) : Int := bw ((areaN L L.length).length : Nat)
def packD (L : List (List UInt8)) : List Int := packOut (placN L L.length) (widthD L)
/-- The whole dictionary. -/
def dictB (L : List (List UInt8)) : List Int := vz (L.length : Nat) ++ (vz ((areaN L L.length).length : Nat) ++ (packD L ++ areaN L L.length))
def buildE (L : List (List UInt8)) (most : Int) : Int := if chkE L ≠ 0 then chkE L else if most < (dictB L).length then 1 else 0
def buildO (L : List (List UInt8)) (most : Int) : List Int := if buildE L most = 0 then dictB L else []
end Go.Proofs.YtjgcmnppiaikcaaDoor
