/- Open takes what Build makes. Plain. -/
import Derived.Test.YtjgcmnppiaikcaaDkV
import Derived.Test.YtjgcmnppiaikcaaDkQ
import Derived.Test.YtjgcmnppiaikcaaPkL
set_option linter.unusedVariables false
set_option linter.unusedSimpArgs false
namespace Go.Proofs.Ytjgcmnppiaikcaa
open Go Go.RowKit Go.Tk
theorem ent_first {L : List (List UInt8)} (hG : Good L) {eb : List UInt8} (he : nums eb = areaN L L.length) {i : Nat} (hi : i < L.length) (h0 : i % 16 ≠ 0) :
    (upS (nums (eb.drop (areaN L i).length)) 0 0 mxU).1 = (comN (L.getD (i - 1) []) (L.getD i []) : Nat) := by
  obtain ⟨r, hr⟩ := area_split L hi
  have hz : nums (eb.drop (areaN L i).length) = entB L i ++ r := by rw [← nums_drop, he, hr, List.drop_left]
  have hE : entB L i = vz ((comN (L.getD (i - 1) []) (L.getD i []) : Nat) : Int) ++ (vz (((L.getD i []).length - comN (L.getD (i - 1) []) (L.getD i []) : Nat) : Int) ++ nums ((L.getD i []).drop (comN (L.getD (i - 1) []) (L.getD i [])))) := by unfold entB; rw [if_neg h0]
  have hcl := comN_le (L.getD (i - 1) []) (L.getD i [])
  have hsz := hG.sz i hi
  rw [hz, hE, List.append_assoc]
  have := ups_vz ((comN (L.getD (i - 1) []) (L.getD i []) : Nat) : Int) [] ((vz (((L.getD i []).length - comN (L.getD (i - 1) []) (L.getD i []) : Nat) : Int) ++ nums ((L.getD i []).drop (comN (L.getD (i - 1) []) (L.getD i [])))) ++ r) (by omega) (by omega) (i := 0) rfl
  rw [List.nil_append] at this
  rw [this]
theorem opL_built {L : List (List UInt8)} (hG : Good L) {eb : List UInt8} (he : nums eb = areaN L L.length) : ∀ (f i : Nat) (last : List UInt8), i + f = L.length → (0 < i → last = L.getD (i - 1) []) →
    opL eb (packD L) (widthD L).toNat L.length f i (areaN L i).length last = (0, 0)
  | 0, i, last, h, _ => by
    have hl : eb.length = (areaN L L.length).length := by rw [← nums_len eb, he]
    simp only [opL]
    rw [if_neg (by rw [hl, show i = L.length by omega]; omega)]
  | f + 1, i, last, h, hl => by
    have hi : i < L.length := by omega
    have hent := ent_built hG he hi (last := last) (fun h => hl (by omega))
    have hn : i % 16 = 0 → numT (packD L) (widthD L).toNat (i / 16) (widthD L).toNat = (areaN L i).length := fun h0 => by
      have := num_built hG (i / 16) (by omega)
      rw [this, show 16 * (i / 16) = i by omega]
    simp only [opL, hent]
    rw [if_neg (fun h => h.2 (hn h.1)), if_neg (by simp)]
    rw [if_neg (fun h => by
      have h2 := hG.up i h.1 hi
      rw [hl h.1, h2] at h
      cases h.2)]
    rw [if_neg (fun h => by
      have h2 := ent_first hG he hi h.1
      rw [← hl (by omega)] at h2
      exact h.2 h2)]
    rw [Int.toNat_natCast]
    exact opL_built hG he f (i + 1) (L.getD i []) (by omega) (fun _ => by rw [Nat.add_sub_cancel])
/-- Open takes what Build makes; what lies where. -/
theorem open_built {L : List (List UInt8)} (hG : Good L) {b : List UInt8} (hb : nums b = dictB L) :
    shE b = (0, 0) ∧ opE b = (0, 0) ∧ hdN b = L.length ∧ hdW b = (widthD L).toNat ∧ nums (hdP b) = packD L ∧ nums (hdE b) = areaN L L.length := by
  have hnL := tot_len L
  have ht := hG.tt
  have hA := area_small hG.sz hG.tt L.length (Nat.le_refl _)
  obtain ⟨A, hAe⟩ : ∃ A, A = (areaN L L.length).length := ⟨_, rfl⟩
  have hz : nums b = vz ((L.length : Nat) : Int) ++ (vz ((A : Nat) : Int) ++ (packD L ++ areaN L L.length)) := by rw [hb, hAe]; rfl
  have h1 : hdA b = (((L.length : Nat) : Int), (vz ((L.length : Nat) : Int)).length, 0) := by
    unfold hdA; rw [hz]
    have := ups_vz ((L.length : Nat) : Int) [] (vz ((A : Nat) : Int) ++ (packD L ++ areaN L L.length)) (by omega) (by omega) (i := 0) rfl
    simpa using this
  have h2 : hdB b = (((A : Nat) : Int), (vz ((L.length : Nat) : Int)).length + (vz ((A : Nat) : Int)).length, 0) := by
    unfold hdB; rw [h1, hz]
    exact ups_vz ((A : Nat) : Int) (vz ((L.length : Nat) : Int)) (packD L ++ areaN L L.length) (by omega) (by omega) rfl
  have hN : hdN b = L.length := by unfold hdN; rw [h1]; rfl
  have hS : hdS b = A := by unfold hdS; rw [h2]; rfl
  have hW : hdW b = (widthD L).toNat := by unfold hdW widthD; rw [h2, hAe]
  have h3 : hd3 b = (vz ((L.length : Nat) : Int)).length + (vz ((A : Nat) : Int)).length := by unfold hd3; rw [h2]
  have h4 : hd4 b = hd3 b + (packD L).length := by unfold hd4; rw [hN, hW, packD_len hG]
  have hlen : b.length = hd4 b + A := by
    rw [← nums_len b, hz, h4, h3, hAe]
    simp only [List.length_append]; omega
  have hsh : shE b = (0, 0) := by
    unfold shE
    rw [if_neg (by rw [h1]; simp), if_neg (by rw [h1]; simp only; omega), if_neg (by rw [h2]; simp), if_neg (by rw [h2]; simp only; omega), if_neg (by rw [hS]; omega), if_neg (by rw [hS]; omega)]
  have hP : nums (hdP b) = packD L := by
    unfold hdP
    rw [← nums_take, ← nums_drop, hz, h4, h3, ← List.append_assoc, show ((vz ((L.length : Nat) : Int)).length + (vz ((A : Nat) : Int)).length) = (vz ((L.length : Nat) : Int) ++ vz ((A : Nat) : Int)).length by simp, List.drop_left, Nat.add_sub_cancel_left, List.take_left]
  have hE : nums (hdE b) = areaN L L.length := by
    unfold hdE
    rw [← nums_take, ← nums_drop, hz, hS, h4, h3, ← List.append_assoc, ← List.append_assoc, show ((vz ((L.length : Nat) : Int)).length + (vz ((A : Nat) : Int)).length + (packD L).length) = ((vz ((L.length : Nat) : Int) ++ vz ((A : Nat) : Int)) ++ packD L).length by simp [Nat.add_assoc], List.drop_left, hAe, List.take_length]
  refine ⟨hsh, ?_, hN, hW, hP, hE⟩
  have hl := plac_len' L L.length
  have hu := plac_u64 hG.sz hG.tt L.length (Nat.le_refl _)
  have hop : opErr (packD L) ((L.length + 15) / 16 : Nat) ((widthD L).toNat : Nat) = 0 := by
    have := open_pack (zs := placN L L.length) (fun i hi => hu _ (by
      have : (placN L L.length).getD i 0 = (placN L L.length)[i] := by simp [hi]
      rw [this]; exact List.getElem_mem hi)) (d := (widthD L).toNat) (by have := (width_range hG).2; omega) (by omega)
    rw [hl] at this
    rw [packD_eq hG, hl]
    exact this
  have hlo := opL_built hG hE L.length 0 [] (by omega) (fun h => by omega)
  unfold opE
  rw [hsh, hN, hW, hP, hop]
  have hlo2 : opL (hdE b) (packD L) (widthD L).toNat L.length L.length 0 0 [] = (0, 0) := hlo
  rw [hlo2]
  simp
end Go.Proofs.Ytjgcmnppiaikcaa
