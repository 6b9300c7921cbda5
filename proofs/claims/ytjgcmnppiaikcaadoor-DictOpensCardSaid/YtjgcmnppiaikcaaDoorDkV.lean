/- What View and Open say of bytes. Plain. -/
import Derived.Test.YtjgcmnppiaikcaaDoorDkF
import Derived.Test.YtjgcmnppiaikcaaDoorPkQ
set_option linter.unusedVariables false
set_option linter.unusedSimpArgs false
namespace Go.Proofs.YtjgcmnppiaikcaaDoor
open Go Go.RowKit Go.Tk
theorem pkF_ten : ∀ (l : List Int) (i : Nat) (n : Int), i ≤ 9 → (pkF l i n).2.1 ≤ 10
  | [], i, n, h => by simp [pkF]
  | b :: r, i, n, h => by
    simp only [pkF]
    split
    · simp
    · rename_i h1
      split
      · simp only; omega
      · exact pkF_ten r (i + 1) _ (by omega)
theorem pkF_some : ∀ (l : List Int) (i : Nat) (n : Int), (pkF l i n).2.1 ≠ 0 ∨ (pkF l i n).2.2 ≠ 0
  | [], i, n => by simp [pkF]
  | b :: r, i, n => by
    simp only [pkF]
    split
    · simp
    · split
      · left; simp only; omega
      · exact pkF_some r (i + 1) _
theorem ups_ten (z : List Int) (i : Nat) (e : Int) : (upS z i e mxU).2.1 ≤ i + 10 := by
  have h := pkF_ten (z.drop i) 0 0 (by omega)
  unfold upS pk
  split
  · simp
  · split
    · simp
    · split
      · simp
      · simp only
        omega
/-- The two numbers of the head, with the place behind each and its error. -/
def hdA (b : List UInt8) : Int × Nat × Int := upS (nums b) 0 0 mxU
def hdB (b : List UInt8) : Int × Nat × Int := upS (nums b) (hdA b).2.1 0 mxU
def hdN (b : List UInt8) : Nat := (hdA b).1.toNat
def hdS (b : List UInt8) : Nat := (hdB b).1.toNat
def hdW (b : List UInt8) : Nat := (bw (hdB b).1).toNat
def hd3 (b : List UInt8) : Nat := (hdB b).2.1
def hd4 (b : List UInt8) : Nat := hd3 b + ((hdN b + 15) / 16 * hdW b + 7) / 8
/-- What the head's look says: an error and its place (0: none). -/
def shE (b : List UInt8) : Int × Nat :=
  if (hdA b).2.2 ≠ 0 then ((hdA b).2.2, 0) else
  if 4194304 < (hdA b).1 then (2, 0) else
  if (hdB b).2.2 ≠ 0 then ((hdB b).2.2, (hdA b).2.1) else
  if 67108864 < (hdB b).1 then (2, (hdA b).2.1) else
  if b.length < hd4 b + hdS b then (10, b.length) else
  if hd4 b + hdS b < b.length then (13, hd4 b + hdS b) else (0, 0)
/-- The packed places; the entries. -/
def hdP (b : List UInt8) : List UInt8 := (b.drop (hd3 b)).take (hd4 b - hd3 b)
def hdE (b : List UInt8) : List UInt8 := (b.drop (hd4 b)).take (hdS b)
structure ShOk (b : List UInt8) : Prop where
  a0 : (hdA b).2.2 = 0
  aN : hdN b ≤ 4194304
  aV : (hdA b).1 = (hdN b : Nat)
  b0 : (hdB b).2.2 = 0
  bS : hdS b ≤ 67108864
  bV : (hdB b).1 = (hdS b : Nat)
  wV : bw (hdB b).1 = (hdW b : Nat)
  wN : hdW b ≤ 27
  len : b.length = hd4 b + hdS b
  ab : (hdA b).2.1 ≤ hd3 b
  l3 : hd3 b ≤ b.length
theorem hdA_rg (b : List UInt8) : (0 ≤ (hdA b).1 ∧ (hdA b).1 < 18446744073709551616) ∧ (hdA b).2.1 ≤ b.length := by
  have := ups_range (nums b) 0 0 (Nat.zero_le _)
  rw [nums_len] at this
  exact ⟨this.1, this.2.2⟩
theorem hdB_rg (b : List UInt8) : (0 ≤ (hdB b).1 ∧ (hdB b).1 < 18446744073709551616) ∧ (hdA b).2.1 ≤ (hdB b).2.1 ∧ (hdB b).2.1 ≤ b.length := by
  have := ups_range (nums b) (hdA b).2.1 0 (by rw [nums_len]; exact (hdA_rg b).2)
  rw [nums_len] at this
  exact this
theorem hd3_le (b : List UInt8) : hd3 b ≤ 20 := by
  have h1 := ups_ten (nums b) 0 0
  have h2 := ups_ten (nums b) (hdA b).2.1 0
  unfold hd3 hdB
  unfold hdA at h2 ⊢
  omega
theorem hdW_rg {b : List UInt8} (h : (hdB b).1 ≤ 67108864) : bw (hdB b).1 = (hdW b : Nat) ∧ hdW b ≤ 27 := by
  have h0 := (hdB_rg b).1.1
  obtain ⟨m, hm⟩ : ∃ m : Nat, (hdB b).1 = m := ⟨(hdB b).1.toNat, by omega⟩
  have h1 : bw (hdB b).1 ≤ (27 : Nat) := by rw [hm]; exact bw_le_of (Nat.lt_of_le_of_lt (show m ≤ 67108864 by omega) (by decide))
  have h2 : 0 ≤ bw (hdB b).1 := by unfold bw; omega
  unfold hdW
  exact ⟨by omega, by omega⟩
theorem sh_ok {b : List UInt8} (h : (shE b).1 = 0) : ShOk b ∧ shE b = (0, 0) := by
  unfold shE at h ⊢
  split at h
  · rename_i h1; exact absurd h h1
  rename_i h1
  rw [if_neg h1]
  split at h
  · cases h
  rename_i h2
  rw [if_neg h2]
  split at h
  · rename_i h3; exact absurd h h3
  rename_i h3
  rw [if_neg h3]
  split at h
  · cases h
  rename_i h4
  rw [if_neg h4]
  split at h
  · cases h
  rename_i h5
  rw [if_neg h5]
  split at h
  · cases h
  rename_i h6
  rw [if_neg h6]
  have ha := hdA_rg b
  have hb := hdB_rg b
  have hw := hdW_rg (b := b) (by omega)
  exact ⟨⟨Classical.not_not.1 h1, by unfold hdN; omega, by unfold hdN; omega, Classical.not_not.1 h3, by unfold hdS; omega, by unfold hdS; omega, hw.1, hw.2, by omega, hb.2.1, hb.2.2⟩, rfl⟩
theorem ups_one {z : List Int} {i : Nat} (h : (upS z i 0 mxU).2.2 = 0) : i + 1 ≤ (upS z i 0 mxU).2.1 := by
  obtain ⟨k, hk1, _, hk3, hk4⟩ := pkF_len (z.drop i) 0 0
  have hk : (pk (z.drop i)).2.1 = k := hk1
  unfold upS at h ⊢
  rw [if_neg (by simp)] at h ⊢
  split at h
  · rename_i h1; exact absurd h h1
  rename_i h1
  split at h
  · cases h
  rename_i h2
  rw [if_neg h1, if_neg h2]
  simp only [hk, Int.toNat_natCast]
  rcases hk3 with h0 | h0
  · subst h0
    exfalso
    have : (pkF (z.drop i) 0 0).2.1 ≠ 0 ∨ (pkF (z.drop i) 0 0).2.2 ≠ 0 := pkF_some _ _ _
    rcases this with h3 | h3
    · exact h3 hk1
    · exact h1 h3
  · omega
theorem hd3_ge {b : List UInt8} (h : ShOk b) : 2 ≤ hd3 b := by
  have h1 := ups_one (z := nums b) (i := 0) h.a0
  have h2 := ups_one (z := nums b) (i := (hdA b).2.1) h.b0
  unfold hd3 hdB
  unfold hdA at h2 ⊢
  omega
/-- What Open's loop says from entry i on, at a place, behind a text: an error and its place in the entries (0: none). -/
def opL (eb : List UInt8) (pz : List Int) (wd n : Nat) : Nat → Nat → Nat → List UInt8 → Int × Nat
  | 0, i, p, last => if p < eb.length then (13, p) else (0, 0)
  | f + 1, i, p, last =>
    if i % 16 = 0 ∧ numT pz wd (i / 16) wd ≠ p then (161, p) else
    let en := entP eb (p : Nat) (decide (i % 16 = 0)) last
    if en.2.2 ≠ 0 then (en.2.2, p) else
    if 0 < i ∧ ltB last en.1 = false then (160, p) else
    if i % 16 ≠ 0 ∧ (upS (nums (eb.drop p)) 0 0 mxU).1 ≠ (comN last en.1 : Nat) then (161, p) else
    opL eb pz wd n f (i + 1) en.2.1.toNat en.1
/-- The texts that Open's loop goes through. -/
def txL (eb : List UInt8) (pz : List Int) (wd n : Nat) : Nat → Nat → Nat → List UInt8 → List (List UInt8)
  | 0, i, p, last => []
  | f + 1, i, p, last => (entP eb (p : Nat) (decide (i % 16 = 0)) last).1 :: txL eb pz wd n f (i + 1) (entP eb (p : Nat) (decide (i % 16 = 0)) last).2.1.toNat (entP eb (p : Nat) (decide (i % 16 = 0)) last).1
/-- What Open says. -/
def opE (b : List UInt8) : Int × Nat :=
  if (shE b).1 ≠ 0 then shE b else
  if opErr (nums (hdP b)) ((hdN b + 15) / 16 : Nat) (hdW b : Nat) ≠ 0 then (opErr (nums (hdP b)) ((hdN b + 15) / 16 : Nat) (hdW b : Nat), hd4 b - 1) else
  if (opL (hdE b) (nums (hdP b)) (hdW b) (hdN b) (hdN b) 0 0 []).1 ≠ 0 then ((opL (hdE b) (nums (hdP b)) (hdW b) (hdN b) (hdN b) 0 0 []).1, hd4 b + (opL (hdE b) (nums (hdP b)) (hdW b) (hdN b) (hdN b) 0 0 []).2) else (0, 0)
def txD (b : List UInt8) : List (List UInt8) := txL (hdE b) (nums (hdP b)) (hdW b) (hdN b) (hdN b) 0 0 []
end Go.Proofs.YtjgcmnppiaikcaaDoor
