/- PkQ PkL PkR, laid as one. -/
import Derived.Test.YtgajpekolamjbaaDoorPkO
set_option linter.unusedVariables false
set_option linter.unusedSimpArgs false
/- Packed numbers there and back. Plain. -/
namespace Go.Tk
open Go Go.RowKit
theorem byte_hi : ∀ y : Fin 256, ∀ v : Fin 8, (∀ j : Fin 8, v.val ≤ j.val → y.val.testBit j.val = false) → y.val / 2 ^ v.val = 0 := by decide +kernel
theorem byte_hi' : ∀ y : Fin 256, ∀ v : Fin 8, y.val / 2 ^ v.val = 0 → ∀ j : Fin 8, v.val ≤ j.val → y.val.testBit j.val = false := by decide +kernel
theorem byte_all : ∀ x y : Fin 256, (∀ j : Fin 8, x.val.testBit j.val = y.val.testBit j.val) → x.val = y.val := by
  intro x y h
  apply Nat.eq_of_testBit_eq
  intro j
  by_cases hj : j < 8
  · exact h ⟨j, hj⟩
  · rw [Nat.testBit_lt_two_pow (show x.val < 2 ^ j from Nat.lt_of_lt_of_le x.isLt (show 2 ^ 8 ≤ 2 ^ j from Nat.pow_le_pow_right (by omega) (by omega))), Nat.testBit_lt_two_pow (show y.val < 2 ^ j from Nat.lt_of_lt_of_le y.isLt (show 2 ^ 8 ≤ 2 ^ j from Nat.pow_le_pow_right (by omega) (by omega)))]
/-- Bytes with the same bits are one. -/
theorem bits_eq {x y : List Int} (hx : U8 x) (hy : U8 y) (hl : x.length = y.length) (h : ∀ q, q < 8 * x.length → bitI x q = bitI y q) : x = y := by
  apply List.ext_getElem hl
  intro i h1 h2
  have e1 : x.getD i 0 = x[i] := by rw [List.getD_eq_getElem?_getD, List.getElem?_eq_getElem h1]; rfl
  have e2 : y.getD i 0 = y[i] := by rw [List.getD_eq_getElem?_getD, List.getElem?_eq_getElem h2]; rfl
  have a := hx i h1
  have b := hy i h2
  rw [e1] at a
  rw [e2] at b
  have := byte_all ⟨x[i].toNat, by omega⟩ ⟨y[i].toNat, by omega⟩ (fun j => by
    have hj := j.isLt
    have := h (8 * i + j.val) (by omega)
    unfold bitI at this
    rw [show (8 * i + j.val) / 8 = i by omega, show (8 * i + j.val) % 8 = j.val by omega, e1, e2] at this
    exact this)
  simp only at this
  omega
theorem bitI_out {bs : List Int} {q : Nat} (h : bs.length ≤ q / 8) : bitI bs q = false := by
  unfold bitI
  rw [List.getD_eq_getElem?_getD, List.getElem?_eq_none h]
  simp
/-- No bit behind the last number: what Open asks. -/
theorem pad_iff {bs : List Int} (hu : U8 bs) {m : Nat} (hl : bs.length = (m + 7) / 8) : (¬ (0 < m % 8 ∧ bs.getD (bs.length - 1) 0 / 2 ^ (m % 8) ≠ 0)) ↔ ∀ q, m ≤ q → bitI bs q = false := by
  by_cases h8 : m % 8 = 0
  · refine ⟨fun _ q hq => bitI_out (by omega), fun _ h => by omega⟩
  · have a := hu (bs.length - 1) (by omega)
    obtain ⟨y, hy⟩ : ∃ y : Nat, bs.getD (bs.length - 1) 0 = y := ⟨(bs.getD (bs.length - 1) 0).toNat, by omega⟩
    have hyb : y < 256 := by omega
    have he : bs.getD (bs.length - 1) 0 / 2 ^ (m % 8) = ((y / 2 ^ (m % 8) : Nat) : Int) := by rw [hy, Int.natCast_ediv, Int.natCast_pow]; rfl
    rw [he]
    constructor
    · intro h q hq
      by_cases ho : bs.length ≤ q / 8
      · exact bitI_out ho
      · have hq8 : q / 8 = bs.length - 1 := by omega
        have hz : y / 2 ^ (m % 8) = 0 := by
          by_cases hz : y / 2 ^ (m % 8) = 0
          · exact hz
          · exact absurd ⟨by omega, by omega⟩ h
        have := byte_hi' ⟨y, hyb⟩ ⟨m % 8, by omega⟩ hz ⟨q % 8, by omega⟩ (by simp only; omega)
        unfold bitI
        rw [hq8, hy, Int.toNat_natCast]
        exact this
    · intro h ⟨_, h2⟩
      apply h2
      have := byte_hi ⟨y, hyb⟩ ⟨m % 8, by omega⟩ (fun j hj => by
        have hj8 := j.isLt
        have := h (8 * (bs.length - 1) + j.val) (by simp only at hj; omega)
        unfold bitI at this
        rw [show (8 * (bs.length - 1) + j.val) / 8 = bs.length - 1 by omega, show (8 * (bs.length - 1) + j.val) % 8 = j.val by omega, hy, Int.toNat_natCast] at this
        exact this)
      simp only at this
      rw [this]; rfl
theorem bw_le_of {x : Nat} {d : Nat} (hx : x < 2 ^ d) : bw (x : Int) ≤ d := by
  have key : ∀ (f x d : Nat), x < 2 ^ d → Lib.bitLenAux f x ≤ d := by
    intro f
    induction f with
    | zero => intro x d _; simp [Lib.bitLenAux]
    | succ f ih =>
      intro x d h
      simp only [Lib.bitLenAux]
      split
      · omega
      · cases d with
        | zero => simp at h; omega
        | succ d =>
          have := ih (x / 2) d (by rw [Nat.pow_succ] at h; omega)
          omega
  unfold bw Lib.bitLen
  rw [Int.toNat_natCast]
  have := key 64 x d hx
  omega
theorem lt_of_bw {x : Int} (h0 : 0 ≤ x) (h1 : x < 18446744073709551616) {d : Nat} (hd : bw x ≤ d) : x.toNat < 2 ^ d := by
  have h2 := lt_bitLenAux 64 x.toNat (by omega)
  have h3 : Lib.bitLenAux 64 x.toNat ≤ d := by unfold bw Lib.bitLen at hd; omega
  exact Nat.lt_of_lt_of_le h2 (Nat.pow_le_pow_right (by omega) h3)
/-- What Pack made gives the numbers back. -/
theorem num_pack {zs : List Int} (hz : ∀ i, i < zs.length → 0 ≤ zs.getD i 0 ∧ zs.getD i 0 < 18446744073709551616) {d R : Nat} (hR : zs.length * d ≤ 8 * R) (hf : ∀ i, i < zs.length → bw (zs.getD i 0) ≤ d) (i : Nat) (hi : i < zs.length) : numT (packTo zs d R zs.length) d i d = (zs.getD i 0).toNat := by
  obtain ⟨z0, z1⟩ := hz i hi
  have hlt := lt_of_bw z0 z1 (hf i hi)
  apply Nat.eq_of_testBit_eq
  intro j
  rw [numT_bit]
  by_cases hj : j < d
  · have hid : i * d + j < zs.length * d := by
      have : (i + 1) * d ≤ zs.length * d := Nat.mul_le_mul_right d (by omega)
      rw [Nat.add_mul, Nat.one_mul] at this
      omega
    rw [decide_eq_true hj, pack_bit hz d R zs.length (Nat.le_refl _) hR, decide_eq_true hid]
    have h1 : (i * d + j) / d = i := by rw [Nat.mul_comm, Nat.mul_add_div (by omega), Nat.div_eq_of_lt hj]; omega
    have h2 : (i * d + j) % d = j := by rw [Nat.mul_comm, Nat.mul_add_mod, Nat.mod_eq_of_lt hj]
    rw [h1, h2]; simp
  · rw [decide_eq_false hj, Bool.false_and]
    exact (Nat.testBit_lt_two_pow (Nat.lt_of_lt_of_le hlt (Nat.pow_le_pow_right (by omega) (by omega)))).symm
/-- The numbers that a view gives, packed again. -/
theorem pack_num {bs : List Int} (hu : U8 bs) {n d : Nat} (hd : 0 < d) (hd2 : d ≤ 64) (hl : bs.length = (n * d + 7) / 8) (hp : ∀ q, n * d ≤ q → bitI bs q = false) (zs : List Int) (hzl : zs.length = n) (hz : ∀ i, i < n → zs.getD i 0 = (numT bs d i d : Nat)) : packTo zs d bs.length n = bs := by
  have hz64 : ∀ i, i < zs.length → 0 ≤ zs.getD i 0 ∧ zs.getD i 0 < 18446744073709551616 := fun i hi => by
    rw [hz i (by omega)]
    have h1 := numT_lt bs d i d
    have h2 : 2 ^ d ≤ 2 ^ 64 := Nat.pow_le_pow_right (by omega) hd2
    omega
  apply bits_eq (packTo_u8 zs d bs.length n) hu (packTo_len _ _ _ _)
  intro q hq
  rw [packTo_len] at hq
  have hb := pack_bit hz64 d bs.length n (by omega) (by omega) q
  rw [hb]
  by_cases hqn : q < n * d
  · have hqd : q / d < n := Nat.div_lt_of_lt_mul (by rw [Nat.mul_comm]; exact hqn)
    have hmd := Nat.mod_lt q hd
    rw [decide_eq_true hqn, Bool.true_and, hz _ hqd, Int.toNat_natCast, numT_bit, decide_eq_true hmd, Bool.true_and]
    congr 1
    rw [Nat.mul_comm]
    exact Nat.div_add_mod q d
  · rw [decide_eq_false hqn, Bool.false_and, hp q (by omega)]
end Go.Tk
/- Packed numbers: a bit changed. Plain. -/
namespace Go.Tk
open Go Go.RowKit
theorem xor_u8 (x y : Nat) (hx : x < 256) (hy : y < 256) : bits .xor .u8 (x : Int) (y : Int) = ((x ^^^ y : Nat) : Int) := by
  have key : (BitVec.ofInt 8 (x : Int) ^^^ BitVec.ofInt 8 (y : Int)).toNat = x ^^^ y := by
    rw [BitVec.toNat_xor, BitVec.toNat_ofInt, BitVec.toNat_ofInt]
    have e1 : ((x : Int) % ((2 ^ 8 : Nat) : Int)).toNat = x := by omega
    have e2 : ((y : Int) % ((2 ^ 8 : Nat) : Int)).toNat = y := by omega
    rw [e1, e2]
  show IntKind.u8.wrap ((BitVec.ofInt 8 (x : Int) ^^^ BitVec.ofInt 8 (y : Int)).toNat : Nat) = _
  rw [key, IntKind.wrap_u8]
  have : x ^^^ y < 2 ^ 8 := Nat.xor_lt_two_pow hx hy
  omega
/-- One bit changed. -/
def flipB (bs : List Int) (k : Nat) : List Int := bs.set (k / 8) (((bs.getD (k / 8) 0).toNat ^^^ 2 ^ (k % 8) : Nat) : Int)
theorem flipB_len (bs : List Int) (k : Nat) : (flipB bs k).length = bs.length := by simp [flipB]
theorem flip_val {bs : List Int} (hu : U8 bs) (k : Nat) (hk : k / 8 < bs.length) : (bs.getD (k / 8) 0).toNat ^^^ 2 ^ (k % 8) < 256 := by
  obtain ⟨u1, u2⟩ := hu (k / 8) hk
  have h1 : (2 : Nat) ^ (k % 8) < 2 ^ 8 := Nat.pow_lt_pow_right (by omega) (by omega)
  exact Nat.xor_lt_two_pow (n := 8) (by omega) h1
theorem flipB_u8 {bs : List Int} (hu : U8 bs) (k : Nat) (hk : k / 8 < bs.length) : U8 (flipB bs k) := by
  intro i hi
  rw [flipB_len] at hi
  unfold flipB
  by_cases h : i = k / 8
  · subst h
    rw [getD_set_self hi]
    have := flip_val hu k hk
    omega
  · rw [getD_set_other (fun e => h e.symm)]
    exact hu i hi
theorem flipB_bit {bs : List Int} (k : Nat) (hk : k / 8 < bs.length) (q : Nat) : bitI (flipB bs k) q = (bitI bs q ^^ decide (q = k)) := by
  unfold bitI flipB
  by_cases hb : q / 8 = k / 8
  · rw [hb, getD_set_self hk, Int.toNat_natCast, Nat.testBit_xor, Nat.testBit_two_pow]
    congr 1
    by_cases h : q = k
    · subst h; simp
    · rw [decide_eq_false h]; simp; omega
  · rw [getD_set_other (fun h => hb h.symm)]
    have : ¬ q = k := fun h => hb (by rw [h])
    rw [decide_eq_false this]; simp
theorem opErr_zero {bs : List Int} {n d : Nat} (h : opErr bs (n : Nat) (d : Nat) = 0) : d ≤ 64 ∧ n ≤ 2147483647 ∧ bs.length = (n * d + 7) / 8 ∧ ¬ (0 < n * d % 8 ∧ bs.getD (bs.length - 1) 0 / 2 ^ (n * d % 8) ≠ 0) := by
  unfold opErr at h
  have hm : (n : Int) * (d : Int) = ((n * d : Nat) : Int) := by rw [Int.natCast_mul]
  rw [hm] at h
  have e8 : (((n * d : Nat) : Int) % 8).toNat = n * d % 8 := by omega
  rw [e8] at h
  generalize n * d = M at *
  split at h
  · omega
  · split at h
    · omega
    · split at h
      · omega
      · split at h
        · omega
        · rename_i h1 h2 h3 h4
          refine ⟨by omega, by omega, by omega, fun hh => h4 ⟨by omega, hh.2⟩⟩
theorem opErr_ok {bs : List Int} {n d : Nat} (hd : d ≤ 64) (hn : n ≤ 2147483647) (hl : bs.length = (n * d + 7) / 8) (hp : ¬ (0 < n * d % 8 ∧ bs.getD (bs.length - 1) 0 / 2 ^ (n * d % 8) ≠ 0)) : opErr bs (n : Nat) (d : Nat) = 0 := by
  unfold opErr
  have hm : (n : Int) * (d : Int) = ((n * d : Nat) : Int) := by rw [Int.natCast_mul]
  rw [hm]
  have e8 : (((n * d : Nat) : Int) % 8).toNat = n * d % 8 := by omega
  rw [e8]
  generalize n * d = M at *
  rw [if_neg (by omega), if_neg (by omega), if_neg (by omega), if_neg (fun hh => hp ⟨by omega, hh.2⟩)]
theorem opErr_two {bs : List Int} {n d : Nat} (hd : d ≤ 64) (hn : n ≤ 2147483647) (hl : bs.length = (n * d + 7) / 8) : opErr bs (n : Nat) (d : Nat) = 0 ∨ opErr bs (n : Nat) (d : Nat) = 12 := by
  unfold opErr
  have hm : (n : Int) * (d : Int) = ((n * d : Nat) : Int) := by rw [Int.natCast_mul]
  rw [hm]
  generalize n * d = M at *
  rw [if_neg (by omega), if_neg (by omega), if_neg (by omega)]
  split
  · exact .inr rfl
  · exact .inl rfl
/-- What Pack makes is opened. -/
theorem open_pack {zs : List Int} (hz : ∀ i, i < zs.length → 0 ≤ zs.getD i 0 ∧ zs.getD i 0 < 18446744073709551616) {d : Nat} (hd : d ≤ 64) (hn : zs.length ≤ 2147483647) : opErr (packTo zs d ((zs.length * d + 7) / 8) zs.length) (zs.length : Nat) (d : Nat) = 0 := by
  refine opErr_ok hd hn (packTo_len _ _ _ _) ((pad_iff (packTo_u8 _ _ _ _) (packTo_len _ _ _ _)).2 fun q hq => ?_)
  rw [pack_bit hz d _ zs.length (Nat.le_refl _) (by omega), decide_eq_false (by omega)]
  simp
/-- A bit changed: other numbers, or none. -/
theorem flip_law {zs : List Int} (hz : ∀ i, i < zs.length → 0 ≤ zs.getD i 0 ∧ zs.getD i 0 < 18446744073709551616) {d R : Nat} (hR : R = (zs.length * d + 7) / 8) (hf : ∀ i, i < zs.length → bw (zs.getD i 0) ≤ d) (k : Nat) (hk : k / 8 < R)
    (h0 : opErr (flipB (packTo zs d R zs.length) k) (zs.length : Nat) (d : Nat) = 0) : ∃ i, i < zs.length ∧ (numT (flipB (packTo zs d R zs.length) k) d i d : Int) ≠ zs.getD i 0 := by
  have hu := packTo_u8 zs d R zs.length
  have hl := packTo_len zs d R zs.length
  have hkl : k / 8 < (packTo zs d R zs.length).length := by rw [hl]; exact hk
  have hfu := flipB_u8 hu k hkl
  obtain ⟨hd, _, hl2, hp⟩ := opErr_zero h0
  have hp2 := (pad_iff hfu hl2).1 hp
  have hb := flipB_bit k hkl
  have hkn : k < zs.length * d := by
    by_cases h : k < zs.length * d
    · exact h
    · have h1 := hp2 k (by omega)
      rw [hb, pack_bit hz d R zs.length (Nat.le_refl _) (by omega), decide_eq_false h] at h1
      simp at h1
  have hd0 : 0 < d := by
    rcases Nat.eq_zero_or_pos d with h | h
    · subst h; omega
    · exact h
  have hi : k / d < zs.length := Nat.div_lt_of_lt_mul (by rw [Nat.mul_comm]; exact hkn)
  have hmd := Nat.mod_lt k hd0
  have hkk : k / d * d + k % d = k := by rw [Nat.mul_comm]; exact Nat.div_add_mod k d
  refine ⟨k / d, hi, fun he => ?_⟩
  obtain ⟨z0, z1⟩ := hz (k / d) hi
  have h1 : numT (flipB (packTo zs d R zs.length) k) d (k / d) d = numT (packTo zs d R zs.length) d (k / d) d := by
    rw [num_pack hz (by omega) hf (k / d) hi]; omega
  have h2 : (numT (flipB (packTo zs d R zs.length) k) d (k / d) d).testBit (k % d) = (numT (packTo zs d R zs.length) d (k / d) d).testBit (k % d) := by rw [h1]
  rw [numT_bit, numT_bit, hkk, hb, decide_eq_true hmd] at h2
  simp at h2
theorem anyW_fit {zs : List Int} {d : Nat} (h : anyW zs (d : Nat) = false) : ∀ i, i < zs.length → bw (zs.getD i 0) ≤ d := by
  intro i hi
  by_cases hh : bw (zs.getD i 0) ≤ d
  · exact hh
  · rw [anyW_yes hi (by omega)] at h
    cases h
theorem fit_anyW {zs : List Int} {d : Nat} (h : ∀ i, i < zs.length → bw (zs.getD i 0) ≤ d) : anyW zs (d : Nat) = false := by
  unfold anyW
  rw [List.any_eq_false]
  intro x hx
  obtain ⟨i, hi, rfl⟩ := List.getElem_of_mem hx
  have := h i hi
  rw [List.getD_eq_getElem?_getD, List.getElem?_eq_getElem hi] at this
  simp only [Option.getD_some] at this
  simp only [decide_eq_true_eq]
  omega
end Go.Tk
/- The document's Open of any bytes: the numbers one by one. -/
namespace Go.Proofs.YtgajpekolamjbaaDoor
open Go.RowKit Go.Tk
/-- The numbers as far as they are made: those ahead of i whole, of number i so many bits. -/
def fillT (zs : List Int) (d m i k : Nat) : List Int := (List.range m).map fun x => if x < i then ((numT zs d x d : Nat) : Int) else if x = i then ((numT zs d i k : Nat) : Int) else 0
theorem fill_len (zs : List Int) (d m i k : Nat) : (fillT zs d m i k).length = m := by simp [fillT]
theorem fill_zero (zs : List Int) (d m : Nat) : fillT zs d m 0 0 = List.replicate m 0 := by
  refine List.ext_getElem (by simp [fillT]) fun j h1 h2 => ?_
  simp only [fillT, List.getElem_map, List.getElem_range, List.getElem_replicate]
  rw [if_neg (by omega)]
  split <;> simp [numT]
theorem fill_get {zs : List Int} {d m i k : Nat} (hi : i < m) : (fillT zs d m i k).getD i 0 = (numT zs d i k : Nat) := by
  simp [fillT, hi]
theorem fill_set {zs : List Int} {d m i k : Nat} (hi : i < m) : (fillT zs d m i k).set i ((numT zs d i (k + 1) : Nat) : Int) = fillT zs d m i (k + 1) := by
  refine List.ext_getElem (by simp [fillT]) fun j h1 h2 => ?_
  simp only [fillT, List.getElem_set, List.getElem_map, List.getElem_range]
  by_cases h : i = j
  · subst h; simp
  · rw [if_neg h, if_neg (show ¬ j = i by omega), if_neg (show ¬ j = i by omega)]
theorem fill_next {zs : List Int} {d m i : Nat} : fillT zs d m i d = fillT zs d m (i + 1) 0 := by
  refine List.ext_getElem (by simp [fillT]) fun j h1 h2 => ?_
  simp only [fillT, List.getElem_map, List.getElem_range]
  by_cases h : j < i
  · rw [if_pos h, if_pos (show j < i + 1 by omega)]
  · by_cases h' : j = i
    · subst h'; simp
    · rw [if_neg h, if_neg h', if_neg (show ¬ j < i + 1 by omega)]
      split <;> simp [numT]
theorem fill_all {zs : List Int} {d m k : Nat} (x : Nat) (hx : x < m) : (fillT zs d m m k).getD x 0 = (numT zs d x d : Nat) := by
  simp [fillT, hx]
/-- What the document's Open hands back. -/
def ROpen (w : World) (zs : List Int) (n wd : Int) (e : Ending) (w' : World) : Prop :=
  ∃ v, e = .returned (.tuple #[v, .int .i64 (opErr zs n wd)]) ∧ Below w.heap.size w w' ∧
    (opErr zs n wd = 0 → wd ≠ 0 → ∃ g, v = .slice (some ⟨g, 0, none⟩) n.toNat n.toNat ∧ w.heap.size ≤ g ∧ RowI .u64 76 w' g (fillT zs wd.toNat n.toNat n.toNat 0)) ∧
    (opErr zs n wd ≠ 0 ∨ wd = 0 → v = .slice none 0 0)
theorem ropen_none {w : World} {zs : List Int} {n wd : Int} {k : Int} (he : opErr zs n wd = k) (hk : k ≠ 0 ∨ wd = 0) {w' : World} (hb : Below w.heap.size w w') : ROpen w zs n wd (.returned (.tuple #[.slice none 0 0, .int .i64 k])) w' :=
  ⟨_, by rw [he], hb, fun h hw => by rcases hk with hk | hk; exact absurd (he.symm.trans h) hk; exact absurd hk hw, fun _ => rfl⟩
set_option maxRecDepth 100000 in
set_option maxHeartbeats 4000000 in
theorem ropen_calls (w : World) (a : Option Addr) (L c : Nat) (zs : List Int) (h : SlI .u8 w a L c zs) (hu : U8 zs) (n wd : Int) :
    Calls Tryd.prog 42 #[.slice a L c, .int .i64 n, .int .i64 wd] w (ROpen w zs n wd) := by
  by_cases hw0 : wd < 0
  · have he : opErr zs n wd = 14 := by unfold opErr; rw [if_pos (.inl (by omega))]
    have HE := Lib.hid he
    clear he
    go_enter Tryd.func42, Tryd.ntmps42
    go_wp2
    go_ret2
    exact ropen_none HE.out (.inl (by omega)) (Below.refl _ _)
  by_cases hw1 : 64 < wd
  · have he : opErr zs n wd = 14 := by unfold opErr; rw [if_pos (.inl (by omega))]
    have HE := Lib.hid he
    clear he
    go_enter Tryd.func42, Tryd.ntmps42
    go_wp2
    go_ret2
    exact ropen_none HE.out (.inl (by omega)) (Below.refl _ _)
  by_cases hn0 : n < 0
  · have he : opErr zs n wd = 14 := by unfold opErr; rw [if_pos (.inr (.inl hn0))]
    have HE := Lib.hid he
    clear he
    go_enter Tryd.func42, Tryd.ntmps42
    go_wp2
    go_ret2
    exact ropen_none HE.out (.inl (by omega)) (Below.refl _ _)
  by_cases hn1 : 2147483647 < n
  · have he : opErr zs n wd = 14 := by unfold opErr; rw [if_pos (.inr (.inr hn1))]
    have HE := Lib.hid he
    clear he
    go_enter Tryd.func42, Tryd.ntmps42
    go_wp2
    go_ret2
    exact ropen_none HE.out (.inl (by omega)) (Below.refl _ _)
  obtain ⟨m, rfl⟩ := Int.eq_ofNat_of_zero_le (show 0 ≤ n by omega)
  obtain ⟨d, rfl⟩ := Int.eq_ofNat_of_zero_le (show 0 ≤ wd by omega)
  have hno : ¬ (¬ (0 ≤ (d : Int) ∧ (d : Int) ≤ 64) ∨ (m : Int) < 0 ∨ 2147483647 < (m : Int)) := by omega
  have hd : d ≤ 64 := by omega
  have hm : m ≤ 2147483647 := by omega
  have hmd : m * d ≤ m * 64 := Nat.mul_le_mul_left m hd
  obtain ⟨M, hM⟩ : ∃ M, M = m * d := ⟨_, rfl⟩
  have hMi : (m : Int) * (d : Int) = (M : Int) := by rw [hM, Int.natCast_mul]
  obtain ⟨R, hR⟩ : ∃ R : Nat, R = (M + 7) / 8 := ⟨_, rfl⟩
  have hR' : ((M : Int) + 7) / 8 = (R : Int) := by omega
  have hll := h.len
  have hlc := h.le
  have hmx := h.max
  have hRb : R ≤ 17179869177 := by omega
  have hMb : M ≤ 137438953408 := by omega
  have heq : opErr zs (m : Int) (d : Int) = (if L < R then 10 else if R < L then 13 else if 0 < M % 8 ∧ zs.getD (L - 1) 0 / 2 ^ (M % 8) ≠ 0 then 12 else 0) := by
    obtain ⟨v, hv⟩ : ∃ v : Nat, v = M % 8 := ⟨_, rfl⟩
    have hv' : (M : Int) % 8 = (v : Int) := by omega
    rw [← hv]
    unfold opErr
    rw [if_neg hno, hMi, hR', hv', hll, Int.toNat_natCast]
    by_cases h1 : L < R
    · rw [if_pos h1, if_pos (by omega)]
    · rw [if_neg h1, if_neg (by omega)]
      by_cases h2 : R < L
      · rw [if_pos h2, if_pos (by omega)]
      · rw [if_neg h2, if_neg (by omega)]
        by_cases h3 : 0 < v ∧ zs.getD (L - 1) 0 / 2 ^ v ≠ 0
        · rw [if_pos h3, if_pos ⟨by omega, h3.2⟩]
        · rw [if_neg h3, if_neg (fun h => h3 ⟨by omega, h.2⟩)]
  have HMI := Lib.hid hMi
  have HR' := Lib.hid hR'
  have HEQ := Lib.hid heq
  have HLL := Lib.hid hll
  have HRR := Lib.hid hR
  have HM := Lib.hid hM
  have HS := Lib.hid h
  have HU := Lib.hid hu
  clear heq hR hR' hll hno h hu hM
  have hr0 : (0 : Int) ≤ (m : Int) * (d : Int) := by rw [hMi]; omega
  have hr1 : (m : Int) * (d : Int) ≤ 4611686018427387904 := by rw [hMi]; omega
  have HR0 := Lib.hid hr0
  have HR1 := Lib.hid hr1
  clear hr0 hr1
  by_cases h1 : L < R
  · have he : opErr zs (m : Int) (d : Int) = 10 := by rw [HEQ.out, if_pos h1]
    have HE := Lib.hid he
    clear he
    go_enter Tryd.func42, Tryd.ntmps42
    go_wp2_with (go_at_call 58; refine (rroom_calls _ _ _ HR0.out HR1.out).mono ?_; rintro e w' ⟨rfl, rfl⟩; rw [HMI.out, HR'.out])
    go_ret2
    exact ropen_none HE.out (.inl (by omega)) (Below.refl _ _)
  by_cases h2 : R < L
  · have he : opErr zs (m : Int) (d : Int) = 13 := by rw [HEQ.out, if_neg h1, if_pos h2]
    have HE := Lib.hid he
    clear he
    go_enter Tryd.func42, Tryd.ntmps42
    go_wp2_with (go_at_call 58; refine (rroom_calls _ _ _ HR0.out HR1.out).mono ?_; rintro e w' ⟨rfl, rfl⟩; rw [HMI.out, HR'.out])
    go_ret2
    exact ropen_none HE.out (.inl (by omega)) (Below.refl _ _)
  obtain rfl : R = L := by omega
  have hpad := pad_iff HU.out (m := M) (by rw [HLL.out]; exact HRR.out)
  rw [HLL.out] at hpad
  have HPAD := Lib.hid hpad
  clear hpad
  go_enter Tryd.func42, Tryd.ntmps42
  go_wp2_with (go_at_call 58; refine (rroom_calls _ _ _ HR0.out HR1.out).mono ?_; rintro e w' ⟨rfl, rfl⟩; rw [HMI.out, HR'.out])
  have hMR : M ≤ 8 * R := by have := HRR.out; omega
  go_loopw [8] (fun av wr => ∃ t : Nat, av = .int .i64 (t : Nat) ∧ M ≤ t ∧ t ≤ 8 * R ∧ (∀ q, M ≤ q → q < t → bitI zs q = false) ∧ wr = w) (fun av _ => 8 * R - (intOf av).toNat)
  case atStart => exact ⟨M, rfl, Nat.le_refl _, hMR, (fun q h1 h2 => by omega), rfl⟩
  case round =>
    obtain ⟨t, rfl, ht0, ht1, hbits, rfl⟩ := hrel
    have HBITS := Lib.hid hbits
    clear hbits
    by_cases hlt : t < 8 * R
    · obtain ⟨q, hq⟩ : ∃ q, q = t / 8 := ⟨_, rfl⟩
      obtain ⟨r, hr⟩ : ∃ r, r = t % 8 := ⟨_, rfl⟩
      obtain ⟨b, o, rfl, hc⟩ := HS.out.cell q (by omega)
      have hub := HU.out q (by rw [HLL.out]; omega)
      obtain ⟨y, hy⟩ : ∃ y : Nat, zs.getD q 0 = y := ⟨(zs.getD q 0).toNat, by omega⟩
      rw [hy] at hc hub
      have hy2 : y < 256 := by omega
      have HY := Lib.hid hy
      have p1 : (t : Int) / 8 = (q : Int) := by omega
      have p2 : (t : Int) % 8 = (r : Int) := by omega
      have p3 : q < R := by omega
      have p4 : r < 8 := by omega
      have HQ := Lib.hid hq
      have HR := Lib.hid hr
      clear hy hq hr
      have hbit : bitI zs t = y.testBit r := by
        unfold bitI
        rw [← HQ.out, ← HR.out, HY.out, Int.toNat_natCast]
      have hval := bit_val ⟨y, hy2⟩ ⟨r, p4⟩
      simp only at hval
      cases hb : y.testBit r with
      | true =>
        rw [hb, if_pos rfl] at hval
        rw [hb] at hbit
        have he : opErr zs (m : Int) (d : Int) = 12 := by
          rw [HEQ.out, if_neg h1, if_neg h2, if_pos]
          by_cases hcond : 0 < M % 8 ∧ zs.getD (R - 1) 0 / 2 ^ (M % 8) ≠ 0
          · exact hcond
          · have := HPAD.out.1 hcond t ht0
            rw [hbit] at this; cases this
        have HE := Lib.hid he
        clear hb hbit he
        go_wp2
        go_ret2
        exact ropen_none HE.out (.inl (by omega)) (Below.refl _ _)
      | false =>
        rw [hb, if_neg (by simp)] at hval
        rw [hb] at hbit
        have HB := Lib.hid hbit
        clear hb hbit
        go_wp2
        go_roundw
        case rel => exact ⟨t + 1, by go_num, by omega, by omega, (fun q h1 h2 => by
          by_cases hqt : q = t
          · subst hqt; exact HB.out
          · exact HBITS.out q h1 (by omega)), trivial⟩
        case measure => simp [intOf]; omega
    · obtain rfl : t = 8 * R := by omega
      have he : opErr zs (m : Int) (d : Int) = 0 := by
        rw [HEQ.out, if_neg h1, if_neg h2, if_neg]
        refine HPAD.out.2 fun q hq => ?_
        by_cases hq2 : q < 8 * R
        · exact HBITS.out q hq hq2
        · exact bitI_out (by rw [HLL.out]; omega)
      have HE := Lib.hid he
      clear he
      by_cases hd0 : d = 0
      · have ed : ((d : Int) == 0) = true := by simp [hd0]
        have HD0 := Lib.hid hd0
        clear hd0
        go_wp2
        go_ret2
        exact ropen_none HE.out (.inr (by rw [HD0.out]; rfl)) (Below.refl _ _)
      · have ed : ((d : Int) == 0) = false := by simp; omega
        go_wp2_with (at_make; refine wpList_mkJ rfl _ _ 68 rfl 76 (.int .u64 0) 8 Tryd.underlying68 Tryd.infoU64 rfl _ _ _ _ m rfl rfl rfl rfl (by omega) (by omega) ?_; intro w1 hw1 hb1)
        have row1 : RowI .u64 76 w1 wr.heap.size (fillT zs d m 0 0) := by
          rw [fill_zero]; unfold RowI; rw [List.map_replicate]; exact hw1
        have B1 : Below wr.heap.size wr w1 := below_of_grown hb1 (Nat.le_refl _) (by simp)
        have ROW1 := Lib.hid row1
        have HB1 := Lib.hid B1
        have hz1 : wr.heap.size < w1.heap.size := row1.lt
        clear hw1 hb1 row1 B1
        generalize wr = w0 at *
        go_loopw [10] (fun iv wr => ∃ i : Nat, iv = .int .i64 (i : Nat) ∧ i ≤ m ∧ RowI .u64 76 wr w0.heap.size (fillT zs d m i 0) ∧ w1.grownBy wr (some w0.heap.size)) (fun iv _ => m - (intOf iv).toNat)
        case atStart => exact ⟨0, rfl, Nat.zero_le _, ROW1.out, World.grownBy.refl _ _⟩
        case round =>
          obtain ⟨i, rfl, hi, hrow, hgr⟩ := hrel
          by_cases hlt : i < m
          · obtain ⟨P, hP⟩ : ∃ P, P = i * d := ⟨_, rfl⟩
            have hPi : (i : Int) * (d : Int) = (P : Int) := by rw [hP, Int.natCast_mul]
            have hid : P + d ≤ M := by
              rw [hP, HM.out]
              have : (i + 1) * d ≤ m * d := Nat.mul_le_mul_right d (by omega)
              rw [Nat.add_mul, Nat.one_mul] at this
              exact this
            have HP := Lib.hid hP
            clear hP
            generalize wr = wo at hrow hgr ⊢
            have hbo : Below w0.heap.size w0 wo := HB1.out.trans (below_of_grown hgr (by omega) (by simp))
            go_wp2_with fail
            go_loopw [11, 12] (fun kv av wr => ∃ k : Nat, kv = .int .i64 (k : Nat) ∧ k ≤ d ∧ RowI .u64 76 wr w0.heap.size (fillT zs d m i k) ∧ w1.grownBy wr (some w0.heap.size)) (fun kv _ _ => d - (intOf kv).toNat)
            case atStart => exact ⟨0, rfl, Nat.zero_le _, hrow, hgr⟩
            case round =>
              obtain ⟨k, rfl, hk, hrow, hgr⟩ := hrel
              by_cases hkd : k < d
              · obtain ⟨q, hq⟩ : ∃ q, q = (P + k) / 8 := ⟨_, rfl⟩
                obtain ⟨r, hr⟩ : ∃ r, r = (P + k) % 8 := ⟨_, rfl⟩
                have hbw : Below w0.heap.size w0 wr := HB1.out.trans (below_of_grown hgr (by omega) (by simp))
                obtain ⟨b, o, rfl, hc⟩ := (HS.out.keep hbw).cell q (by omega)
                have hub := HU.out q (by rw [HLL.out]; omega)
                obtain ⟨y, hy⟩ : ∃ y : Nat, zs.getD q 0 = y := ⟨(zs.getD q 0).toNat, by omega⟩
                rw [hy] at hc hub
                have hy2 : y < 256 := by omega
                have HY := Lib.hid hy
                have p1 : ((P : Int) + (k : Int)) / 8 = (q : Int) := by omega
                have p2 : ((P : Int) + (k : Int)) % 8 = (r : Int) := by omega
                have p3 : q < R := by omega
                have p4 : r < 8 := by omega
                have HQ := Lib.hid hq
                have HR := Lib.hid hr
                have hbit : bitI zs (i * d + k) = y.testBit r := by
                  unfold bitI
                  rw [← HP.out, ← HQ.out, ← HR.out, HY.out, Int.toNat_natCast]
                have hN : numT zs d i k < 18446744073709551616 := by
                  have h1 := numT_lt zs d i k
                  have h2 : (2 : Nat) ^ k ≤ 2 ^ 64 := Nat.pow_le_pow_right (by omega) (by omega)
                  omega
                have hst := step_val (numT zs d i k) y r k hN hy2 p4 (by omega)
                have hc0 := hrow.cell i (by rw [fill_len]; exact hlt)
                have hf0 := hrow.frozen i
                rw [fill_get hlt] at hc0
                have hset := fill_set (zs := zs) (d := d) (k := k) hlt
                simp only [numT, hbit] at hset
                obtain ⟨N0, hN0⟩ : ∃ N0, N0 = numT zs d i k := ⟨_, rfl⟩
                rw [← hN0] at hst hc0 hset hN
                have HST := Lib.hid hst
                have HSET := Lib.hid hset
                have HROW := Lib.hid hrow
                have HGR := Lib.hid hgr
                clear hst hbit hN0 hset hrow hgr hy hq hr hbo hbw
                go_wp2_with fail
                go_region
                go_wp2
                go_roundw
                case rel =>
                  refine ⟨k + 1, by go_num, by omega, ?_, grownBy_drewN (grownBy_setCell HGR.out _ _) 1⟩
                  rw [HST.out, ← HSET.out]
                  exact HROW.out.set _ _
                case measure => simp [intOf]; omega
              · obtain rfl : k = d := by omega
                rw [fill_next] at hrow
                go_wp2
                go_roundw
                case rel => exact ⟨i + 1, by go_num, by omega, hrow, hgr⟩
                case measure => simp [intOf]; omega
          · obtain rfl : i = m := by omega
            go_wp2
            go_ret2
            refine ⟨.slice (some ⟨w0.heap.size, 0, none⟩) i i, (by rw [HE.out]; rfl), HB1.out.trans (below_of_grown hgr (by omega) (by simp)), fun _ _ => ⟨_, rfl, Nat.le_refl _, ?_⟩, fun h => ?_⟩
            · simpa using hrow
            · rcases h with h | h
              · exact absurd HE.out h
              · exact absurd h (by omega)
end Go.Proofs.YtgajpekolamjbaaDoor
