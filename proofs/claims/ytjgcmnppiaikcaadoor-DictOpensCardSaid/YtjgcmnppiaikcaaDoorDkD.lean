/- A dictionary in memory: its places, its entries, of any bytes. -/
import Derived.Test.YtjgcmnppiaikcaaDoorDkP
import Derived.Test.YtjgcmnppiaikcaaDoorPkP
import Derived.Test.YtjgcmnppiaikcaaDoorBitsCur8
import Derived.Outline
import Derived.Deep.Cut
set_option linter.unusedVariables false
set_option linter.unusedSimpArgs false
namespace Go.Tk
open Go Go.RowKit
theorem or_i64 (x y : Nat) (hx : x < 4611686018427387904) (hy : y < 4611686018427387904) : bits .or .i64 (x : Int) (y : Int) = ((x ||| y : Nat) : Int) := by
  have key : (BitVec.ofInt 64 (x : Int) ||| BitVec.ofInt 64 (y : Int)).toNat = x ||| y := by
    rw [BitVec.toNat_or, BitVec.toNat_ofInt, BitVec.toNat_ofInt]
    have e1 : ((x : Int) % ((2 ^ 64 : Nat) : Int)).toNat = x := by omega
    have e2 : ((y : Int) % ((2 ^ 64 : Nat) : Int)).toNat = y := by omega
    rw [e1, e2]
  show IntKind.i64.wrap ((BitVec.ofInt 64 (x : Int) ||| BitVec.ofInt 64 (y : Int)).toNat : Nat) = _
  rw [key, IntKind.wrap_i64]
  have : x ||| y < 2 ^ 62 := Nat.or_lt_two_pow hx hy
  omega
theorem bit_valD : ∀ y : Fin 256, ∀ j : Fin 8, bits .and .u8 ((y.val : Int) / 2 ^ j.val) 1 = if y.val.testBit j.val = true then 1 else 0 := by decide +kernel
theorem step_i64 (N y r k : Nat) (hN : N < 4611686018427387904) (hy : y < 256) (hr : r < 8) (hk : k < 62) : bits .or .i64 (N : Int) (wrap64 (wrap64 (bits .and .u8 ((y : Int) / 2 ^ r) 1) * 2 ^ k)) = ((N ||| (if y.testBit r = true then 2 ^ k else 0) : Nat) : Int) := by
  have hb := bit_valD ⟨y, hy⟩ ⟨r, hr⟩
  simp only at hb
  rw [hb]
  have h2 : (2 : Nat) ^ k < 4611686018427387904 := by
    have : (2 : Nat) ^ k < 2 ^ 62 := Nat.pow_lt_pow_right (by omega) hk
    omega
  by_cases h : y.testBit r = true
  · rw [if_pos h, if_pos h]
    have e1 : wrap64 1 = 1 := by unfold wrap64; omega
    have e2 : (2 : Int) ^ k = ((2 ^ k : Nat) : Int) := by rw [Int.natCast_pow]; rfl
    rw [e1, Int.one_mul, e2]
    generalize 2 ^ k = m at h2 ⊢
    rw [show wrap64 (m : Int) = (m : Int) by unfold wrap64; omega]
    exact or_i64 N m hN h2
  · rw [if_neg h, if_neg h]
    have e1 : wrap64 0 = 0 := by unfold wrap64; omega
    rw [e1, Int.zero_mul, e1]
    exact or_i64 N 0 hN (by omega)
end Go.Tk
namespace Go.Proofs.YtjgcmnppiaikcaaDoor
open Go.RowKit Go.Tk
/-- A dict.Dict in memory. -/
structure DictM (w : World) (gd n wd : Nat) (pa : Option Addr) (pc : Nat) (pz : List Int) (ea : Option Addr) (ec : Nat) (ez : List Int) : Prop where
  row : w.heap[gd]? = some (.cells #[.int .i64 (n : Nat), .int .i64 (wd : Nat), .slice pa pz.length pc, .slice ea ez.length ec] 49 (0, 0))
  ps : SlI .u8 w pa pz.length pc pz
  es : SlI .u8 w ea ez.length ec ez
  en : ea = none → ec = 0
  ebk : ∀ x, ea = some x → x.block < w.heap.size
  pu : ∀ x ∈ pz, 0 ≤ x ∧ x < 256
  eu : ∀ x ∈ ez, 0 ≤ x ∧ x < 256
  nN : n ≤ 4194304
  eN : ez.length ≤ 67108864
  wN : wd ≤ 27
  pN : pz.length = ((n + 15) / 16 * wd + 7) / 8
theorem DictM.keep {w w' : World} {gd n wd : Nat} {pa : Option Addr} {pc : Nat} {pz : List Int} {ea : Option Addr} {ec : Nat} {ez : List Int} (h : DictM w gd n wd pa pc pz ea ec ez) (hb : Below w.heap.size w w') : DictM w' gd n wd pa pc pz ea ec ez :=
  ⟨(hb.block gd (Array.getElem?_eq_some_iff.1 h.row).1).trans h.row, h.ps.keep hb, h.es.keep hb, h.en, (fun x hx => Nat.lt_of_lt_of_le (h.ebk x hx) hb.size), h.pu, h.eu, h.nN, h.eN, h.wN, h.pN⟩
section
variable {w : World} {gd n wd : Nat} {pa : Option Addr} {pc : Nat} {pz : List Int} {ea : Option Addr} {ec : Nat} {ez : List Int}
theorem DictM.c0 (h : DictM w gd n wd pa pc pz ea ec ez) : w.cell? ⟨gd, 0, none⟩ = some (.int .i64 (n : Nat)) := (cell_of_row w gd 0 _ _ _ h.row).trans rfl
theorem DictM.c1 (h : DictM w gd n wd pa pc pz ea ec ez) : w.cell? ⟨gd, 1, none⟩ = some (.int .i64 (wd : Nat)) := (cell_of_row w gd 1 _ _ _ h.row).trans rfl
theorem DictM.c2 (h : DictM w gd n wd pa pc pz ea ec ez) : w.cell? ⟨gd, 2, none⟩ = some (.slice pa pz.length pc) := (cell_of_row w gd 2 _ _ _ h.row).trans rfl
theorem DictM.c3 (h : DictM w gd n wd pa pc pz ea ec ez) : w.cell? ⟨gd, 3, none⟩ = some (.slice ea ez.length ec) := (cell_of_row w gd 3 _ _ _ h.row).trans rfl
end
set_option maxRecDepth 100000 in
set_option maxHeartbeats 2000000 in
theorem place_calls (w : World) (gd n wd : Nat) (pa : Option Addr) (pc : Nat) (pz : List Int) (ea : Option Addr) (ec : Nat) (ez : List Int) (h : DictM w gd n wd pa pc pz ea ec ez) (q : Nat) (hq : q < (n + 15) / 16) :
    Calls Tryd.prog 15 #[.pointer (some ⟨gd, 0, none⟩), .int .i64 (q : Nat)] w fun e w' => e = .returned (.int .i64 (numT pz wd q wd : Nat)) ∧ Below w.heap.size w w' := by
  have c1 := h.c1
  have c2 := h.c2
  have hwd := h.wN
  have hnN := h.nN
  have hle := h.ps.le
  have hmx := h.ps.max
  have hqd : q * wd + wd ≤ (n + 15) / 16 * wd := by
    have : (q + 1) * wd ≤ (n + 15) / 16 * wd := Nat.mul_le_mul_right wd (by omega)
    rw [Nat.add_mul, Nat.one_mul] at this
    exact this
  have hpl := h.pN
  obtain ⟨P, hP⟩ : ∃ P, P = q * wd := ⟨_, rfl⟩
  rw [← hP] at hqd
  have hPi : (q : Int) * (wd : Int) = (P : Int) := by rw [hP, Int.natCast_mul]
  obtain ⟨R, hR⟩ : ∃ R, R = (n + 15) / 16 * wd := ⟨_, rfl⟩
  rw [← hR] at hqd hpl
  have hRb : R ≤ 262144 * 27 := by rw [hR]; exact Nat.mul_le_mul (by omega) hwd
  have HP := Lib.hid hP
  have HPL := Lib.hid hpl
  have HH := Lib.hid h
  clear h hP hR hpl
  go_enter Tryd.func15, Tryd.ntmps15
  go_wp2
  go_loopw [5, 12] (fun nv kv wr => ∃ (k m : Nat), kv = .int .i64 (k : Nat) ∧ k ≤ wd ∧ nv = .int .i64 (numT pz wd q k : Nat) ∧ wr = w.drewN m) (fun _ kv _ => wd - (intOf kv).toNat)
  case atStart => exact ⟨0, 0, rfl, Nat.zero_le _, rfl, rfl⟩
  case round =>
    obtain ⟨k, m, rfl, hk, rfl, rfl⟩ := hrel
    by_cases hlt : k < wd
    · obtain ⟨t, ht⟩ : ∃ t, t = (P + k) / 8 := ⟨_, rfl⟩
      obtain ⟨r, hr⟩ : ∃ r, r = (P + k) % 8 := ⟨_, rfl⟩
      have hpl := HPL.out
      have p3 : t < pz.length := by omega
      obtain ⟨b, o, rfl, hc⟩ := HH.out.ps.cell t p3
      have hub := HH.out.pu (pz[t]) (List.getElem_mem p3)
      have hgd : pz.getD t 0 = pz[t] := by simp [p3]
      rw [← hgd] at hub
      obtain ⟨y, hy⟩ : ∃ y : Nat, pz.getD t 0 = y := ⟨(pz.getD t 0).toNat, by omega⟩
      rw [hy] at hc hub
      have hy2 : y < 256 := by omega
      have HY := Lib.hid hy
      have p1 : ((P : Int) + (k : Int)) / 8 = (t : Int) := by omega
      have p2 : ((P : Int) + (k : Int)) % 8 = (r : Int) := by omega
      have p4 : r < 8 := by omega
      have hbit : bitI pz (q * wd + k) = y.testBit r := by
        unfold bitI
        rw [← HP.out, ← ht, ← hr, hy, Int.toNat_natCast]
      have hN : numT pz wd q k < 4611686018427387904 := by
        have h1 := numT_lt pz wd q k
        have h2 : (2 : Nat) ^ k ≤ 2 ^ 27 := Nat.pow_le_pow_right (by omega) (by omega)
        omega
      have hst := step_i64 (numT pz wd q k) y r k hN hy2 p4 (by omega)
      have HST := Lib.hid hst
      have HB2 := Lib.hid hbit
      have HGD := Lib.hid hgd
      clear hst hbit hy ht hr hgd hpl hN hub
      go_wp2
      refine ⟨⟨k + 1, m, by go_num, by omega, ?_, by trivial⟩, by simp [intOf]; omega⟩
      rw [HST.out]
      simp only [numT, HB2.out]
    · obtain rfl : k = wd := by omega
      go_wp2
      go_ret
      exact ⟨rfl, below_drewN (Below.refl _ _) m⟩
end Go.Proofs.YtjgcmnppiaikcaaDoor
