/- VaN VbN, laid as one. -/
import Derived.Test.YtlhcejbimlilaaaGreatDoorVaM
import Derived.Test.YtlhcejbimlilaaaGreatDoorVbM
set_option linter.unusedVariables false
set_option linter.unusedSimpArgs false
/- Days and dates: each day has one date. Plain. -/
namespace Go.Tk
open Go Go.RowKit
def lpN (y : Int) : Int := if lpB y = true then 1 else 0
theorem lpN_bd (y : Int) : 0 ≤ lpN y ∧ lpN y ≤ 1 := by unfold lpN; split <;> omega
theorem lpN_eq (y : Int) : lpN y = y / 4 - (y - 1) / 4 - (y / 100 - (y - 1) / 100) + (y / 400 - (y - 1) / 400) := by
  unfold lpN lpB
  by_cases h4 : y % 4 = 0
  · by_cases h1 : y % 100 = 0
    · by_cases h0 : y % 400 = 0
      · rw [decide_eq_true h4, decide_eq_true h1, decide_eq_true h0]; simp; omega
      · rw [decide_eq_true h4, decide_eq_true h1, decide_eq_false h0]; simp; omega
    · rw [decide_eq_true h4, decide_eq_false h1]; simp; omega
  · rw [decide_eq_false h4]; simp; omega
theorem ydP_succ (y : Int) : ydP (y + 1) = ydP y + 365 + lpN y := by
  rw [lpN_eq]; unfold ydP; rw [show y + 1 - 1 = y by omega]; omega
theorem ydP_le {a b : Int} (h : a ≤ b) : ydP a + 365 * (b - a) ≤ ydP b := by
  obtain ⟨k, rfl⟩ : ∃ k : Nat, b = a + k := ⟨(b - a).toNat, by omega⟩
  clear h
  induction k with
  | zero => simp
  | succ k ih =>
    have h1 := ydP_succ (a + k)
    have h2 := lpN_bd (a + k)
    rw [show a + ((k + 1 : Nat) : Int) = a + k + 1 by omega]
    omega
theorem ydP_lt {a b : Int} (h : a < b) : ydP a < ydP b := by have := ydP_le (a := a) (b := b) (by omega); omega
theorem ydP_bd (y : Int) (h : -1000000010 ≤ y) (h2 : y ≤ 1000000010) : -366000010000 ≤ ydP y ∧ ydP y ≤ 366000010000 := by unfold ydP; omega
theorem mdP_bd (y m : Int) : 28 ≤ mdP y m ∧ mdP y m ≤ 31 := by unfold mdP; split <;> split <;> omega
theorem cmP_bd (y : Int) : ∀ k : Nat, 28 * (k : Int) ≤ cmP y k ∧ cmP y k ≤ 31 * k
  | 0 => by simp [cmP]
  | k + 1 => by
    have h1 := cmP_bd y k
    have h2 := mdP_bd y (k + 1)
    simp only [cmP]
    omega
theorem cmP_succ (y : Int) (m : Int) (h : 1 ≤ m) : cmP y m.toNat = cmP y (m - 1).toNat + mdP y m := by
  obtain ⟨k, rfl⟩ : ∃ k : Nat, m = k + 1 := ⟨(m - 1).toNat, by omega⟩
  rw [show ((k : Int) + 1).toNat = k + 1 by omega, show ((k : Int) + 1 - 1).toNat = k by omega]
  rfl
theorem cmP_12 (y : Int) : cmP y 12 = 365 + lpN y := by
  unfold lpN
  simp [cmP, mdP]
  split <;> rfl
theorem cmP_mono (y : Int) {a b : Nat} (h : a ≤ b) : cmP y a ≤ cmP y b := by
  induction b with
  | zero => rw [Nat.le_zero.1 h]; exact Int.le_refl _
  | succ b ih =>
    rcases Nat.lt_or_ge a (b + 1) with h1 | h1
    · have := ih (by omega)
      have h2 := mdP_bd y (b + 1)
      simp only [cmP]
      omega
    · rw [show a = b + 1 by omega]; exact Int.le_refl _
theorem IsDate.yr {n y m d : Int} (h : IsDate n y m d) : ydP y ≤ n ∧ n < ydP (y + 1) := by
  obtain ⟨h1, h2, h3, h4, h5⟩ := h
  have e1 := cmP_succ y m h1
  have e2 := cmP_bd y (m - 1).toNat
  have e3 := cmP_mono y (a := m.toNat) (b := 12) (by omega)
  rw [cmP_12] at e3
  have e4 := ydP_succ y
  unfold dyP at h5
  omega
theorem IsDate.mo {n y m d : Int} (h : IsDate n y m d) : cmP y (m - 1).toNat ≤ n - ydP y ∧ n - ydP y < cmP y m.toNat := by
  obtain ⟨h1, h2, h3, h4, h5⟩ := h
  have e1 := cmP_succ y m h1
  unfold dyP at h5
  omega
theorem IsDate.one {n y m d y' m' d' : Int} (h : IsDate n y m d) (h' : IsDate n y' m' d') : y = y' ∧ m = m' ∧ d = d' := by
  have a := h.yr
  have b := h'.yr
  have e : y = y' := by
    rcases Int.lt_trichotomy y y' with c | c | c
    · have := ydP_le (a := y + 1) (b := y') (by omega); omega
    · exact c
    · have := ydP_le (a := y' + 1) (b := y) (by omega); omega
  subst e
  have a' := h.mo
  have b' := h'.mo
  have e : m = m' := by
    rcases Int.lt_trichotomy m m' with c | c | c
    · have := cmP_mono y (a := m.toNat) (b := (m' - 1).toNat) (by omega); omega
    · exact c
    · have := cmP_mono y (a := m'.toNat) (b := (m - 1).toNat) (by omega); omega
  subst e
  refine ⟨rfl, rfl, ?_⟩
  have g1 := h.day
  have g2 := h'.day
  unfold dyP at g1 g2
  omega
end Go.Tk
/- Moments: what holds between the first and the second, and the second and the third, holds between the first and the third. Plain. -/
namespace Go.Tk
open Go Go.RowKit
def bfK (a b : Int × List UInt8) : Int := if cmZ a.1 b.1 = 0 then cmB a.2 b.2 else cmZ a.1 b.1
theorem gd_bfK : Gd bfK := Gd.lex (gd_cmZ.pull Prod.fst) (gd_cmB.pull Prod.snd)
def kyM (m : Mt) : Int × List UInt8 := (m.sec, m.part)
theorem bfM_K (a b : Mt) : bfM a b = bfK (kyM a) (kyM b) := by
  unfold bfM bfK kyM cmZ
  dsimp only
  by_cases h1 : a.sec < b.sec
  · rw [if_pos h1, if_pos h1, if_neg (by omega)]
  · rw [if_neg h1, if_neg h1]
    by_cases h2 : b.sec < a.sec
    · rw [if_pos h2, if_pos h2, if_neg (by omega)]
    · rw [if_neg h2, if_neg h2, if_pos rfl]
def kS (t : Mt) : Int × List UInt8 := (t.sec - 60 * t.zone, t.part)
def kL (t : Mt) : Int × List UInt8 := (t.sec - 50400, t.part)
def kH (t : Mt) : Int × List UInt8 := (t.sec + 50400, t.part)
theorem ky_S (t : Mt) : kyM (utM t) = kS t := rfl
theorem ky_L (t : Mt) : kyM (utM { t with zone := 840 }) = kL t := by
  show (t.sec - 60 * 840, t.part) = _
  unfold kL; congr 1
theorem ky_H (t : Mt) : kyM (utM { t with zone := -840 }) = kH t := by
  show (t.sec - 60 * (-840), t.part) = _
  unfold kH; congr 1
theorem mxM_K (t u : Mt) : mxM t u = if bfK (kL t) (kS u) = 0 ∨ bfK (kL t) (kS u) ≠ bfK (kH t) (kS u) then (0, false) else (bfK (kL t) (kS u), true) := by
  unfold mxM
  rw [bfM_K, bfM_K, ky_L, ky_H, ky_S]
theorem mx_inv {t u : Mt} {x : Int} (h : mxM t u = (x, true)) : x ≠ 0 ∧ bfK (kL t) (kS u) = x ∧ bfK (kH t) (kS u) = x := by
  rw [mxM_K] at h
  by_cases hc : bfK (kL t) (kS u) = 0 ∨ bfK (kL t) (kS u) ≠ bfK (kH t) (kS u)
  · rw [if_pos hc] at h; cases h
  · rw [if_neg hc] at h
    have e := (Prod.mk.inj h).1
    exact ⟨by omega, e, by omega⟩
theorem mx_mk {t u : Mt} {x : Int} (h0 : x ≠ 0) (h1 : bfK (kL t) (kS u) = x) (h2 : bfK (kH t) (kS u) = x) : mxM t u = (x, true) := by
  rw [mxM_K, if_neg (by omega), h1]
theorem cmZ_sh (a b c : Int) : cmZ (a + c) (b + c) = cmZ a b := by
  unfold cmZ
  by_cases h1 : a < b
  · rw [if_pos h1, if_pos (by omega)]
  · rw [if_neg h1, if_neg (by omega)]
    by_cases h2 : b < a
    · rw [if_pos h2, if_pos (by omega)]
    · rw [if_neg h2, if_neg (by omega)]
theorem bf_sh (a b c : Int) (p q : List UInt8) : bfK (a + c, p) (b + c, q) = bfK (a, p) (b, q) := by
  unfold bfK
  dsimp only
  rw [cmZ_sh]
theorem bf_L {t u : Mt} (ht : t.zone = 0) (hu : u.zone = 0) : bfK (kL t) (kL u) = bfK (kS t) (kS u) := by
  unfold kL kS
  rw [ht, hu, show t.sec - 60 * 0 = t.sec by omega, show u.sec - 60 * 0 = u.sec by omega, Int.sub_eq_add_neg, Int.sub_eq_add_neg, bf_sh]
theorem bf_H {t u : Mt} (ht : t.zone = 0) (hu : u.zone = 0) : bfK (kH t) (kH u) = bfK (kS t) (kS u) := by
  unfold kH kS
  rw [ht, hu, show t.sec - 60 * 0 = t.sec by omega, show u.sec - 60 * 0 = u.sec by omega, bf_sh]
theorem bf_turn {a b : Int × List UInt8} {x : Int} (h : bfK a b = -x) : bfK b a = x := by rw [gd_bfK.neg a b, h]; omega
theorem agM_same {t u : Mt} (h : t.zoned = u.zoned) : agM t u = (bfK (kS t) (kS u), true) := by
  unfold agM; rw [if_pos h, bfM_K, ky_S, ky_S]
theorem agM_zu {t u : Mt} (h1 : t.zoned = true) (h2 : u.zoned = false) : agM t u = (-(mxM u t).1, (mxM u t).2) := by
  unfold agM; rw [h1, h2, if_neg (by simp), if_pos rfl]
theorem agM_uz {t u : Mt} (h1 : t.zoned = false) (h2 : u.zoned = true) : agM t u = mxM t u := by
  unfold agM; rw [h1, h2, if_neg (by simp), if_neg (by simp)]
theorem agM_tr {t u v : Mt} {x : Int} (zt : t.zoned = false → t.zone = 0) (zu : u.zoned = false → u.zone = 0) (zv : v.zoned = false → v.zone = 0)
    (h1 : agM t u = (x, true)) (h2 : agM u v = (x, true)) : agM t v = (x, true) := by
  cases a : t.zoned <;> cases b : u.zoned <;> cases c : v.zoned
  · rw [agM_same (a.trans b.symm)] at h1
    rw [agM_same (b.trans c.symm)] at h2
    rw [agM_same (a.trans c.symm), gd_bfK.same (Prod.mk.inj h1).1 (Prod.mk.inj h2).1]
  · rw [agM_same (a.trans b.symm)] at h1
    rw [agM_uz b c] at h2
    rw [agM_uz a c]
    obtain ⟨g0, g1, g2⟩ := mx_inv h2
    have e := (Prod.mk.inj h1).1
    exact mx_mk g0 (gd_bfK.same (by rw [bf_L (zt a) (zu b)]; exact e) g1) (gd_bfK.same (by rw [bf_H (zt a) (zu b)]; exact e) g2)
  · rw [agM_uz a b] at h1
    rw [agM_zu b c] at h2
    rw [agM_same (a.trans c.symm)]
    obtain ⟨g0, g1, g2⟩ := mx_inv h1
    have e : mxM v u = (-x, true) := Prod.ext (by have := (Prod.mk.inj h2).1; show (mxM v u).1 = -x; omega) (Prod.mk.inj h2).2
    obtain ⟨k0, k1, k2⟩ := mx_inv e
    rw [← bf_L (zt a) (zv c), gd_bfK.same g1 (bf_turn k1)]
  · rw [agM_uz a b] at h1
    rw [agM_same (b.trans c.symm)] at h2
    rw [agM_uz a c]
    obtain ⟨g0, g1, g2⟩ := mx_inv h1
    have e := (Prod.mk.inj h2).1
    exact mx_mk g0 (gd_bfK.same g1 e) (gd_bfK.same g2 e)
  · rw [agM_zu a b] at h1
    rw [agM_same (b.trans c.symm)] at h2
    rw [agM_zu a c]
    have e : mxM u t = (-x, true) := Prod.ext (by have := (Prod.mk.inj h1).1; show (mxM u t).1 = -x; omega) (Prod.mk.inj h1).2
    obtain ⟨k0, k1, k2⟩ := mx_inv e
    have e2 := (Prod.mk.inj h2).1
    have e3 : mxM v t = (-x, true) := mx_mk k0 (gd_bfK.same (by rw [gd_bfK.neg (kL u) (kL v), bf_L (zu b) (zv c), e2]) k1) (gd_bfK.same (by rw [gd_bfK.neg (kH u) (kH v), bf_H (zu b) (zv c), e2]) k2)
    rw [e3]; exact Prod.ext (Int.neg_neg x) rfl
  · rw [agM_zu a b] at h1
    rw [agM_uz b c] at h2
    rw [agM_same (a.trans c.symm)]
    have e : mxM u t = (-x, true) := Prod.ext (by have := (Prod.mk.inj h1).1; show (mxM u t).1 = -x; omega) (Prod.mk.inj h1).2
    obtain ⟨k0, k1, k2⟩ := mx_inv e
    obtain ⟨g0, g1, g2⟩ := mx_inv h2
    rw [gd_bfK.same (bf_turn k1) g1]
  · rw [agM_same (a.trans b.symm)] at h1
    rw [agM_zu b c] at h2
    rw [agM_zu a c]
    have e : mxM v u = (-x, true) := Prod.ext (by have := (Prod.mk.inj h2).1; show (mxM v u).1 = -x; omega) (Prod.mk.inj h2).2
    obtain ⟨k0, k1, k2⟩ := mx_inv e
    have e1 := (Prod.mk.inj h1).1
    have e4 : bfK (kS u) (kS t) = -x := by rw [gd_bfK.neg (kS t) (kS u), e1]
    have e3 : mxM v t = (-x, true) := mx_mk k0 (gd_bfK.same k1 e4) (gd_bfK.same k2 e4)
    rw [e3]; exact Prod.ext (Int.neg_neg x) rfl
  · rw [agM_same (a.trans b.symm)] at h1
    rw [agM_same (b.trans c.symm)] at h2
    rw [agM_same (a.trans c.symm), gd_bfK.same (Prod.mk.inj h1).1 (Prod.mk.inj h2).1]
theorem mx_rng (t u : Mt) : (mxM t u).2 = false → (mxM t u).1 = 0 := by
  rw [mxM_K]
  split
  · exact fun _ => rfl
  · intro h; cases h
theorem agM_neg (t u : Mt) : agM u t = (-(agM t u).1, (agM t u).2) := by
  cases a : t.zoned <;> cases b : u.zoned
  · rw [agM_same (b.trans a.symm), agM_same (a.trans b.symm), gd_bfK.neg]
  · rw [agM_zu b a, agM_uz a b]
  · rw [agM_uz b a, agM_zu a b]; exact Prod.ext (Int.neg_neg _).symm rfl
  · rw [agM_same (b.trans a.symm), agM_same (a.trans b.symm), gd_bfK.neg]
end Go.Tk
