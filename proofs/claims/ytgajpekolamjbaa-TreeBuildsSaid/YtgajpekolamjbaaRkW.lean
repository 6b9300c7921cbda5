/- Where the directories' numbers lie in a vector's bytes. Plain. -/
import Derived.Test.YtgajpekolamjbaaRkD
set_option linter.unusedVariables false
set_option linter.unusedSimpArgs false
namespace Go.Tk
open Go Go.RowKit
def grO (d : List UInt8) : Nat := 8 + d.length
def smO (d : List UInt8) (N : Nat) : Nat := grO d + 4 * ((N + 2047) / 2048)
def mkO (d : List UInt8) (N : Nat) : Nat := smO d N + 2 * ((N + 255) / 256)
def enO (d : List UInt8) (N : Nat) : Nat := mkO d N + 4 * ((cntB d N + 511) / 512)
theorem wh_len' (d : List UInt8) (N : Nat) : (whB d N).length = enO d N := by rw [wh_len]; rfl
def posT (d : List UInt8) (N : Nat) (t : Nat × Nat × Nat) : Nat := if t.1 = 2048 then grO d + 4 * t.2.1 else if t.1 = 256 then smO d N + 2 * t.2.1 else mkO d N + 4 * t.2.1
def szT (t : Nat × Nat × Nat) : Nat := if t.1 = 256 then 2 else 4
theorem u8_ofNat (v : Nat) : ((UInt8.ofNat (v % 256)).toNat : Int) = ((v % 256 : Nat) : Int) := by
  have : (UInt8.ofNat (v % 256)).toNat = v % 256 := by simp
  rw [this]
theorem nums_get? (l : List UInt8) (i : Nat) : (nums l)[i]? = (l[i]?).map fun b => (b.toNat : Int) := by simp [nums]
theorem le_nums {v k r : Nat} (h : r < k) : (nums (leB v k))[r]? = some ((v / 256 ^ r % 256 : Nat) : Int) := by
  rw [nums_get?, le_get k v r h]
  simp only [Option.map_some, u8_ofNat]
/-- A number of the directories lies where it must. -/
theorem wh_at {d : List UInt8} {N : Nat} {t : Nat × Nat × Nat} (h : Vt d N t) : posT d N t + szT t ≤ enO d N ∧ ∀ r, r < szT t → (nums (whB d N))[posT d N t + r]? = some ((t.2.2 / 256 ^ r % 256 : Nat) : Int) := by
  obtain ⟨p, i, v⟩ := t
  have l4 := le_len
  have lg := cat_len 4 (grL d N)
  have ls := cat_len 2 (smL d N)
  have lm := cat_len 4 (mkL d N)
  rw [gr_len] at lg
  rw [sm_len] at ls
  rw [mk_len] at lm
  rcases h with ⟨h1, h2⟩ | ⟨h1, h2⟩ | ⟨h1, h2⟩
  · simp only at h1 h2
    subst h1
    have hi := (List.getElem?_eq_some_iff.1 h2).1
    rw [gr_len] at hi
    have ep : posT d N (2048, i, v) = grO d + 4 * i := rfl
    have es : szT (2048, i, v) = 4 := rfl
    rw [ep, es]
    refine ⟨by unfold enO mkO smO; omega, fun r hr => ?_⟩
    have hc := cat_get 4 (grL d N) i v r h2 hr
    have hw : (whB d N)[grO d + 4 * i + r]? = (catB 4 (grL d N))[4 * i + r]? := by
      unfold whB
      rw [List.getElem?_append_left (by simp [l4, lg, ls]; unfold grO; omega), List.getElem?_append_left (by simp [l4, lg]; unfold grO; omega)]
      rw [List.getElem?_append_right (by simp [l4]; unfold grO; omega)]
      congr 1
      simp [l4]; unfold grO; omega
    rw [nums_get?, hw, hc, ← nums_get?, le_nums hr]
  · simp only at h1 h2
    subst h1
    have hi := (List.getElem?_eq_some_iff.1 h2).1
    rw [sm_len] at hi
    have ep : posT d N (256, i, v) = smO d N + 2 * i := rfl
    have es : szT (256, i, v) = 2 := rfl
    rw [ep, es]
    refine ⟨by unfold enO mkO; omega, fun r hr => ?_⟩
    have hc := cat_get 2 (smL d N) i v r h2 hr
    have hw : (whB d N)[smO d N + 2 * i + r]? = (catB 2 (smL d N))[2 * i + r]? := by
      unfold whB
      rw [List.getElem?_append_left (by simp [l4, lg, ls]; unfold smO grO; omega)]
      rw [List.getElem?_append_right (by simp [l4, lg]; unfold smO grO; omega)]
      congr 1
      simp [l4, lg]; unfold smO grO; omega
    rw [nums_get?, hw, hc, ← nums_get?, le_nums hr]
  · simp only at h1 h2
    subst h1
    have hi := (List.getElem?_eq_some_iff.1 h2).1
    rw [mk_len] at hi
    have ep : posT d N (512, i, v) = mkO d N + 4 * i := rfl
    have es : szT (512, i, v) = 4 := rfl
    rw [ep, es]
    refine ⟨by unfold enO; omega, fun r hr => ?_⟩
    have hc := cat_get 4 (mkL d N) i v r h2 hr
    have hw : (whB d N)[mkO d N + 4 * i + r]? = (catB 4 (mkL d N))[4 * i + r]? := by
      unfold whB
      rw [List.getElem?_append_right (by simp [l4, lg, ls]; unfold mkO smO grO; omega)]
      congr 1
      simp [l4, lg, ls]; unfold mkO smO grO; omega
    rw [nums_get?, hw, hc, ← nums_get?, le_nums hr]
/-- Each byte behind the data belongs to a number of the directories. -/
theorem wh_cover (d : List UInt8) (N i : Nat) (h1 : grO d ≤ i) (h2 : i < enO d N) : ∃ t, Vt d N t ∧ posT d N t ≤ i ∧ i < posT d N t + szT t := by
  by_cases a : i < smO d N
  · have hj : (i - grO d) / 4 < (grL d N).length := by rw [gr_len]; unfold smO at a; omega
    refine ⟨(2048, (i - grO d) / 4, (grL d N)[(i - grO d) / 4]), .inl ⟨rfl, List.getElem?_eq_getElem hj⟩, ?_, ?_⟩
    · show grO d + 4 * ((i - grO d) / 4) ≤ i; omega
    · show i < grO d + 4 * ((i - grO d) / 4) + 4; omega
  by_cases b : i < mkO d N
  · have hj : (i - smO d N) / 2 < (smL d N).length := by rw [sm_len]; unfold mkO at b; omega
    refine ⟨(256, (i - smO d N) / 2, (smL d N)[(i - smO d N) / 2]), .inr (.inl ⟨rfl, List.getElem?_eq_getElem hj⟩), ?_, ?_⟩
    · show smO d N + 2 * ((i - smO d N) / 2) ≤ i; omega
    · show i < smO d N + 2 * ((i - smO d N) / 2) + 2; omega
  · have hj : (i - mkO d N) / 4 < (mkL d N).length := by rw [mk_len]; unfold enO at h2; omega
    refine ⟨(512, (i - mkO d N) / 4, (mkL d N)[(i - mkO d N) / 4]), .inr (.inr ⟨rfl, List.getElem?_eq_getElem hj⟩), ?_, ?_⟩
    · show mkO d N + 4 * ((i - mkO d N) / 4) ≤ i; omega
    · show i < mkO d N + 4 * ((i - mkO d N) / 4) + 4; omega
/-- The row holds the vector's head and data, and the numbers told so far. -/
structure RowT (d : List UInt8) (N : Nat) (zs : List Int) (L : List (Nat × Nat × Nat)) : Prop where
  len : zs.length = enO d N
  head : ∀ i, i < grO d → zs[i]? = (nums (whB d N))[i]?
  told : ∀ t, t ∈ L → ∀ r, r < szT t → zs[posT d N t + r]? = (nums (whB d N))[posT d N t + r]?
theorem RowT.put {d N zs L t} (h : RowT d N zs L) (hv : Vt d N t) : RowT d N (putL zs (posT d N t) t.2.2 (szT t)) (L ++ [t]) := by
  obtain ⟨w1, w2⟩ := wh_at hv
  have key : ∀ i, i < zs.length → zs[i]? = (nums (whB d N))[i]? ∨ (posT d N t ≤ i ∧ i < posT d N t + szT t) → (putL zs (posT d N t) t.2.2 (szT t))[i]? = (nums (whB d N))[i]? := by
    intro i hi h
    rw [put_at _ _ _ _ _ hi]
    by_cases hr : posT d N t ≤ i ∧ i < posT d N t + szT t
    · rw [if_pos hr]
      have := w2 (i - posT d N t) (by omega)
      rw [show posT d N t + (i - posT d N t) = i by omega] at this
      rw [this]
    · rw [if_neg hr]
      rcases h with h | h
      · exact h
      · exact absurd h hr
  have hle : grO d ≤ enO d N := by unfold enO mkO smO; omega
  refine ⟨by rw [put_len]; exact h.len, fun i hi => key i (by rw [h.len]; omega) (.inl (h.head i hi)), fun u hu r hr => ?_⟩
  rcases List.mem_append.1 hu with hu | hu
  · by_cases hlt : posT d N u + r < zs.length
    · exact key _ hlt (.inl (h.told u hu r hr))
    · rw [List.getElem?_eq_none (by rw [put_len]; omega)]
      have := h.told u hu r hr
      rw [List.getElem?_eq_none (by omega)] at this
      exact this
  · obtain rfl : u = t := by simpa using hu
    exact key _ (by rw [h.len]; omega) (.inr ⟨by omega, by omega⟩)
theorem RowT.all {d N zs L} (h : RowT d N zs L) (hL : ∀ t, Vt d N t → t ∈ L) : zs = nums (whB d N) := by
  apply List.ext_getElem?
  intro i
  by_cases h1 : i < grO d
  · exact h.head i h1
  by_cases h2 : i < enO d N
  · obtain ⟨t, a, b, c⟩ := wh_cover d N i (by omega) h2
    have := h.told t (hL t a) (i - posT d N t) (by omega)
    rw [show posT d N t + (i - posT d N t) = i by omega] at this
    exact this
  · rw [List.getElem?_eq_none (by rw [h.len]; omega), List.getElem?_eq_none (by rw [nums_len, wh_len']; omega)]
/-- The head and the data, nothing told yet. -/
theorem RowT.start {d : List UInt8} {N : Nat} {zs : List Int} (hl : zs.length = enO d N) (h : zs.take (grO d) = nums (leB N 4 ++ leB (cntB d N) 4 ++ d)) : RowT d N zs [] := by
  refine ⟨hl, fun i hi => ?_, fun t ht => by simp at ht⟩
  have hw : (nums (whB d N)).take (grO d) = nums (leB N 4 ++ leB (cntB d N) 4 ++ d) := by
    rw [nums_take]
    have e : whB d N = (leB N 4 ++ leB (cntB d N) 4 ++ d) ++ (catB 4 (grL d N) ++ (catB 2 (smL d N) ++ catB 4 (mkL d N))) := by unfold whB; simp only [List.append_assoc]
    rw [e, List.take_append_of_le_length (by simp [le_len]; unfold grO; omega), List.take_of_length_le (by simp [le_len]; unfold grO; omega)]
  have e1 : zs[i]? = (zs.take (grO d))[i]? := by rw [List.getElem?_take, if_pos hi]
  have e2 : (nums (whB d N))[i]? = ((nums (whB d N)).take (grO d))[i]? := by rw [List.getElem?_take, if_pos hi]
  rw [e1, e2, h, hw]
end Go.Tk
