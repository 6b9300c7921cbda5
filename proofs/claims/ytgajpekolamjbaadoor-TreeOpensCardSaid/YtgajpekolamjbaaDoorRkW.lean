/- RkL RkD RkW, laid as one. -/
import Derived.Test.YtgajpekolamjbaaDoorRkQ
import Derived.Test.YtgajpekolamjbaaDoorSamesameBytes18
import Derived.Test.YtgajpekolamjbaaDoorTypes
import Derived.Test.YtgajpekolamjbaaDoorSlc
import Derived.Test.YtgajpekolamjbaaDoorShelf
import Derived.Outline
set_option linter.unusedVariables false
set_option linter.unusedSimpArgs false
/- lent, back, num; padded, count of the program. -/
namespace Go.Proofs.YtgajpekolamjbaaDoor
open Go.RowKit Go.Tk
theorem padded_calls (w : World) (a : Option Addr) (n c : Nat) (d : List UInt8) (N : Nat) (h : SlI .u8 w a n c (nums d)) (hl : d.length = (N + 7) / 8) (hN : N ≤ 67108864) :
    Calls Tryd.prog 55 #[.slice a n c, .int .i64 (N : Nat)] w fun e w' => e = .returned (.bool (padB d N)) ∧ w = w' := by
  have hnl := h.len
  rw [nums_len] at hnl
  by_cases h8 : N % 8 = 0
  · have e : padB d N = true := by unfold padB; simp [h8]
    have e1 : ((N : Int) % 8 == 0) = true := by simp; omega
    rw [e]
    clear e h h8 hl hnl
    go_enter Tryd.func55, Tryd.ntmps55
    go_wp2
    go_ret
    exact ⟨rfl, rfl⟩
  · have e1 : ((N : Int) % 8 == 0) = false := by simp; omega
    obtain ⟨b, o, rfl, hc⟩ := h.cell (N / 8) (by omega)
    rw [nums_getD d _ (by omega)] at hc
    go_enter Tryd.func55, Tryd.ntmps55
    go_wp2
    go_ret
    refine ⟨ret_bool ?_, rfl⟩
    have hg : d.getD (N / 8) 0 = d[N / 8]'(by omega) := by rw [List.getD_eq_getElem?_getD, List.getElem?_eq_getElem (by omega)]; rfl
    unfold padB
    rw [hg, show (N % 8 == 0) = false by simp [h8], Bool.false_or]
    have e : (((d[N / 8]'(by omega)).toNat : Nat) : Int) / 2 ^ (N % 8) = (((d[N / 8]'(by omega)).toNat / 2 ^ (N % 8) : Nat) : Int) := by rw [Int.natCast_ediv, Int.natCast_pow]; rfl
    rw [e]
    rw [Bool.eq_iff_iff]
    simp only [beq_iff_eq]
    omega
set_option maxHeartbeats 1000000 in
theorem count_calls (w : World) (a : Option Addr) (n c : Nat) (d : List UInt8) (h : SlI .u8 w a n c (nums d)) (hn : n ≤ 140737488351232) :
    Calls Tryd.prog 56 #[.slice a n c] w fun e w' => e = .returned (.int .i64 (cntB d (8 * n) : Nat)) ∧ w = w' := by
  have hnl := h.len
  rw [nums_len] at hnl
  have H := Lib.hid h
  have HNL := Lib.hid hnl
  clear h hnl
  go_enter Tryd.func56, Tryd.ntmps56
  go_wp2
  go_loop [3, 8] (fun mv iv => ∃ i : Nat, iv = .int .i64 (i : Nat) ∧ i ≤ n ∧ mv = .int .i64 (cntB d (8 * i) : Nat)) (fun _ iv => n - (intOf iv).toNat)
  case atStart => exact ⟨0, rfl, Nat.zero_le _, rfl⟩
  case round =>
    obtain ⟨i, rfl, hi, rfl⟩ := hrel
    by_cases hin : i < n
    · obtain ⟨b, o, rfl, hc⟩ := H.out.cell i hin
      rw [nums_getD d _ (by rw [HNL.out]; exact hin)] at hc
      have hcb := cnt_byte d i
      have hg : d.getD i 0 = d[i]'(by rw [HNL.out]; exact hin) := by rw [List.getD_eq_getElem?_getD, List.getElem?_eq_getElem (by rw [HNL.out]; exact hin)]; rfl
      rw [hg] at hcb
      have hle := cnt_le d (8 * i)
      have hle2 := cnt_le d (8 * i + 8)
      obtain ⟨y, hy⟩ : ∃ y : Nat, y = (d[i]'(by rw [HNL.out]; exact hin)).toNat := ⟨_, rfl⟩
      rw [← hy] at hc hcb
      have hy2 : y ≤ 255 := by have := UInt8.toNat_lt (d[i]'(by rw [HNL.out]; exact hin)); omega
      obtain ⟨t, ht⟩ : ∃ t, t = Lib.onesCount y := ⟨_, rfl⟩
      have hcall := fun w => Tryd.bits_OnesCount8 (y : Int) w (by omega) (by omega)
      rw [Int.toNat_natCast, ← ht] at hcall
      rw [← ht] at hcb
      have HCB := Lib.hid hcb
      have HCALL := Lib.hid hcall
      have htb : cntB d (8 * i) + t ≤ 8 * i + 8 := by omega
      generalize cntB d (8 * i) = m at htb hcb HCB hle ⊢
      clear hcb hcall hy ht hle2 hg
      go_wp2_with (go_at_call 64; refine (HCALL.out _).mono ?_; rintro e w1 ⟨rfl, rfl⟩)
      go_round
      case rel => exact ⟨i + 1, by go_num, by omega, by rw [show 8 * (i + 1) = 8 * i + 8 by omega, HCB.out]; go_num⟩
      case measure => simp [intOf]; omega
    · obtain rfl : i = n := by omega
      go_wp2
      go_ret
      exact ⟨rfl, rfl⟩
end Go.Proofs.YtgajpekolamjbaaDoor
/- put, directory of the program. -/
namespace Go.Tk
open Go Go.RowKit
theorem le_val (v i : Nat) : ((v : Int) / 2 ^ (8 * i) % 256) = ((v / 256 ^ i % 256 : Nat) : Int) := by
  have e : (2 : Nat) ^ (8 * i) = 256 ^ i := by rw [Nat.pow_mul]
  have e2 : (2 : Int) ^ (8 * i) = ((256 ^ i : Nat) : Int) := by rw [← e, Int.natCast_pow]; rfl
  rw [e2]; omega
/-- A row with a number's bytes written at a place. -/
def putL (zs : List Int) (o v : Nat) : Nat → List Int
  | 0 => zs
  | k + 1 => (putL zs o v k).set (o + k) ((v / 256 ^ k % 256 : Nat) : Int)
theorem put_len (zs : List Int) (o v : Nat) : ∀ k, (putL zs o v k).length = zs.length
  | 0 => rfl
  | k + 1 => by simp [putL, put_len zs o v k]
theorem put_at (zs : List Int) (o v : Nat) : ∀ (k i : Nat), i < zs.length → (putL zs o v k)[i]? = if o ≤ i ∧ i < o + k then some ((v / 256 ^ (i - o) % 256 : Nat) : Int) else zs[i]?
  | 0, i, _ => by rw [if_neg (by omega)]; rfl
  | k + 1, i, hi => by
    simp only [putL]
    by_cases h : o + k = i
    · subst h
      rw [List.getElem?_set_self (by rw [put_len]; exact hi), if_pos (by omega)]
      rw [show o + k - o = k by omega]
    · rw [List.getElem?_set_ne h, put_at zs o v k i hi]
      by_cases h2 : o ≤ i ∧ i < o + k
      · rw [if_pos h2, if_pos (by omega)]
      · rw [if_neg h2, if_neg (by omega)]
/-- The bits from one on. -/
def clrB (y v : Nat) : Nat := y / 2 ^ v * 2 ^ v
/-- What the directories hold: the part, the number's index there, the number. -/
def Vt (d : List UInt8) (N : Nat) (t : Nat × Nat × Nat) : Prop := (t.1 = 2048 ∧ (grL d N)[t.2.1]? = some t.2.2) ∨ (t.1 = 256 ∧ (smL d N)[t.2.1]? = some t.2.2) ∨ (t.1 = 512 ∧ (mkL d N)[t.2.1]? = some t.2.2)
def CovG (d : List UInt8) (N : Nat) (L : List (Nat × Nat × Nat)) (x : Nat) : Prop := ∀ j v, j * 2048 < x → (grL d N)[j]? = some v → (2048, j, v) ∈ L
def CovS (d : List UInt8) (N : Nat) (L : List (Nat × Nat × Nat)) (x : Nat) : Prop := ∀ j v, j * 256 < x → (smL d N)[j]? = some v → (256, j, v) ∈ L
def CovM (d : List UInt8) (N : Nat) (L : List (Nat × Nat × Nat)) (c : Nat) : Prop := ∀ k v, k * 512 < c → (mkL d N)[k]? = some v → (512, k, v) ∈ L
theorem CovG.app {d N L x} (h : CovG d N L x) (t : Nat × Nat × Nat) : CovG d N (L ++ [t]) x := fun j v a b => List.mem_append_left _ (h j v a b)
theorem CovS.app {d N L x} (h : CovS d N L x) (t : Nat × Nat × Nat) : CovS d N (L ++ [t]) x := fun j v a b => List.mem_append_left _ (h j v a b)
theorem CovM.app {d N L x} (h : CovM d N L x) (t : Nat × Nat × Nat) : CovM d N (L ++ [t]) x := fun j v a b => List.mem_append_left _ (h j v a b)
theorem CovG.step {d N L A v} (h : CovG d N L A) (hA : A % 2048 = 0) (hv : (grL d N)[A / 2048]? = some v) : CovG d N (L ++ [(2048, A / 2048, v)]) (A + 8) := fun j u a b => by
  by_cases hj : j * 2048 < A
  · exact List.mem_append_left _ (h j u hj b)
  · obtain rfl : j = A / 2048 := by omega
    rw [hv] at b
    obtain rfl := Option.some.inj b
    exact List.mem_append_right _ (by simp)
theorem CovS.step {d N L A v} (h : CovS d N L A) (hA : A % 256 = 0) (hv : (smL d N)[A / 256]? = some v) : CovS d N (L ++ [(256, A / 256, v)]) (A + 8) := fun j u a b => by
  by_cases hj : j * 256 < A
  · exact List.mem_append_left _ (h j u hj b)
  · obtain rfl : j = A / 256 := by omega
    rw [hv] at b
    obtain rfl := Option.some.inj b
    exact List.mem_append_right _ (by simp)
theorem CovG.skip {d N L A} (h : CovG d N L A) (h8 : A % 8 = 0) (hA : ¬ A % 2048 = 0) : CovG d N L (A + 8) := fun j u a b => h j u (by omega) b
theorem CovS.skip {d N L A} (h : CovS d N L A) (h8 : A % 8 = 0) (hA : ¬ A % 256 = 0) : CovS d N L (A + 8) := fun j u a b => h j u (by omega) b
theorem CovM.step {d N L c v} (h : CovM d N L c) (hc : c % 512 = 0) (hv : (mkL d N)[c / 512]? = some v) : CovM d N (L ++ [(512, c / 512, v)]) (c + 1) := fun j u a b => by
  by_cases hj : j * 512 < c
  · exact List.mem_append_left _ (h j u hj b)
  · obtain rfl : j = c / 512 := by omega
    rw [hv] at b
    obtain rfl := Option.some.inj b
    exact List.mem_append_right _ (by simp)
theorem CovM.skip {d N L c} (h : CovM d N L c) (hc : ¬ c % 512 = 0) : CovM d N L (c + 1) := fun j u a b => h j u (by omega) b
theorem cov_at {d N L c m} (h : m = c) (hc : CovM d N L c) : CovM d N L m := by rw [h]; exact hc
theorem and_pred : ∀ x : Fin 256, x.val ≠ 0 → bits .and .u8 (x.val : Int) ((x.val : Int) - 1) = ((x.val &&& (x.val - 1) : Nat) : Int) := by decide +kernel
end Go.Tk
namespace Go.Proofs.YtgajpekolamjbaaDoor
open Go.RowKit Go.Tk
theorem kept_set {w w' : World} {g : Nat} (h : Kept (fun j => j = g) w w') (i : Nat) (v : Value) : Kept (fun j => j = g) w (w'.setCell ⟨g, i, none⟩ v) := Kept.setCell h (p := ⟨g, i, none⟩) (.inl rfl) v
end Go.Proofs.YtgajpekolamjbaaDoor
/- Where the directories' numbers lie in a vector's bytes. Plain. -/
namespace Go.Tk
open Go Go.RowKit
def grO (d : List UInt8) : Nat := 8 + d.length
def smO (d : List UInt8) (N : Nat) : Nat := grO d + 4 * ((N + 2047) / 2048)
def mkO (d : List UInt8) (N : Nat) : Nat := smO d N + 2 * ((N + 255) / 256)
def enO (d : List UInt8) (N : Nat) : Nat := mkO d N + 4 * ((cntB d N + 511) / 512)
theorem wh_len' (d : List UInt8) (N : Nat) : (whB d N).length = enO d N := by rw [wh_len]; rfl
def posT (d : List UInt8) (N : Nat) (t : Nat × Nat × Nat) : Nat := if t.1 = 2048 then grO d + 4 * t.2.1 else if t.1 = 256 then smO d N + 2 * t.2.1 else mkO d N + 4 * t.2.1
def szT (t : Nat × Nat × Nat) : Nat := if t.1 = 256 then 2 else 4
theorem u8_ofNat (v : Nat) : ((UInt8.ofNat (v % 256)).toNat : Int) = ((v % 256 : Nat) : Int) := by
  have : (UInt8.ofNat (v % 256)).toNat = v % 256 := by simp
  rw [this]
theorem nums_get? (l : List UInt8) (i : Nat) : (nums l)[i]? = (l[i]?).map fun b => (b.toNat : Int) := by simp [nums]
theorem le_nums {v k r : Nat} (h : r < k) : (nums (leB v k))[r]? = some ((v / 256 ^ r % 256 : Nat) : Int) := by
  rw [nums_get?, le_get k v r h]
  simp only [Option.map_some, u8_ofNat]
/-- A number of the directories lies where it must. -/
theorem wh_at {d : List UInt8} {N : Nat} {t : Nat × Nat × Nat} (h : Vt d N t) : posT d N t + szT t ≤ enO d N ∧ ∀ r, r < szT t → (nums (whB d N))[posT d N t + r]? = some ((t.2.2 / 256 ^ r % 256 : Nat) : Int) := by
  obtain ⟨p, i, v⟩ := t
  have l4 := le_len
  have lg := cat_len 4 (grL d N)
  have ls := cat_len 2 (smL d N)
  have lm := cat_len 4 (mkL d N)
  rw [gr_len] at lg
  rw [sm_len] at ls
  rw [mk_len] at lm
  rcases h with ⟨h1, h2⟩ | ⟨h1, h2⟩ | ⟨h1, h2⟩
  · simp only at h1 h2
    subst h1
    have hi := (List.getElem?_eq_some_iff.1 h2).1
    rw [gr_len] at hi
    have ep : posT d N (2048, i, v) = grO d + 4 * i := rfl
    have es : szT (2048, i, v) = 4 := rfl
    rw [ep, es]
    refine ⟨by unfold enO mkO smO; omega, fun r hr => ?_⟩
    have hc := cat_get 4 (grL d N) i v r h2 hr
    have hw : (whB d N)[grO d + 4 * i + r]? = (catB 4 (grL d N))[4 * i + r]? := by
      unfold whB
      rw [List.getElem?_append_left (by simp [l4, lg, ls]; unfold grO; omega), List.getElem?_append_left (by simp [l4, lg]; unfold grO; omega)]
      rw [List.getElem?_append_right (by simp [l4]; unfold grO; omega)]
      congr 1
      simp [l4]; unfold grO; omega
    rw [nums_get?, hw, hc, ← nums_get?, le_nums hr]
  · simp only at h1 h2
    subst h1
    have hi := (List.getElem?_eq_some_iff.1 h2).1
    rw [sm_len] at hi
    have ep : posT d N (256, i, v) = smO d N + 2 * i := rfl
    have es : szT (256, i, v) = 2 := rfl
    rw [ep, es]
    refine ⟨by unfold enO mkO; omega, fun r hr => ?_⟩
    have hc := cat_get 2 (smL d N) i v r h2 hr
    have hw : (whB d N)[smO d N + 2 * i + r]? = (catB 2 (smL d N))[2 * i + r]? := by
      unfold whB
      rw [List.getElem?_append_left (by simp [l4, lg, ls]; unfold smO grO; omega)]
      rw [List.getElem?_append_right (by simp [l4, lg]; unfold smO grO; omega)]
      congr 1
      simp [l4, lg]; unfold smO grO; omega
    rw [nums_get?, hw, hc, ← nums_get?, le_nums hr]
  · simp only at h1 h2
    subst h1
    have hi := (List.getElem?_eq_some_iff.1 h2).1
    rw [mk_len] at hi
    have ep : posT d N (512, i, v) = mkO d N + 4 * i := rfl
    have es : szT (512, i, v) = 4 := rfl
    rw [ep, es]
    refine ⟨by unfold enO; omega, fun r hr => ?_⟩
    have hc := cat_get 4 (mkL d N) i v r h2 hr
    have hw : (whB d N)[mkO d N + 4 * i + r]? = (catB 4 (mkL d N))[4 * i + r]? := by
      unfold whB
      rw [List.getElem?_append_right (by simp [l4, lg, ls]; unfold mkO smO grO; omega)]
      congr 1
      simp [l4, lg, ls]; unfold mkO smO grO; omega
    rw [nums_get?, hw, hc, ← nums_get?, le_nums hr]
/-- Each byte behind the data belongs to a number of the directories. -/
theorem wh_cover (d : List UInt8) (N i : Nat) (h1 : grO d ≤ i) (h2 : i < enO d N) : ∃ t, Vt d N t ∧ posT d N t ≤ i ∧ i < posT d N t + szT t := by
  by_cases a : i < smO d N
  · have hj : (i - grO d) / 4 < (grL d N).length := by rw [gr_len]; unfold smO at a; omega
    refine ⟨(2048, (i - grO d) / 4, (grL d N)[(i - grO d) / 4]), .inl ⟨rfl, List.getElem?_eq_getElem hj⟩, ?_, ?_⟩
    · show grO d + 4 * ((i - grO d) / 4) ≤ i; omega
    · show i < grO d + 4 * ((i - grO d) / 4) + 4; omega
  by_cases b : i < mkO d N
  · have hj : (i - smO d N) / 2 < (smL d N).length := by rw [sm_len]; unfold mkO at b; omega
    refine ⟨(256, (i - smO d N) / 2, (smL d N)[(i - smO d N) / 2]), .inr (.inl ⟨rfl, List.getElem?_eq_getElem hj⟩), ?_, ?_⟩
    · show smO d N + 2 * ((i - smO d N) / 2) ≤ i; omega
    · show i < smO d N + 2 * ((i - smO d N) / 2) + 2; omega
  · have hj : (i - mkO d N) / 4 < (mkL d N).length := by rw [mk_len]; unfold enO at h2; omega
    refine ⟨(512, (i - mkO d N) / 4, (mkL d N)[(i - mkO d N) / 4]), .inr (.inr ⟨rfl, List.getElem?_eq_getElem hj⟩), ?_, ?_⟩
    · show mkO d N + 4 * ((i - mkO d N) / 4) ≤ i; omega
    · show i < mkO d N + 4 * ((i - mkO d N) / 4) + 4; omega
/-- The row holds the vector's head and data, and the numbers told so far. -/
structure RowT (d : List UInt8) (N : Nat) (zs : List Int) (L : List (Nat × Nat × Nat)) : Prop where
  len : zs.length = enO d N
  head : ∀ i, i < grO d → zs[i]? = (nums (whB d N))[i]?
  told : ∀ t, t ∈ L → ∀ r, r < szT t → zs[posT d N t + r]? = (nums (whB d N))[posT d N t + r]?
theorem RowT.put {d N zs L t} (h : RowT d N zs L) (hv : Vt d N t) : RowT d N (putL zs (posT d N t) t.2.2 (szT t)) (L ++ [t]) := by
  obtain ⟨w1, w2⟩ := wh_at hv
  have key : ∀ i, i < zs.length → zs[i]? = (nums (whB d N))[i]? ∨ (posT d N t ≤ i ∧ i < posT d N t + szT t) → (putL zs (posT d N t) t.2.2 (szT t))[i]? = (nums (whB d N))[i]? := by
    intro i hi h
    rw [put_at _ _ _ _ _ hi]
    by_cases hr : posT d N t ≤ i ∧ i < posT d N t + szT t
    · rw [if_pos hr]
      have := w2 (i - posT d N t) (by omega)
      rw [show posT d N t + (i - posT d N t) = i by omega] at this
      rw [this]
    · rw [if_neg hr]
      rcases h with h | h
      · exact h
      · exact absurd h hr
  have hle : grO d ≤ enO d N := by unfold enO mkO smO; omega
  refine ⟨by rw [put_len]; exact h.len, fun i hi => key i (by rw [h.len]; omega) (.inl (h.head i hi)), fun u hu r hr => ?_⟩
  rcases List.mem_append.1 hu with hu | hu
  · by_cases hlt : posT d N u + r < zs.length
    · exact key _ hlt (.inl (h.told u hu r hr))
    · rw [List.getElem?_eq_none (by rw [put_len]; omega)]
      have := h.told u hu r hr
      rw [List.getElem?_eq_none (by omega)] at this
      exact this
  · obtain rfl : u = t := by simpa using hu
    exact key _ (by rw [h.len]; omega) (.inr ⟨by omega, by omega⟩)
theorem RowT.all {d N zs L} (h : RowT d N zs L) (hL : ∀ t, Vt d N t → t ∈ L) : zs = nums (whB d N) := by
  apply List.ext_getElem?
  intro i
  by_cases h1 : i < grO d
  · exact h.head i h1
  by_cases h2 : i < enO d N
  · obtain ⟨t, a, b, c⟩ := wh_cover d N i (by omega) h2
    have := h.told t (hL t a) (i - posT d N t) (by omega)
    rw [show posT d N t + (i - posT d N t) = i by omega] at this
    exact this
  · rw [List.getElem?_eq_none (by rw [h.len]; omega), List.getElem?_eq_none (by rw [nums_len, wh_len']; omega)]
/-- The head and the data, nothing told yet. -/
theorem RowT.start {d : List UInt8} {N : Nat} {zs : List Int} (hl : zs.length = enO d N) (h : zs.take (grO d) = nums (leB N 4 ++ leB (cntB d N) 4 ++ d)) : RowT d N zs [] := by
  refine ⟨hl, fun i hi => ?_, fun t ht => by simp at ht⟩
  have hw : (nums (whB d N)).take (grO d) = nums (leB N 4 ++ leB (cntB d N) 4 ++ d) := by
    rw [nums_take]
    have e : whB d N = (leB N 4 ++ leB (cntB d N) 4 ++ d) ++ (catB 4 (grL d N) ++ (catB 2 (smL d N) ++ catB 4 (mkL d N))) := by unfold whB; simp only [List.append_assoc]
    rw [e, List.take_append_of_le_length (by simp [le_len]; unfold grO; omega), List.take_of_length_le (by simp [le_len]; unfold grO; omega)]
  have e1 : zs[i]? = (zs.take (grO d))[i]? := by rw [List.getElem?_take, if_pos hi]
  have e2 : (nums (whB d N))[i]? = ((nums (whB d N)).take (grO d))[i]? := by rw [List.getElem?_take, if_pos hi]
  rw [e1, e2, h, hw]
end Go.Tk
