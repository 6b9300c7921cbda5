/- VfA VfB VfC VfD VfE VbE VfF VfG VfH ValueCanons, laid as one. -/
import Derived.Test.YtlhcejbimlilaaaGreatDoorVaX
import Derived.Test.YtlhcejbimlilaaaGreatDoorVcA
import Derived.Lib.ItoaLen
import Derived.Laws.Concat
import Derived.Test.YtlhcejbimlilaaaGreatDoorVaH
import Derived.Test.YtlhcejbimlilaaaGreatDoorVbD
import Derived.Test.YtlhcejbimlilaaaGreatDoorVaZ
import Derived.Test.YtlhcejbimlilaaaGreatDoorVcC
import Derived.Test.YtlhcejbimlilaaaGreatDoorVeA
import Derived.Test.YtlhcejbimlilaaaGreatDoorValueChecks
import Derived.Test.YtlhcejbimlilaaaGreatDoorVdZ
import Derived.Test.YtlhcejbimlilaaaGreatDoorVeB
set_option linter.unusedVariables false
set_option linter.unusedSimpArgs false
/- Plain: numbers in decimal as the document writes them, days one on and one back, zones' texts. -/
namespace Go.Tk
open Go Go.RowKit
/-- The digits of a number, none of 0. -/
def dgL (n : Nat) : List UInt8 := if h : n = 0 then [] else dgL (n / 10) ++ [UInt8.ofNat (48 + n % 10)]
termination_by n
decreasing_by omega
theorem dgL_zero : dgL 0 = [] := by rw [dgL, dif_pos rfl]
theorem dgL_dec (n : Nat) (h : n ≠ 0) : dgL n = Lib.decDigits n := by
  induction n using Nat.strongRecOn with
  | _ n ih =>
    rw [dgL, dif_neg h, Lib.decDigits]
    by_cases c : n < 10
    · rw [dif_pos c, show n / 10 = 0 by omega, dgL_zero, Nat.mod_eq_of_lt c]; rfl
    · rw [dif_neg c, ih (n / 10) (by omega) (by omega)]
/-- What a loop over a number's digits will have written. -/
def dgT (n : Nat) (s : List UInt8) (least : Nat) : List UInt8 := rep0 (least - (dgL n ++ s).length) ++ (dgL n ++ s)
theorem dgT_end {s : List UInt8} {least : Nat} (h : least ≤ s.length) : dgT 0 s least = s := by
  unfold dgT
  rw [dgL_zero, List.nil_append, show least - s.length = 0 by omega]
  rfl
theorem rep0_snoc (k : Nat) (s : List UInt8) : rep0 k ++ 48 :: s = rep0 (k + 1) ++ s := by
  unfold rep0
  rw [List.replicate_succ', List.append_assoc]; rfl
theorem dgT_step {n : Nat} {s : List UInt8} {least : Nat} (h : n ≠ 0 ∨ s.length < least) : dgT (n / 10) (UInt8.ofNat (48 + n % 10) :: s) least = dgT n s least := by
  by_cases hn : n = 0
  · subst hn
    have h1 : s.length < least := by omega
    unfold dgT
    rw [show 0 / 10 = 0 from rfl, dgL_zero, List.nil_append, List.nil_append]
    show rep0 (least - (s.length + 1)) ++ 48 :: s = _
    rw [rep0_snoc, show least - (s.length + 1) + 1 = least - s.length by omega]
  · have e : dgL n ++ s = dgL (n / 10) ++ UInt8.ofNat (48 + n % 10) :: s := by
      rw [dgL, dif_neg hn, List.append_assoc]; rfl
    unfold dgT
    rw [e]
theorem dgT_pdP (n : Nat) {least : Nat} (h : 1 ≤ least) : dgT n [] least = pdP n least := by
  unfold dgT pdP
  rw [List.append_nil, show Lib.itoa (n : Int) = Lib.decDigits n from Lib.itoa_nonneg n]
  by_cases hn : n = 0
  · subst hn
    rw [dgL_zero, Lib.decDigits_one (by omega), List.append_nil]
    show rep0 (least - 0) = rep0 (least - 1) ++ 48 :: []
    rw [rep0_snoc, List.append_nil, show least - 1 + 1 = least - 0 by omega]
  · rw [dgL_dec n hn]
theorem itoa_pd (n : Int) (h : 0 ≤ n) : pdP n 1 = Lib.itoa n := by
  obtain ⟨u, rfl⟩ : ∃ u : Nat, n = u := ⟨n.toNat, by omega⟩
  have e : Lib.itoa (u : Int) = Lib.decDigits u := Lib.itoa_nonneg u
  have := Lib.nDigits_pos u
  unfold pdP
  rw [e, Lib.decDigits_length, show 1 - Lib.nDigits u = 0 by omega]
  rfl
theorem itoa_ng (n : Int) (h : n < 0) : Lib.itoa n = 45 :: Lib.itoa (-n) := by
  have e : Lib.itoa (-n) = Lib.decDigits n.natAbs := by
    rw [show -n = (n.natAbs : Int) by omega]; exact Lib.itoa_nonneg _
  rw [e]
  unfold Lib.itoa
  rw [if_pos h]
/-- Days one on, one back. -/
theorem day_on1 {n y m d : Int} (h : IsDate n y m d) (c : d + 1 ≤ mdP y m) : IsDate (n + 1) y m (d + 1) := by
  obtain ⟨h1, h2, h3, h4, h5⟩ := h
  refine ⟨h1, h2, by omega, c, ?_⟩
  unfold dyP at h5 ⊢
  omega
theorem day_on2 {n y m d : Int} (h : IsDate n y m d) (c : ¬ d + 1 ≤ mdP y m) (hm : m + 1 ≤ 12) : IsDate (n + 1) y (m + 1) 1 := by
  obtain ⟨h1, h2, h3, h4, h5⟩ := h
  refine ⟨by omega, hm, by omega, by have := mdP_bd y (m + 1); omega, ?_⟩
  have e := cmP_succ y m h1
  unfold dyP at h5 ⊢
  rw [show m + 1 - 1 = m by omega, e]
  omega
theorem day_on3 {n y m d : Int} (h : IsDate n y m d) (c : ¬ d + 1 ≤ mdP y m) (hm : ¬ m + 1 ≤ 12) : IsDate (n + 1) (y + 1) 1 1 := by
  obtain ⟨h1, h2, h3, h4, h5⟩ := h
  refine ⟨by omega, by omega, by omega, by have := mdP_bd (y + 1) 1; omega, ?_⟩
  have e := cmP_succ y m h1
  have e12 := cmP_12 y
  have es := ydP_succ y
  have em : m = 12 := by omega
  subst em
  rw [show (12 : Int).toNat = 12 from rfl] at e
  unfold dyP at h5 ⊢
  show ydP (y + 1) + cmP (y + 1) 0 + (1 - 1) = _
  rw [show cmP (y + 1) 0 = 0 from rfl]
  omega
theorem day_bk1 {n y m d : Int} (h : IsDate n y m d) (c : d - 1 ≠ 0) : IsDate (n - 1) y m (d - 1) := by
  obtain ⟨h1, h2, h3, h4, h5⟩ := h
  refine ⟨h1, h2, by omega, by omega, ?_⟩
  unfold dyP at h5 ⊢
  omega
theorem day_bk2 {n y m d : Int} (h : IsDate n y m d) (c : d - 1 = 0) (hm : m - 1 ≠ 0) : IsDate (n - 1) y (m - 1) (mdP y (m - 1)) := by
  obtain ⟨h1, h2, h3, h4, h5⟩ := h
  refine ⟨by omega, by omega, by have := mdP_bd y (m - 1); omega, Int.le_refl _, ?_⟩
  have e := cmP_succ y (m - 1) (by omega)
  unfold dyP at h5 ⊢
  omega
theorem day_bk3 {n y m d : Int} (h : IsDate n y m d) (c : d - 1 = 0) (hm : m - 1 = 0) : IsDate (n - 1) (y - 1) 12 (mdP (y - 1) 12) := by
  obtain ⟨h1, h2, h3, h4, h5⟩ := h
  refine ⟨by omega, by omega, by have := mdP_bd (y - 1) 12; omega, Int.le_refl _, ?_⟩
  have e := cmP_succ (y - 1) 12 (by omega)
  have e12 := cmP_12 (y - 1)
  have es := ydP_succ (y - 1)
  rw [show (12 : Int).toNat = 12 from rfl] at e
  rw [show y - 1 + 1 = y by omega] at es
  have em : m = 1 := by omega
  subst em
  unfold dyP at h5 ⊢
  rw [show ((1 : Int) - 1).toNat = 0 from rfl, show cmP y 0 = 0 from rfl] at h5
  omega
/-- Two digits' number in two digits. -/
theorem tw_pd {a b : UInt8} (h : dgB [a, b] = true) : pdP (10 * ((a.toNat : Int) - 48) + ((b.toNat : Int) - 48)) 2 = [a, b] := by
  have h1 := List.all_eq_true.1 h a (by simp)
  have h2 := List.all_eq_true.1 h b (by simp)
  simp only [Bool.and_eq_true, decide_eq_true_eq] at h1 h2
  have e1 := UInt8.le_iff_toNat_le.1 h1.1
  have e2 := UInt8.le_iff_toNat_le.1 h1.2
  have e3 := UInt8.le_iff_toNat_le.1 h2.1
  have e4 := UInt8.le_iff_toNat_le.1 h2.2
  have k1 : (48 : UInt8).toNat = 48 := rfl
  have k2 : (57 : UInt8).toNat = 57 := rfl
  obtain ⟨A, hA⟩ : ∃ A, A = a.toNat := ⟨_, rfl⟩
  obtain ⟨B, hB⟩ : ∃ B, B = b.toNat := ⟨_, rfl⟩
  have ea : UInt8.ofNat A = a := by rw [hA]; exact UInt8.ofNat_toNat
  have eb : UInt8.ofNat B = b := by rw [hB]; exact UInt8.ofNat_toNat
  rw [← hA] at e1 e2
  rw [← hB] at e3 e4
  rw [← hA, ← hB]
  rw [show (10 * ((A : Int) - 48) + ((B : Int) - 48)) = ((10 * (A - 48) + (B - 48) : Nat) : Int) by omega, ← dgT_pdP _ (by omega)]
  obtain ⟨n, hn⟩ : ∃ n, n = 10 * (A - 48) + (B - 48) := ⟨_, rfl⟩
  rw [← hn, ← dgT_step (n := n) (s := []) (.inr (by simp)), ← dgT_step (n := n / 10) (s := [_]) (.inr (by simp)), show n / 10 / 10 = 0 by omega, dgT_end (by simp),
    show 48 + n / 10 % 10 = A by omega, show 48 + n % 10 = B by omega, ea, eb]
/-- A zone's own text. -/
def znT (zd : Bool) (o : Int) : List UInt8 := if zd = false then [] else if o = 0 then [90] else if o < 0 then 45 :: (pdP (-o / 60) 2 ++ [58] ++ pdP (-o % 60) 2) else 43 :: (pdP (o / 60) 2 ++ [58] ++ pdP (o % 60) 2)
theorem znT_of {z : List UInt8} {zd : Bool} {o : Int} (h : rdZ z = some (zd, o)) : (if zd = true ∧ o = 0 then [90] else z) = znT zd o := by
  cases z with
  | nil =>
    obtain ⟨rfl, rfl⟩ := Prod.mk.inj (Option.some.inj h)
    rfl
  | cons c t =>
    have hu : rdZ (c :: t) = if c = 90 ∧ t = [] then some (true, 0) else if c ≠ 43 ∧ c ≠ 45 then none else match twoP t [58] with
      | none => none
      | some (h, r) => match twoP r [] with
        | none => none
        | some (m, e) => if e ≠ [] ∨ 59 < m ∨ 14 < h ∨ (h = 14 ∧ 0 < m) then none else some (true, if c = 45 then -60 * h - m else 60 * h + m) := rfl
    rw [hu] at h
    split at h
    · rename_i hc
      obtain ⟨rfl, rfl⟩ := Prod.mk.inj (Option.some.inj h)
      rfl
    split at h
    · cases h
    rename_i hsg
    cases h1 : twoP t [58] with
    | none => rw [h1] at h; cases h
    | some x =>
      obtain ⟨v, r⟩ := x
      rw [h1] at h
      dsimp only at h
      cases h2 : twoP r [] with
      | none => rw [h2] at h; cases h
      | some y =>
        obtain ⟨m, e⟩ := y
        rw [h2] at h
        dsimp only at h
        split at h
        · cases h
        rename_i hb
        obtain ⟨rfl, ho⟩ := Prod.mk.inj (Option.some.inj h)
        obtain ⟨a, b, u, rfl, hd1, hp1, hv, hr⟩ := twoP_some h1
        obtain ⟨a2, b2, u2, rfl, hd2, hp2, hm, he⟩ := twoP_some h2
        have eu2 : u2 = [] := by
          have : e = [] := Classical.byContradiction fun h => hb (.inl h)
          rw [this] at he; simpa using he.symm
        subst eu2
        have eu : u = 58 :: a2 :: b2 :: [] := by
          cases u with
          | nil => simp [Lib.hasPrefix] at hp1
          | cons q u =>
            have : q = 58 := by
              unfold Lib.hasPrefix at hp1
              simp [List.isPrefixOf] at hp1
              exact hp1.symm
            rw [this]
            simp at hr
            rw [hr]
        subst eu
        have t1 := tw8_yes (u := 58 :: a2 :: b2 :: []) hd1
        have t2 := tw8_yes (u := []) hd2
        have v1 : v = 10 * ((a.toNat : Int) - 48) + ((b.toNat : Int) - 48) := by rw [hv]; show (if dgB [a, b] = true then _ else _) = _; rw [hd1, if_pos rfl]
        have v2 : m = 10 * ((a2.toNat : Int) - 48) + ((b2.toNat : Int) - 48) := by rw [hm]; show (if dgB [a2, b2] = true then _ else _) = _; rw [hd2, if_pos rfl]
        have p1 := tw_pd hd1
        have p2 := tw_pd hd2
        rw [← v1] at p1
        rw [← v2] at p2
        rw [← hv] at t1
        rw [← hm] at t2
        have hm59 : m ≤ 59 := by omega
        clear v1 v2 hv hm hd1 hd2 h h1 h2 hu hp1 hp2 hr he
        by_cases ho0 : o = 0
        · rw [if_pos ⟨rfl, ho0⟩]
          unfold znT
          rw [if_neg (by simp), if_pos ho0]
        · rw [if_neg (fun h => ho0 h.2)]
          unfold znT
          rw [if_neg (by simp), if_neg ho0]
          by_cases c45 : c = 45
          · rw [if_pos c45] at ho
            rw [if_pos (by omega), show -o / 60 = v by omega, show -o % 60 = m by omega, p1, p2, c45]
            rfl
          · rw [if_neg c45] at ho
            have c43 : c = 43 := Classical.byContradiction fun h => hsg ⟨h, c45⟩
            rw [if_neg (by omega), show o / 60 = v by omega, show o % 60 = m by omega, p1, p2, c43]
            rfl
theorem rdZ_rng8 {z : List UInt8} {zd : Bool} {o : Int} (h : rdZ z = some (zd, o)) : -840 ≤ o ∧ o ≤ 840 ∧ (zd = false → o = 0) := by
  cases z with
  | nil =>
    obtain ⟨rfl, rfl⟩ := Prod.mk.inj (Option.some.inj h)
    omega
  | cons c t =>
    have hu : rdZ (c :: t) = if c = 90 ∧ t = [] then some (true, 0) else if c ≠ 43 ∧ c ≠ 45 then none else match twoP t [58] with
      | none => none
      | some (h, r) => match twoP r [] with
        | none => none
        | some (m, e) => if e ≠ [] ∨ 59 < m ∨ 14 < h ∨ (h = 14 ∧ 0 < m) then none else some (true, if c = 45 then -60 * h - m else 60 * h + m) := rfl
    rw [hu] at h
    split at h
    · obtain ⟨rfl, rfl⟩ := Prod.mk.inj (Option.some.inj h)
      refine ⟨by omega, by omega, fun h => by cases h⟩
    split at h
    · cases h
    cases h1 : twoP t [58] with
    | none => rw [h1] at h; cases h
    | some x =>
      obtain ⟨v, r⟩ := x
      rw [h1] at h
      dsimp only at h
      cases h2 : twoP r [] with
      | none => rw [h2] at h; cases h
      | some y =>
        obtain ⟨m, e⟩ := y
        rw [h2] at h
        dsimp only at h
        split at h
        · cases h
        rename_i hb
        obtain ⟨rfl, ho⟩ := Prod.mk.inj (Option.some.inj h)
        obtain ⟨a, b, u, rfl, hd1, hp1, hv, hr⟩ := twoP_some h1
        obtain ⟨a2, b2, u2, rfl, hd2, hp2, hm, he⟩ := twoP_some h2
        have t1 := tw8_yes (u := u) hd1
        have t2 := tw8_yes (u := u2) hd2
        rw [← hv] at t1
        rw [← hm] at t2
        refine ⟨?_, ?_, fun h => by cases h⟩
        · split at ho <;> omega
        · split at ho <;> omega
/-- A year's text. -/
def yrT (y : Int) : List UInt8 := if y < 0 then 45 :: pdP (-y) 4 else pdP y 4
/-- A moment's texts as the document writes them. -/
def tmT (h mi s : Int) (f : List UInt8) : List UInt8 := pdP h 2 ++ [58] ++ pdP mi 2 ++ [58] ++ pdP s 2 ++ (if f = [] then [] else 46 :: f)
theorem tmT_ck {q h mi s : Int} {f : List UInt8} (h0 : 0 ≤ h) (h1 : h < 24) (m0 : 0 ≤ mi) (m1 : mi < 60) (s0 : 0 ≤ s) (s1 : s < 60) : ckP (q * 86400 + (h * 3600 + mi * 60 + s)) f = tmT h mi s f := by
  obtain ⟨n, hn⟩ : ∃ n, n = (q * 86400 + (h * 3600 + mi * 60 + s)) % 86400 := ⟨_, rfl⟩
  have e : n = h * 3600 + mi * 60 + s := by omega
  unfold ckP tmT
  rw [← hn, show n / 3600 = h by omega, show n / 60 % 60 = mi by omega, show n % 60 = s by omega]
end Go.Tk
/- The document's digits, year, dateText, timeText, zoneText (written by gen_vfb.py). -/
namespace Go.Tk
open Go Go.RowKit
def stLen : Option Value → Nat
  | some (.string f) => f.size
  | _ => 0
theorem wq10' (k : Nat) (hk : k < 10000000000) : wrap64 ((k : Int) / 10) = ((k / 10 : Nat) : Int) := by
  obtain ⟨q, hq⟩ : ∃ q, q = k / 10 := ⟨_, rfl⟩
  rw [← hq, show (k : Int) / 10 = (q : Int) by omega]
  have : q < 10000000000 := by omega
  clear hq hk
  unfold wrap64
  omega
theorem wq10 (k : Nat) (hk : k < 10000000000) : Value.int .i64 (wrap64 ((k : Int) / 10)) = Value.int .i64 ((k / 10 : Nat) : Int) := by rw [wq10' k hk]
theorem wq11 (k : Nat) (hk : k < 10000000000) (h : ¬ k = 0) : (wrap64 ((k : Int) / 10)).toNat + 1 ≤ k := by rw [wq10' k hk]; omega
theorem dgT_len (k : Nat) (s : List UInt8) (m : Nat) : s.length ≤ (dgT k s m).length := by
  unfold dgT; rw [List.length_append, List.length_append]; omega
theorem dgL_len10 : ∀ (j n : Nat), n < 10 ^ j → (dgL n).length ≤ j
  | 0, n, h => by
    have : n = 0 := by simpa using h
    rw [this, dgL_zero]; simp
  | j + 1, n, h => by
    by_cases hn : n = 0
    · rw [hn, dgL_zero]; simp
    · rw [dgL, dif_neg hn, List.length_append]
      have := dgL_len10 j (n / 10) (by rw [Nat.pow_succ] at h; omega)
      simp; omega
theorem dgT_bd (n m : Nat) (h : n < 10000000000) (hm : m ≤ 20) : (dgT n [] m).length ≤ 20 := by
  have := dgL_len10 10 n (by simpa using h)
  unfold dgT rep0
  rw [List.length_append, List.length_replicate, List.append_nil]
  omega
theorem pd_len (n : Int) (m : Nat) (h0 : 0 ≤ n) (h : n < 10000000000) (h1 : 1 ≤ m) (hm : m ≤ 20) : (pdP n m).length ≤ 20 := by
  obtain ⟨u, rfl⟩ : ∃ u : Nat, n = u := ⟨n.toNat, by omega⟩
  rw [← dgT_pdP u h1]; exact dgT_bd u m (by omega) hm
theorem one_str {P : Program} (hs : P.underlying 65 = some (.slice 5)) (he : P.underlying 5 = some (.int .u8)) (hd : P.underlying 9 = some .string) (w : World) (b : UInt8) (x : Int) (hx : x = (b.toNat : Int)) :
    (convert 65 9 (.slice (some ⟨w.heap.size, 0, none⟩) 1 1)).run P (w.alloc (.cells #[.int .u8 x] 5)) = .ok (.string ⟨#[b]⟩) (w.alloc (.cells #[.int .u8 x] 5)) := by
  subst hx
  have hr : RowI .u8 5 (w.alloc (.cells #[.int .u8 (b.toNat : Int)] 5)) w.heap.size (nums [b]) := heap_alloc_new _ _
  exact (hr.ow (base := 0) (Nat.zero_le _) (by rw [nums_len]; simp)).str hs he hd
end Go.Tk
namespace Go.Proofs.YtlhcejbimlilaaaGreatDoor
open Go.RowKit Go.Tk
set_option maxHeartbeats 2000000 in
theorem digits_nat (n m : Nat) (w : World) (hn : n < 10000000000) (hm : m ≤ 20) :
    Calls Tryz.prog 112 #[.int .i64 (n : Nat), .int .i64 (m : Nat)] w fun e w' => e = .returned (.string ⟨(dgT n [] m).toArray⟩) ∧ Below w.heap.size w w' := by
  obtain ⟨T, hT⟩ : ∃ T, T = dgT n [] m := ⟨_, rfl⟩
  have hTl : T.length ≤ 20 := by rw [hT]; exact dgT_bd n m hn hm
  rw [← hT]
  have HT := Lib.hid hT
  have HTL := Lib.hid hTl
  have HN := Lib.hid hn
  have HM := Lib.hid hm
  clear hT hTl hn hm
  go_enter Tryz.func112, Tryz.ntmps112
  go_wp2_with fail
  go_loopw [0, 5] (fun nv sv wr => ∃ (k : Nat) (S : ByteArray), k < 10000000000 ∧ nv = .int .i64 (k : Nat) ∧ sv = .string S ∧ dgT k S.data.toList m = T ∧ Below w.heap.size w wr) (fun nv sv _ => (intOf nv).toNat + (m - stLen sv))
  case atStart => exact ⟨n, ⟨#[]⟩, HN.out, rfl, rfl, HT.out.symm, Below.refl _ _⟩
  case round =>
    obtain ⟨k, S, hk, rfl, rfl, hd, hbw⟩ := hrel
    have hSl : S.size ≤ 20 := by
      have := dgT_len k S.data.toList m
      rw [hd, ← Lib.size_eq] at this
      have := HTL.out
      omega
    have HSL := Lib.hid hSl
    have HBW := Lib.hid hbw
    have HD := Lib.hid hd
    have HK := Lib.hid hk
    clear hSl hbw hd hk
    have hstep : k ≠ 0 ∨ S.size < m → dgT (k / 10) ((⟨#[UInt8.ofNat (48 + k % 10)]⟩ ++ S : ByteArray).data.toList) m = T := fun h => by
      rw [show ((⟨#[UInt8.ofNat (48 + k % 10)]⟩ ++ S : ByteArray).data.toList) = UInt8.ofNat (48 + k % 10) :: S.data.toList by simp]
      rw [dgT_step (by rw [← Lib.size_eq]; exact h)]; exact HD.out
    have hsz : (⟨#[UInt8.ofNat (48 + k % 10)]⟩ ++ S : ByteArray).size = S.size + 1 := by rw [ByteArray.size_append]; show 1 + S.size = _; omega
    have hcv := fun w => one_str (P := Tryz.prog) Tryz.underlying65 Tryz.underlying5 Tryz.underlying9 w (UInt8.ofNat (48 + k % 10)) (48 + (k : Int) % 10) (by rw [UInt8.toNat_ofNat']; omega)
    have k1 : IntKind.i64.wrap (48 + (k : Int) % 10) = 48 + (k : Int) % 10 := by rw [IntKind.wrap_i64]; omega
    have k2 : IntKind.u8.wrap (48 + (k : Int) % 10) = 48 + (k : Int) % 10 := by rw [IntKind.wrap_u8]; omega
    have hq : (((k / 10 : Nat) : Nat) : Int) = (k : Int) / 10 := by omega
    have k3 : IntKind.i64.wrap ((k : Int) / 10) = (k : Int) / 10 := by have := HK.out; rw [IntKind.wrap_i64]; omega
    obtain ⟨B, hB⟩ : ∃ B : ByteArray, B = ⟨#[UInt8.ofNat (48 + k % 10)]⟩ := ⟨_, rfl⟩
    rw [← hB] at hstep hsz
    simp only [← hB] at hcv
    have hBs : B.size = 1 := by rw [hB]; rfl
    have hcat : B.size + S.size ≤ 30 := by rw [hBs]; have := HSL.out; omega
    have HST := Lib.hid hstep
    have HSZ := Lib.hid hsz
    have HQ := Lib.hid hq
    clear hstep hsz hq hB hBs
    by_cases c1 : k = 0
    · by_cases c2 : S.size < m
      · have hst := HST.out (.inr c2)
        have HST2 := Lib.hid hst
        subst c1
        have c2' : (S.size : Int) < (m : Int) := by omega
        have C2 := Lib.hid c2
        clear hst HST c2
        have hcv0 : ∀ w : World, (convert 65 9 (.slice (some ⟨w.heap.size, 0, none⟩) 1 1)).run Tryz.prog (w.alloc (.cells #[.int .u8 48] 5)) = .ok (.string B) (w.alloc (.cells #[.int .u8 48] 5)) := fun w => by have h := hcv w; rw [show (48 + ((0 : Nat) : Int) % 10) = 48 from by decide] at h; exact h
        clear k1 k2 k3 hcv
        go_wp2_with fail
        go_roundw
        case rel => exact ⟨0, B ++ S, by omega, by go_num, rfl, HST2.out, HBW.out.alloc HBW.out.size _⟩
        case measure => have := HSZ.out; have := C2.out; simp only [stLen, intOf]; omega
      · have c2' : ¬ (S.size : Int) < (m : Int) := by omega
        subst c1
        have he := HD.out
        rw [dgT_end (by rw [← Lib.size_eq]; omega)] at he
        have HE := Lib.hid he
        clear he c2 HST k1 k2 k3 hcv
        go_wp2_with fail
        go_ret
        exact ⟨rs_str (by apply ba_ext; rw [HE.out]), HBW.out⟩
    · have hst := HST.out (.inl c1)
      have HST2 := Lib.hid hst
      have c1' : (0 : Int) < (k : Int) := by omega
      have C1 := Lib.hid c1
      clear hst HST c1
      go_wp2_with fail
      go_roundw
      case rel => exact ⟨k / 10, B ++ S, by have := HK.out; omega, by rw [HQ.out], rfl, HST2.out, HBW.out.alloc HBW.out.size _⟩
      case measure => have h1 := HSZ.out; have h2 := C1.out; simp only [stLen, intOf]; omega
theorem digits_calls (n : Int) (m : Nat) (w : World) (h0 : 0 ≤ n) (hn : n < 10000000000) (h1 : 1 ≤ m) (hm : m ≤ 20) :
    Calls Tryz.prog 112 #[.int .i64 n, .int .i64 (m : Nat)] w fun e w' => e = .returned (.string ⟨(pdP n m).toArray⟩) ∧ Below w.heap.size w w' := by
  obtain ⟨u, rfl⟩ : ∃ u : Nat, n = u := ⟨n.toNat, by omega⟩
  rw [← dgT_pdP u h1]
  exact digits_nat u m w (by omega) hm
/-- A number's text behind a letter. -/
theorem dg_let (n : Int) (m : Nat) (h0 : 0 ≤ n) (hn : n < 10000000000) (h1 : 1 ≤ m) (hm : m ≤ 20) : ∃ A : ByteArray, A.size ≤ 20 ∧ A.data.toList = pdP n m ∧ ∀ w, Calls Tryz.prog 112 #[.int .i64 n, .int .i64 (m : Nat)] w fun e w' => e = .returned (.string A) ∧ Below w.heap.size w w' :=
  ⟨⟨(pdP n m).toArray⟩, by rw [sz_mk]; exact pd_len n m h0 hn h1 hm, rfl, fun w => digits_calls n m w h0 hn h1 hm⟩
set_option maxHeartbeats 1000000 in
theorem year_let (y : Int) (hy : -2000000000 ≤ y ∧ y ≤ 2000000000) : ∃ A : ByteArray, A.size ≤ 21 ∧ A.data.toList = yrT y ∧ ∀ w, Calls Tryz.prog 147 #[.int .i64 y] w fun e w' => e = .returned (.string A) ∧ Below w.heap.size w w' := by
  obtain ⟨hy1, hy2⟩ := hy
  by_cases c : y < 0
  · obtain ⟨A, hA, hAd, hc⟩ := dg_let (-y) 4 (by omega) (by omega) (by omega) (by omega)
    have hc : ∀ w, Calls Tryz.prog 112 #[.int .i64 (-y), .int .i64 4] w fun e w' => e = .returned (.string A) ∧ Below w.heap.size w w' := hc
    have hcat : 1 + A.size ≤ 30 := by omega
    refine ⟨⟨#[45]⟩ ++ A, by rw [ByteArray.size_append]; show 1 + A.size ≤ _; omega, by unfold yrT; rw [if_pos c, ← hAd]; simp, fun w => ?_⟩
    have HC := Lib.hid hc
    clear hc hAd
    go_enter Tryz.func147, Tryz.ntmps147
    go_wp2_with (go_at_call 112; (with_reducible refine (HC.out _).mono ?_); rintro e w1 ⟨rfl, hb1⟩)
    go_ret
    exact ⟨rfl, hb1⟩
  · obtain ⟨A, hA, hAd, hc⟩ := dg_let y 4 (by omega) (by omega) (by omega) (by omega)
    have hc : ∀ w, Calls Tryz.prog 112 #[.int .i64 y, .int .i64 4] w fun e w' => e = .returned (.string A) ∧ Below w.heap.size w w' := hc
    refine ⟨A, by omega, by unfold yrT; rw [if_neg c, ← hAd], fun w => ?_⟩
    have HC := Lib.hid hc
    clear hc hAd
    go_enter Tryz.func147, Tryz.ntmps147
    go_wp2_with (go_at_call 112; (with_reducible refine (HC.out _).mono ?_); rintro e w1 ⟨rfl, hb1⟩)
    go_ret
    exact ⟨rfl, hb1⟩
/-- The texts of a moment in memory. -/
def Mo8.dtx (m : Mo8) : List UInt8 := yrT m.y ++ [45] ++ pdP m.mo 2 ++ [45] ++ pdP m.d 2
def Mo8.ttx (m : Mo8) : List UInt8 := tmT m.h m.mi m.s m.f.data.toList
def Mo8.ztx (m : Mo8) : List UInt8 := znT m.z m.o
/-- What may be written. -/
structure Mo8.Ok (m : Mo8) : Prop where
  y0 : -2000000000 ≤ m.y
  y1 : m.y ≤ 2000000000
  mo0 : 0 ≤ m.mo
  mo1 : m.mo ≤ 12
  d0 : 0 ≤ m.d
  d1 : m.d ≤ 31
  h0 : 0 ≤ m.h
  h1 : m.h ≤ 24
  mi0 : 0 ≤ m.mi
  mi1 : m.mi ≤ 59
  s0 : 0 ≤ m.s
  s1 : m.s ≤ 59
  f1 : m.f.size ≤ 65536
  o0 : -840 ≤ m.o
  o1 : m.o ≤ 840
set_option maxHeartbeats 2000000 in
theorem dateText_let (m : Mo8) (hm : m.Ok) : ∃ T : ByteArray, T.size ≤ 70 ∧ T.data.toList = m.dtx ∧ ∀ w, Calls Tryz.prog 113 #[.agg m.cells] w fun e w' => e = .returned (.string T) ∧ Below w.heap.size w w' := by
  obtain ⟨y, mo, d, h, mi, s, f, z, o⟩ := m
  obtain ⟨y0, y1, mo0, mo1, d0, d1, h0, h1, mi0, mi1, s0, s1, f1, o0, o1⟩ := hm
  dsimp only at *
  obtain ⟨Y, Ys, Yd, Yc⟩ := year_let y ⟨y0, y1⟩
  have HY := Lib.hid Yc
  obtain ⟨M, Ms, Md, Mc⟩ := dg_let (mo) 2 (by omega) (by omega) (by omega) (by omega)
  have Mc : ∀ w, Calls Tryz.prog 112 #[.int .i64 (mo), .int .i64 2] w fun e w' => e = .returned (.string M) ∧ Below w.heap.size w w' := Mc
  have HM := Lib.hid Mc
  obtain ⟨D, Ds, Dd, Dc⟩ := dg_let (d) 2 (by omega) (by omega) (by omega) (by omega)
  have Dc : ∀ w, Calls Tryz.prog 112 #[.int .i64 (d), .int .i64 2] w fun e w' => e = .returned (.string D) ∧ Below w.heap.size w w' := Dc
  have HD := Lib.hid Dc
  clear Yc Mc Dc y0 y1 mo0 mo1 d0 d1 h0 h1 mi0 mi1 s0 s1 f1 o0 o1
  have z1 : (Y ++ ⟨#[45]⟩).size ≤ 22 := by rw [ByteArray.size_append]; show Y.size + 1 ≤ _; omega
  have z2 : (Y ++ ⟨#[45]⟩ ++ M).size ≤ 42 := by rw [ByteArray.size_append]; omega
  have z3 : (Y ++ ⟨#[45]⟩ ++ M ++ ⟨#[45]⟩).size ≤ 43 := by rw [ByteArray.size_append]; show _ + 1 ≤ _; omega
  have z4 : (Y ++ ⟨#[45]⟩ ++ M ++ ⟨#[45]⟩ ++ D).size ≤ 70 := by rw [ByteArray.size_append]; omega
  refine ⟨Y ++ ⟨#[45]⟩ ++ M ++ ⟨#[45]⟩ ++ D, z4, by unfold Mo8.dtx; dsimp only; rw [← Yd, ← Md, ← Dd]; simp, fun w => ?_⟩
  unfold Mo8.cells
  dsimp only
  clear Yd Md Dd
  go_enter Tryz.func113, Tryz.ntmps113
  go_upto_region 1 with fail
  obtain ⟨r1, hb⟩ := box1 w (.cells #[.int .i64 y, .int .i64 mo, .int .i64 d, .int .i64 h, .int .i64 mi, .int .i64 s, .string f, .bool z, .int .i64 o] 69)
  generalize World.alloc w _ = w2 at r1 hb ⊢
  have c0 := row_cell r1 0
  have c1 := row_cell r1 1
  have c2 := row_cell r1 2
  simp at c0 c1 c2
  have x0 := Lw.cell c0
  have x1 := Lw.cell c1
  have x2 := Lw.cell c2
  have HB := Lib.hid hb
  clear hb r1
  refine wp_region_lw (by kernel_rfl) (by kernel_rfl) ?_
  repeat (go_big_quiet_step (first | exact rfl | (go_at_call 147; with_reducible exact lw_call (HY.out _)) | (go_at_call 112; with_reducible exact lw_call (HM.out _)) | (go_at_call 112; with_reducible exact lw_call (HD.out _))))
  refine wpQuiet_nil ?_
  rintro ⟨w3, hb3⟩
  dsimp only
  go_wp2_with fail
  go_ret
  exact ⟨rfl, HB.out.trans (hb3.mono HB.out.size)⟩
set_option maxHeartbeats 2000000 in
theorem timeText_let (m : Mo8) (hm : m.Ok) : ∃ T : ByteArray, T.size ≤ 65700 ∧ T.data.toList = m.ttx ∧ ∀ w, Calls Tryz.prog 115 #[.agg m.cells] w fun e w' => e = .returned (.string T) ∧ Below w.heap.size w w' := by
  obtain ⟨y, mo, d, h, mi, s, f, z, o⟩ := m
  obtain ⟨y0, y1, mo0, mo1, d0, d1, h0, h1, mi0, mi1, s0, s1, f1, o0, o1⟩ := hm
  dsimp only at *
  obtain ⟨Y, Ys, Yd, Yc⟩ := dg_let (h) 2 (by omega) (by omega) (by omega) (by omega)
  have Yc : ∀ w, Calls Tryz.prog 112 #[.int .i64 (h), .int .i64 2] w fun e w' => e = .returned (.string Y) ∧ Below w.heap.size w w' := Yc
  have HY := Lib.hid Yc
  obtain ⟨M, Ms, Md, Mc⟩ := dg_let (mi) 2 (by omega) (by omega) (by omega) (by omega)
  have Mc : ∀ w, Calls Tryz.prog 112 #[.int .i64 (mi), .int .i64 2] w fun e w' => e = .returned (.string M) ∧ Below w.heap.size w w' := Mc
  have HM := Lib.hid Mc
  obtain ⟨D, Ds, Dd, Dc⟩ := dg_let (s) 2 (by omega) (by omega) (by omega) (by omega)
  have Dc : ∀ w, Calls Tryz.prog 112 #[.int .i64 (s), .int .i64 2] w fun e w' => e = .returned (.string D) ∧ Below w.heap.size w w' := Dc
  have HD := Lib.hid Dc
  clear Yc Mc Dc y0 y1 mo0 mo1 d0 d1 h0 h1 mi0 mi1 s0 s1 o0 o1
  have z1 : (Y ++ ⟨#[58]⟩).size ≤ 21 := by rw [ByteArray.size_append]; show Y.size + 1 ≤ _; omega
  have z2 : (Y ++ ⟨#[58]⟩ ++ M).size ≤ 42 := by rw [ByteArray.size_append]; omega
  have z3 : (Y ++ ⟨#[58]⟩ ++ M ++ ⟨#[58]⟩).size ≤ 43 := by rw [ByteArray.size_append]; show _ + 1 ≤ _; omega
  have z4 : (Y ++ ⟨#[58]⟩ ++ M ++ ⟨#[58]⟩ ++ D).size ≤ 70 := by rw [ByteArray.size_append]; omega
  have z5 : (Y ++ ⟨#[58]⟩ ++ M ++ ⟨#[58]⟩ ++ D ++ ⟨#[46]⟩).size ≤ 71 := by rw [ByteArray.size_append]; show _ + 1 ≤ _; omega
  have z6 : (Y ++ ⟨#[58]⟩ ++ M ++ ⟨#[58]⟩ ++ D ++ ⟨#[46]⟩ ++ f).size ≤ 65700 := by rw [ByteArray.size_append]; omega
  by_cases hf : f.data.toList = []
  · refine ⟨Y ++ ⟨#[58]⟩ ++ M ++ ⟨#[58]⟩ ++ D, by omega, by unfold Mo8.ttx tmT; dsimp only; rw [← Yd, ← Md, ← Dd, if_pos hf]; simp, fun w => ?_⟩
    unfold Mo8.cells
    dsimp only
    have fe : (f.toList == []) = true := by rw [Lib.toList_data, hf]; rfl
    have fe2 : (f.toList != []) = false := by rw [bne, fe]; rfl
    clear Yd Md Dd hf
    go_enter Tryz.func115, Tryz.ntmps115
    go_upto_region 1 with fail
    obtain ⟨r1, hb⟩ := box1 w (.cells #[.int .i64 y, .int .i64 mo, .int .i64 d, .int .i64 h, .int .i64 mi, .int .i64 s, .string f, .bool z, .int .i64 o] 69)
    generalize World.alloc w _ = w2 at r1 hb ⊢
    have c3 := row_cell r1 3
    have c4 := row_cell r1 4
    have c5 := row_cell r1 5
    have c6 := row_cell r1 6
    simp at c3 c4 c5 c6
    have x3 := Lw.cell c3
    have x4 := Lw.cell c4
    have x5 := Lw.cell c5
    have x6 := Lw.cell c6
    have HB := Lib.hid hb
    clear hb r1
    refine wp_region_lw (by kernel_rfl) (by kernel_rfl) ?_
    repeat (go_big_quiet_step (first | exact rfl | (go_at_call 112; with_reducible exact lw_call (HY.out _)) | (go_at_call 112; with_reducible exact lw_call (HM.out _)) | (go_at_call 112; with_reducible exact lw_call (HD.out _))))
    refine wpQuiet_nil ?_
    rintro ⟨w3, hb3⟩
    dsimp only
    have u6 := x6 ⟨w3, hb3⟩
    dsimp only at u6
    clear x3 x4 x5 x6 c3 c4 c5 c6
    go_wp2_with fail
    go_ret
    exact ⟨rfl, HB.out.trans (hb3.mono HB.out.size)⟩
  · refine ⟨Y ++ ⟨#[58]⟩ ++ M ++ ⟨#[58]⟩ ++ D ++ ⟨#[46]⟩ ++ f, by omega, by unfold Mo8.ttx tmT; dsimp only; rw [← Yd, ← Md, ← Dd, if_neg hf]; simp, fun w => ?_⟩
    unfold Mo8.cells
    dsimp only
    have fe : (f.toList == []) = false := by rw [Lib.toList_data]; exact beq_false_of_ne hf
    have fe2 : (f.toList != []) = true := by rw [bne, fe]; rfl
    clear Yd Md Dd hf
    go_enter Tryz.func115, Tryz.ntmps115
    go_upto_region 1 with fail
    obtain ⟨r1, hb⟩ := box1 w (.cells #[.int .i64 y, .int .i64 mo, .int .i64 d, .int .i64 h, .int .i64 mi, .int .i64 s, .string f, .bool z, .int .i64 o] 69)
    generalize World.alloc w _ = w2 at r1 hb ⊢
    have c3 := row_cell r1 3
    have c4 := row_cell r1 4
    have c5 := row_cell r1 5
    have c6 := row_cell r1 6
    simp at c3 c4 c5 c6
    have x3 := Lw.cell c3
    have x4 := Lw.cell c4
    have x5 := Lw.cell c5
    have x6 := Lw.cell c6
    have HB := Lib.hid hb
    clear hb r1
    refine wp_region_lw (by kernel_rfl) (by kernel_rfl) ?_
    repeat (go_big_quiet_step (first | exact rfl | (go_at_call 112; with_reducible exact lw_call (HY.out _)) | (go_at_call 112; with_reducible exact lw_call (HM.out _)) | (go_at_call 112; with_reducible exact lw_call (HD.out _))))
    refine wpQuiet_nil ?_
    rintro ⟨w3, hb3⟩
    dsimp only
    have u6 := x6 ⟨w3, hb3⟩
    dsimp only at u6
    clear x3 x4 x5 x6 c3 c4 c5 c6
    go_wp2_with fail
    go_ret
    exact ⟨rfl, HB.out.trans (hb3.mono HB.out.size)⟩
set_option maxHeartbeats 2000000 in
theorem zoneText_let (m : Mo8) (hm : m.Ok) : ∃ T : ByteArray, T.size ≤ 50 ∧ T.data.toList = m.ztx ∧ ∀ w, Calls Tryz.prog 114 #[.agg m.cells] w fun e w' => e = .returned (.string T) ∧ Below w.heap.size w w' := by
  obtain ⟨y, mo, d, h, mi, s, f, z, o⟩ := m
  obtain ⟨y0, y1, mo0, mo1, d0, d1, h0, h1, mi0, mi1, s0, s1, f1, o0, o1⟩ := hm
  dsimp only at *
  clear y0 y1 mo0 mo1 d0 d1 h0 h1 mi0 mi1 s0 s1 f1
  cases z with
  | false =>
    refine ⟨⟨#[]⟩, by decide, by unfold Mo8.ztx znT; dsimp only; rfl, fun w => ?_⟩
    unfold Mo8.cells
    dsimp only
    clear o0 o1
    go_enter Tryz.func114, Tryz.ntmps114
    go_upto_region 1 with fail
    obtain ⟨r1, hb⟩ := box1 w (.cells #[.int .i64 y, .int .i64 mo, .int .i64 d, .int .i64 h, .int .i64 mi, .int .i64 s, .string f, .bool false, .int .i64 o] 69)
    generalize World.alloc w _ = w2 at r1 hb ⊢
    have c7 := row_cell r1 7
    have c8 := row_cell r1 8
    simp at c7 c8
    have x7 := Lw.cell c7
    have x8 := Lw.cell c8
    have HB := Lib.hid hb
    clear hb r1
    go_wp2_with fail
    go_ret
    exact ⟨rfl, HB.out⟩
  | true =>
    by_cases c0 : o = 0
    · refine ⟨⟨#[90]⟩, by decide, by unfold Mo8.ztx znT; dsimp only; rw [if_neg (by simp), if_pos c0], fun w => ?_⟩
      unfold Mo8.cells
      dsimp only
      clear o0 o1
      subst c0
      go_enter Tryz.func114, Tryz.ntmps114
      go_upto_region 1 with fail
      obtain ⟨r1, hb⟩ := box1 w (.cells #[.int .i64 y, .int .i64 mo, .int .i64 d, .int .i64 h, .int .i64 mi, .int .i64 s, .string f, .bool true, .int .i64 0] 69)
      generalize World.alloc w _ = w2 at r1 hb ⊢
      have c7 := row_cell r1 7
      have c8 := row_cell r1 8
      simp at c7 c8
      have x7 := Lw.cell c7
      have x8 := Lw.cell c8
      have HB := Lib.hid hb
      clear hb r1
      go_wp2_with fail
      go_ret
      exact ⟨rfl, HB.out⟩
    · have c0b : (o == 0) = false := beq_false_of_ne c0
      have C0 := Lib.hid c0
      clear c0
      by_cases c1 : o < 0
      · obtain ⟨q, rfl⟩ : ∃ q, o = -q := ⟨-o, by omega⟩
        obtain ⟨M, Ms, Md, Mc⟩ := dg_let (q / 60) 2 (by omega) (by omega) (by omega) (by omega)
        have Mc : ∀ w, Calls Tryz.prog 112 #[.int .i64 (q / 60), .int .i64 2] w fun e w' => e = .returned (.string M) ∧ Below w.heap.size w w' := Mc
        have HM := Lib.hid Mc
        obtain ⟨D, Ds, Dd, Dc⟩ := dg_let (q % 60) 2 (by omega) (by omega) (by omega) (by omega)
        have Dc : ∀ w, Calls Tryz.prog 112 #[.int .i64 (q % 60), .int .i64 2] w fun e w' => e = .returned (.string D) ∧ Below w.heap.size w w' := Dc
        have HD := Lib.hid Dc
        clear Mc Dc
        have z1 : ((⟨#[45]⟩ : ByteArray) ++ M).size ≤ 21 := by rw [ByteArray.size_append]; show 1 + M.size ≤ _; omega
        have z2 : ((⟨#[45]⟩ : ByteArray) ++ M ++ ⟨#[58]⟩).size ≤ 22 := by rw [ByteArray.size_append]; show _ + 1 ≤ _; omega
        have z3 : ((⟨#[45]⟩ : ByteArray) ++ M ++ ⟨#[58]⟩ ++ D).size ≤ 42 := by rw [ByteArray.size_append]; omega
        refine ⟨⟨#[45]⟩ ++ M ++ ⟨#[58]⟩ ++ D, by omega, by unfold Mo8.ztx znT; dsimp only; rw [if_neg (by simp), if_neg C0.out, if_pos c1, show (- -q : Int) / 60 = q / 60 by rw [Int.neg_neg], show (- -q : Int) % 60 = q % 60 by rw [Int.neg_neg], ← Md, ← Dd]; simp, fun w => ?_⟩
        unfold Mo8.cells
        dsimp only
        have n1 : (- -q : Int) = q := Int.neg_neg q
        have qd : q.tdiv 60 = q / 60 := Int.tdiv_eq_ediv_of_nonneg (by omega)
        have qm : q.tmod 60 = q % 60 := Int.tmod_eq_emod_of_nonneg (by omega)
        clear Md Dd
        go_enter Tryz.func114, Tryz.ntmps114
        go_upto_region 1 with fail
        obtain ⟨r1, hb⟩ := box1 w (.cells #[.int .i64 y, .int .i64 mo, .int .i64 d, .int .i64 h, .int .i64 mi, .int .i64 s, .string f, .bool true, .int .i64 (-q)] 69)
        generalize World.alloc w _ = w2 at r1 hb ⊢
        have c7 := row_cell r1 7
        have c8 := row_cell r1 8
        simp at c7 c8
        have x7 := Lw.cell c7
        have x8 := Lw.cell c8
        have HB := Lib.hid hb
        clear hb r1
        go_upto_region 6 with fail
        refine wp_region_lw (by kernel_rfl) (by kernel_rfl) ?_
        repeat (go_big_quiet_step (first | exact rfl | (go_at_call 112; with_reducible exact lw_call (HM.out _)) | (go_at_call 112; with_reducible exact lw_call (HD.out _))))
        refine wpQuiet_nil ?_
        rintro ⟨w3, hb3⟩
        dsimp only
        go_wp2_with fail
        go_ret
        exact ⟨rfl, HB.out.trans (hb3.mono HB.out.size)⟩
      · have c1' : 0 ≤ o := by omega
        obtain ⟨M, Ms, Md, Mc⟩ := dg_let (o / 60) 2 (by omega) (by omega) (by omega) (by omega)
        have Mc : ∀ w, Calls Tryz.prog 112 #[.int .i64 (o / 60), .int .i64 2] w fun e w' => e = .returned (.string M) ∧ Below w.heap.size w w' := Mc
        have HM := Lib.hid Mc
        obtain ⟨D, Ds, Dd, Dc⟩ := dg_let (o % 60) 2 (by omega) (by omega) (by omega) (by omega)
        have Dc : ∀ w, Calls Tryz.prog 112 #[.int .i64 (o % 60), .int .i64 2] w fun e w' => e = .returned (.string D) ∧ Below w.heap.size w w' := Dc
        have HD := Lib.hid Dc
        clear Mc Dc
        have z1 : ((⟨#[43]⟩ : ByteArray) ++ M).size ≤ 21 := by rw [ByteArray.size_append]; show 1 + M.size ≤ _; omega
        have z2 : ((⟨#[43]⟩ : ByteArray) ++ M ++ ⟨#[58]⟩).size ≤ 22 := by rw [ByteArray.size_append]; show _ + 1 ≤ _; omega
        have z3 : ((⟨#[43]⟩ : ByteArray) ++ M ++ ⟨#[58]⟩ ++ D).size ≤ 42 := by rw [ByteArray.size_append]; omega
        refine ⟨⟨#[43]⟩ ++ M ++ ⟨#[58]⟩ ++ D, by omega, by unfold Mo8.ztx znT; dsimp only; rw [if_neg (by simp), if_neg C0.out, if_neg c1, ← Md, ← Dd]; simp, fun w => ?_⟩
        unfold Mo8.cells
        dsimp only
        have qd : o.tdiv 60 = o / 60 := Int.tdiv_eq_ediv_of_nonneg (by omega)
        have qm : o.tmod 60 = o % 60 := Int.tmod_eq_emod_of_nonneg (by omega)
        clear Md Dd
        go_enter Tryz.func114, Tryz.ntmps114
        go_upto_region 1 with fail
        obtain ⟨r1, hb⟩ := box1 w (.cells #[.int .i64 y, .int .i64 mo, .int .i64 d, .int .i64 h, .int .i64 mi, .int .i64 s, .string f, .bool true, .int .i64 o] 69)
        generalize World.alloc w _ = w2 at r1 hb ⊢
        have c7 := row_cell r1 7
        have c8 := row_cell r1 8
        simp at c7 c8
        have x7 := Lw.cell c7
        have x8 := Lw.cell c8
        have HB := Lib.hid hb
        clear hb r1
        go_upto_region 7 with fail
        refine wp_region_lw (by kernel_rfl) (by kernel_rfl) ?_
        repeat (go_big_quiet_step (first | exact rfl | (go_at_call 112; with_reducible exact lw_call (HM.out _)) | (go_at_call 112; with_reducible exact lw_call (HD.out _))))
        refine wpQuiet_nil ?_
        rintro ⟨w3, hb3⟩
        dsimp only
        go_wp2_with fail
        go_ret
        exact ⟨rfl, HB.out.trans (hb3.mono HB.out.size)⟩
end Go.Proofs.YtlhcejbimlilaaaGreatDoor
/- The document's next, before, settled (written by gen_vfc.py). -/
namespace Go.Proofs.YtlhcejbimlilaaaGreatDoor
open Go.RowKit Go.Tk
set_option maxHeartbeats 2000000 in
theorem mnext_calls (w : World) (g : Nat) (m : Mo8) (n : Int) (hd : IsDate n m.y m.mo m.d) (y0 : -1500000000 ≤ m.y) (y1 : m.y ≤ 1500000000) (hr : MoAt w g m) :
    Calls Tryz.prog 148 #[.pointer (some ⟨g, 0, none⟩)] w fun e w' => e = .returned (.tuple #[]) ∧ ∃ y mo d : Int, IsDate (n + 1) y mo d ∧ m.y ≤ y ∧ y ≤ m.y + 1 ∧ MoAt w' g { m with y := y, mo := mo, d := d } ∧ Below g w w' := by
  obtain ⟨y, mo, d, h, mi, s, f, z, o⟩ := m
  dsimp only at *
  have m1 := hd.m1
  have m2 := hd.m2
  have d1 := hd.d1
  have d2 := hd.d2
  have hdb := mdP_bd y mo
  have hdc := fun w => rdays_calls y mo w (by omega) (by omega) m1 m2
  have e1 := fun c => day_on1 hd c
  have e2 := fun c c2 => day_on2 hd c c2
  have e3 := fun c c2 => day_on3 hd c c2
  obtain ⟨M, hM⟩ : ∃ M, M = mdP y mo := ⟨_, rfl⟩
  rw [← hM] at hdc d2 hdb e1 e2 e3
  have HDC := Lib.hid hdc
  have E1 := Lib.hid e1
  have E2 := Lib.hid e2
  have E3 := Lib.hid e3
  have hdb2 := hdb.2
  clear hdc hM hdb e1 e2 e3
  have R := Lib.hid hr
  have B := Lib.hid (Below.refl g w)
  have HD := Lib.hid hd
  clear hr hd
  go_enter Tryz.func148, Tryz.ntmps148
  have c2 := row_cell R.out 2
  simp [Mo8.cells] at c2
  have fz := R.out.froz
  go_upto_region 1 with fail
  have Ry : MoAt (World.setCell _ ⟨g, 2, none⟩ (.int .i64 (d + 1))) g ⟨y, mo, d + 1, h, mi, s, f, z, o⟩ := R.out.set 2 _ rfl
  have By := bel_set B.out 2 (.int .i64 (d + 1))
  generalize World.setCell _ _ _ = wn at Ry By ⊢
  clear c2 fz
  replace R := Lib.hid Ry
  replace B := Lib.hid By
  clear Ry By
  have qx := Lw.row R.out
  have x0 := fun x => (row_cell (qx x) 0)
  have x1 := fun x => (row_cell (qx x) 1)
  have x2 := fun x => (row_cell (qx x) 2)
  simp [Mo8.cells] at x0 x1 x2
  clear qx
  refine wp_region_lw (by kernel_rfl) (by kernel_rfl) ?_
  repeat (go_big_quiet_step (first | exact rfl | (go_at_call 131; with_reducible exact lw_call (HDC.out _))))
  refine wpQuiet_nil ?_
  rintro ⟨w9, hb9⟩
  dsimp only
  have R9 := R.out.next hb9
  have B9 : Below g w w9 := B.out.trans (hb9.mono (Nat.le_of_lt R.out.lt))
  clear x0 x1 x2 hb9
  replace R := Lib.hid R9
  replace B := Lib.hid B9
  clear R9 B9
  by_cases c : d + 1 ≤ M
  · have c' : ¬ M < d + 1 := by omega
    have c0 := row_cell R.out 0
    have c1 := row_cell R.out 1
    have c2 := row_cell R.out 2
    simp [Mo8.cells] at c0 c1 c2
    go_wp2_with fail
    go_end0
    exact ⟨rfl, y, mo, d + 1, E1.out c, by omega, by omega, R.out, B.out⟩
  · have c' : M < d + 1 := by omega
    have C := Lib.hid c
    clear c
    have c2 := row_cell R.out 2
    simp [Mo8.cells] at c2
    have fz := R.out.froz
    go_upto_region 3 with fail
    have Ry : MoAt (World.setCell _ ⟨g, 2, none⟩ (.int .i64 (1))) g ⟨y, mo, 1, h, mi, s, f, z, o⟩ := R.out.set 2 _ rfl
    have By := bel_set B.out 2 (.int .i64 (1))
    generalize World.setCell _ _ _ = wn at Ry By ⊢
    clear c2 fz
    replace R := Lib.hid Ry
    replace B := Lib.hid By
    clear Ry By
    have c1 := row_cell R.out 1
    simp [Mo8.cells] at c1
    have fz := R.out.froz
    go_upto_region 4 with fail
    have Ry : MoAt (World.setCell _ ⟨g, 1, none⟩ (.int .i64 (mo + 1))) g ⟨y, mo + 1, 1, h, mi, s, f, z, o⟩ := R.out.set 1 _ rfl
    have By := bel_set B.out 1 (.int .i64 (mo + 1))
    generalize World.setCell _ _ _ = wn at Ry By ⊢
    clear c1 fz
    replace R := Lib.hid Ry
    replace B := Lib.hid By
    clear Ry By
    by_cases cm : mo + 1 ≤ 12
    · have cm' : ¬ 12 < mo + 1 := by omega
      have c0 := row_cell R.out 0
      have c1 := row_cell R.out 1
      have c2 := row_cell R.out 2
      simp [Mo8.cells] at c0 c1 c2
      go_wp2_with fail
      go_end0
      exact ⟨rfl, y, mo + 1, 1, E2.out C.out cm, by omega, by omega, R.out, B.out⟩
    · have cm' : 12 < mo + 1 := by omega
      have C2 := Lib.hid cm
      clear cm
      have c1 := row_cell R.out 1
      simp [Mo8.cells] at c1
      go_upto_region 5 with fail
      clear c1
      have c1 := row_cell R.out 1
      simp [Mo8.cells] at c1
      have fz := R.out.froz
      go_upto_region 6 with fail
      have Ry : MoAt (World.setCell _ ⟨g, 1, none⟩ (.int .i64 (1))) g ⟨y, 1, 1, h, mi, s, f, z, o⟩ := R.out.set 1 _ rfl
      have By := bel_set B.out 1 (.int .i64 (1))
      generalize World.setCell _ _ _ = wn at Ry By ⊢
      clear c1 fz
      replace R := Lib.hid Ry
      replace B := Lib.hid By
      clear Ry By
      have c0 := row_cell R.out 0
      simp [Mo8.cells] at c0
      have fz := R.out.froz
      go_wp2_with fail
      have Ry : MoAt (World.setCell _ ⟨g, 0, none⟩ (.int .i64 (y + 1))) g ⟨y + 1, 1, 1, h, mi, s, f, z, o⟩ := R.out.set 0 _ rfl
      have By := bel_set B.out 0 (.int .i64 (y + 1))
      go_end0
      exact ⟨rfl, y + 1, 1, 1, E3.out C.out C2.out, by omega, by omega, Ry, By⟩
set_option maxHeartbeats 2000000 in
theorem rbefore_calls (w : World) (g : Nat) (m : Mo8) (n : Int) (hd : IsDate n m.y m.mo m.d) (y0 : -1500000000 ≤ m.y) (y1 : m.y ≤ 1500000000) (hr : MoAt w g m) :
    Calls Tryz.prog 149 #[.pointer (some ⟨g, 0, none⟩)] w fun e w' => e = .returned (.tuple #[]) ∧ ∃ y mo d : Int, IsDate (n - 1) y mo d ∧ m.y - 1 ≤ y ∧ y ≤ m.y ∧ MoAt w' g { m with y := y, mo := mo, d := d } ∧ Below g w w' := by
  obtain ⟨y, mo, d, h, mi, s, f, z, o⟩ := m
  dsimp only at *
  have m1 := hd.m1
  have m2 := hd.m2
  have d1 := hd.d1
  have d2 := hd.d2
  have hdb := mdP_bd y mo
  have d31 : d ≤ 31 := by omega
  have R := Lib.hid hr
  have B := Lib.hid (Below.refl g w)
  have HD := Lib.hid hd
  clear hr hd
  clear d2 hdb
  go_enter Tryz.func149, Tryz.ntmps149
  have c2 := row_cell R.out 2
  simp [Mo8.cells] at c2
  have fz := R.out.froz
  go_upto_region 1 with fail
  have Ry : MoAt (World.setCell _ ⟨g, 2, none⟩ (.int .i64 (d - 1))) g ⟨y, mo, d - 1, h, mi, s, f, z, o⟩ := R.out.set 2 _ rfl
  have By := bel_set B.out 2 (.int .i64 (d - 1))
  generalize World.setCell _ _ _ = wn at Ry By ⊢
  clear c2 fz
  replace R := Lib.hid Ry
  replace B := Lib.hid By
  clear Ry By
  by_cases c : d - 1 = 0
  · have cb : (d - 1 == 0) = true := beq_iff_eq.2 c
    have C := Lib.hid c
    clear c
    have c2 := row_cell R.out 2
    simp [Mo8.cells] at c2
    go_upto_region 2 with fail
    clear c2
    have c1 := row_cell R.out 1
    simp [Mo8.cells] at c1
    have fz := R.out.froz
    go_upto_region 3 with fail
    have Ry : MoAt (World.setCell _ ⟨g, 1, none⟩ (.int .i64 (mo - 1))) g ⟨y, mo - 1, d - 1, h, mi, s, f, z, o⟩ := R.out.set 1 _ rfl
    have By := bel_set B.out 1 (.int .i64 (mo - 1))
    generalize World.setCell _ _ _ = wn at Ry By ⊢
    clear c1 fz
    replace R := Lib.hid Ry
    replace B := Lib.hid By
    clear Ry By
    by_cases cm : mo - 1 = 0
    · have c2b : (mo - 1 == 0) = true := beq_iff_eq.2 cm
      have C2 := Lib.hid cm
      clear cm
      have c1 := row_cell R.out 1
      simp [Mo8.cells] at c1
      go_upto_region 4 with fail
      clear c1
      have c1 := row_cell R.out 1
      simp [Mo8.cells] at c1
      have fz := R.out.froz
      go_upto_region 5 with fail
      have Ry : MoAt (World.setCell _ ⟨g, 1, none⟩ (.int .i64 (12))) g ⟨y, 12, d - 1, h, mi, s, f, z, o⟩ := R.out.set 1 _ rfl
      have By := bel_set B.out 1 (.int .i64 (12))
      generalize World.setCell _ _ _ = wn at Ry By ⊢
      clear c1 fz
      replace R := Lib.hid Ry
      replace B := Lib.hid By
      clear Ry By
      have c0 := row_cell R.out 0
      simp [Mo8.cells] at c0
      have fz := R.out.froz
      go_upto_region 6 with fail
      have Ry : MoAt (World.setCell _ ⟨g, 0, none⟩ (.int .i64 (y - 1))) g ⟨y - 1, 12, d - 1, h, mi, s, f, z, o⟩ := R.out.set 0 _ rfl
      have By := bel_set B.out 0 (.int .i64 (y - 1))
      generalize World.setCell _ _ _ = wn at Ry By ⊢
      clear c0 fz
      replace R := Lib.hid Ry
      replace B := Lib.hid By
      clear Ry By
      have hdc := fun w => rdays_calls (y - 1) (12) w (by omega) (by omega) (by omega) (by omega)
      have e2 := day_bk3 HD.out C.out C2.out
      have hdb := mdP_bd (y - 1) (12)
      obtain ⟨M, hM⟩ : ∃ M, M = mdP (y - 1) (12) := ⟨_, rfl⟩
      rw [← hM] at hdc hdb e2
      have HDC := Lib.hid hdc
      have E2 := Lib.hid e2
      obtain ⟨hdb1, hdb2⟩ := hdb
      clear hdc hM e2
      have qx := Lw.row R.out
      have x0 := fun x => (row_cell (qx x) 0)
      have x1 := fun x => (row_cell (qx x) 1)
      simp [Mo8.cells] at x0 x1
      clear qx
      refine wp_region_lw_tail 12 (by kernel_rfl) (by kernel_rfl) ?_
      simp only [List.take_succ_cons, List.take_zero, List.drop_succ_cons, List.drop_zero]
      repeat (go_big_quiet_step (first | exact rfl | (go_at_call 131; with_reducible exact lw_call (HDC.out _))))
      refine wpQuiet_nil ?_
      rintro ⟨w9, hb9⟩
      dsimp only
      have R9 := R.out.next hb9
      have B9 : Below g w w9 := B.out.trans (hb9.mono (Nat.le_of_lt R.out.lt))
      clear x0 x1 hb9
      replace R := Lib.hid R9
      replace B := Lib.hid B9
      clear R9 B9
      have c2 := row_cell R.out 2
      have fz := R.out.froz
      simp [Mo8.cells] at c2
      go_wp2_with fail
      have Ry : MoAt (World.setCell _ ⟨g, 2, none⟩ (.int .i64 M)) g ⟨y - 1, 12, M, h, mi, s, f, z, o⟩ := R.out.set 2 _ rfl
      have By := bel_set B.out 2 (.int .i64 M)
      go_end0
      exact ⟨rfl, y - 1, 12, M, E2.out, by omega, by omega, Ry, By⟩
    · have c2b : (mo - 1 == 0) = false := beq_false_of_ne cm
      have C2 := Lib.hid cm
      have q1 : 1 ≤ mo - 1 := by omega
      clear cm
      have c1 := row_cell R.out 1
      simp [Mo8.cells] at c1
      go_upto_region 6 with fail
      clear c1
      have hdc := fun w => rdays_calls (y) (mo - 1) w (by omega) (by omega) (by omega) (by omega)
      have e2 := day_bk2 HD.out C.out C2.out
      have hdb := mdP_bd (y) (mo - 1)
      obtain ⟨M, hM⟩ : ∃ M, M = mdP (y) (mo - 1) := ⟨_, rfl⟩
      rw [← hM] at hdc hdb e2
      have HDC := Lib.hid hdc
      have E2 := Lib.hid e2
      obtain ⟨hdb1, hdb2⟩ := hdb
      clear hdc hM e2
      have qx := Lw.row R.out
      have x0 := fun x => (row_cell (qx x) 0)
      have x1 := fun x => (row_cell (qx x) 1)
      simp [Mo8.cells] at x0 x1
      clear qx
      refine wp_region_lw_tail 12 (by kernel_rfl) (by kernel_rfl) ?_
      simp only [List.take_succ_cons, List.take_zero, List.drop_succ_cons, List.drop_zero]
      repeat (go_big_quiet_step (first | exact rfl | (go_at_call 131; with_reducible exact lw_call (HDC.out _))))
      refine wpQuiet_nil ?_
      rintro ⟨w9, hb9⟩
      dsimp only
      have R9 := R.out.next hb9
      have B9 : Below g w w9 := B.out.trans (hb9.mono (Nat.le_of_lt R.out.lt))
      clear x0 x1 hb9
      replace R := Lib.hid R9
      replace B := Lib.hid B9
      clear R9 B9
      have c2 := row_cell R.out 2
      have fz := R.out.froz
      simp [Mo8.cells] at c2
      go_wp2_with fail
      have Ry : MoAt (World.setCell _ ⟨g, 2, none⟩ (.int .i64 M)) g ⟨y, mo - 1, M, h, mi, s, f, z, o⟩ := R.out.set 2 _ rfl
      have By := bel_set B.out 2 (.int .i64 M)
      go_end0
      exact ⟨rfl, y, mo - 1, M, E2.out, by omega, by omega, Ry, By⟩
  · have cb : (d - 1 == 0) = false := beq_false_of_ne c
    have C := Lib.hid c
    clear c
    have c2 := row_cell R.out 2
    simp [Mo8.cells] at c2
    go_wp2_with fail
    go_end0
    exact ⟨rfl, y, mo, d - 1, day_bk1 HD.out C.out, by omega, by omega, R.out, B.out⟩
set_option maxHeartbeats 2000000 in
theorem settled_calls (w : World) (g : Nat) (m : Mo8) (n : Int) (hm : m.Ok) (hd : IsDate n m.y m.mo m.d) (y0 : -1100000000 ≤ m.y) (y1 : m.y ≤ 1100000000) (hr : MoAt w g m) :
    Calls Tryz.prog 116 #[.pointer (some ⟨g, 0, none⟩)] w fun e w' => e = .returned (.tuple #[]) ∧ ∃ n' y mo d q : Int, IsDate n' y mo d ∧ 0 ≤ q ∧ q < 1440 ∧ n' * 1440 + q = n * 1440 + (60 * m.h + m.mi - m.o) ∧ m.y - 10 ≤ y ∧ y ≤ m.y + 10 ∧ MoAt w' g { m with y := y, mo := mo, d := d, h := q / 60, mi := q % 60, o := 0 } ∧ Below g w w' := by
  obtain ⟨y, mo, d, h, mi, s, f, z, o⟩ := m
  obtain ⟨_, _, _, _, _, _, h0, h1, mi0, mi1, _, _, _, o0, o1⟩ := hm
  dsimp only at *
  obtain ⟨K, hK⟩ : ∃ K, K = 60 * h + mi - o := ⟨_, rfl⟩
  have k0 : -840 ≤ K := by omega
  have k1 : K ≤ 2400 := by omega
  have HK := Lib.hid hK
  clear hK
  have R := Lib.hid hr
  have B := Lib.hid (Below.refl g w)
  have HD := Lib.hid hd
  clear hr hd
  go_enter Tryz.func116, Tryz.ntmps116
  go_upto_region 0 with fail
  have qx := Lw.row R.out
  have x3 := fun x => (row_cell (qx x) 3)
  have x4 := fun x => (row_cell (qx x) 4)
  have x8 := fun x => (row_cell (qx x) 8)
  simp [Mo8.cells] at x3 x4 x8
  clear qx
  refine wp_region_lw (by kernel_rfl) (by kernel_rfl) ?_
  repeat (go_big_quiet_step (first | exact rfl))
  refine wpQuiet_nil ?_
  rintro ⟨w9, hb9⟩
  dsimp only
  have R9 := R.out.next hb9
  have B9 : Below g w w9 := B.out.trans (hb9.mono (Nat.le_of_lt R.out.lt))
  clear x3 x4 x8 hb9
  replace R := Lib.hid R9
  replace B := Lib.hid B9
  clear R9 B9
  rw [← HK.out]
  have c8 := row_cell R.out 8
  simp [Mo8.cells] at c8
  have fz := R.out.froz
  go_upto_region 2 with fail
  have Ry : MoAt (World.setCell _ ⟨g, 8, none⟩ (.int .i64 (0))) g ⟨y, mo, d, h, mi, s, f, z, 0⟩ := R.out.set 8 _ rfl
  have By := bel_set B.out 8 (.int .i64 (0))
  generalize World.setCell _ _ _ = wn at Ry By ⊢
  clear c8 fz
  replace R := Lib.hid Ry
  replace B := Lib.hid By
  clear Ry By
  rename World => w2
  go_loopw [2] (fun mv wr => ∃ n' y' mo' d' q : Int, mv = .int .i64 q ∧ -840 ≤ q ∧ q ≤ 2400 ∧ IsDate n' y' mo' d' ∧ n' * 1440 + q = n * 1440 + K ∧ y ≤ y' ∧ y' + q / 1440 ≤ y + 3 ∧ MoAt wr g ⟨y', mo', d', h, mi, s, f, z, 0⟩ ∧ Below g w wr) (fun mv _ => (intOf mv).toNat)
  case atStart => exact ⟨n, y, mo, d, K, by first | rfl | rw [HK.out], k0, k1, HD.out, rfl, by omega, by omega, R.out, B.out⟩
  case round =>
    clear R B
    obtain ⟨n', y', mo', d', q, rfl, q0, q1, hd', hq, hy0, hy1, R0, B0⟩ := hrel
    have R := Lib.hid R0
    have B := Lib.hid B0
    have HD' := Lib.hid hd'
    have HQ := Lib.hid hq
    have HY0 := Lib.hid hy0
    have HY1 := Lib.hid hy1
    clear R0 B0 hd' hq hy0 hy1
    by_cases c : 1440 ≤ q
    · have hc := mnext_calls wr g ⟨y', mo', d', h, mi, s, f, z, 0⟩ n' HD'.out (by have := HY0.out; show -1500000000 ≤ y'; omega) (by have := HY1.out; show y' ≤ 1500000000; omega) R.out
      have HC := Lib.hid hc
      clear hc
      go_wp2_with (go_at_call 148; (with_reducible refine HC.out.mono ?_); rintro e w4 ⟨rfl, y2, mo2, d2, hd2, ha, hb, hR2, hB2⟩)
      go_roundw
      case rel => exact ⟨n' + 1, y2, mo2, d2, q - 1440, by go_num, by omega, by omega, hd2, by have := HQ.out; omega, by have := HY0.out; omega, by have := HY1.out; omega, hR2, B.out.trans hB2⟩
      case measure => simp [intOf]; omega
    · have c' : q < 1440 := by omega
      clear c
      go_wp2_with fail
      go_loopw [2] (fun mv w5 => ∃ n' y' mo' d' q : Int, mv = .int .i64 q ∧ -840 ≤ q ∧ q < 1440 ∧ IsDate n' y' mo' d' ∧ n' * 1440 + q = n * 1440 + K ∧ y - 1 ≤ y' ∧ y' ≤ y + 5 ∧ (q < 0 → y ≤ y') ∧ MoAt w5 g ⟨y', mo', d', h, mi, s, f, z, 0⟩ ∧ Below g w w5) (fun mv _ => (-intOf mv).toNat)
      case atStart => exact ⟨n', y', mo', d', q, rfl, q0, c', HD'.out, HQ.out, by have := HY0.out; omega, by have := HY1.out; omega, fun _ => HY0.out, R.out, B.out⟩
      case round =>
        clear R B HD' HQ HY0 HY1 q0 q1 c'
        obtain ⟨n', y', mo', d', q, rfl, q0, q1, hd', hq, hy0, hy1, hy2, R0, B0⟩ := hrel
        have R := Lib.hid R0
        have B := Lib.hid B0
        have HD' := Lib.hid hd'
        have HQ := Lib.hid hq
        have HY0 := Lib.hid hy0
        have HY1 := Lib.hid hy1
        have HY2 := Lib.hid hy2
        clear R0 B0 hd' hq hy0 hy1 hy2
        by_cases c : q < 0
        · have hc := rbefore_calls wr g ⟨y', mo', d', h, mi, s, f, z, 0⟩ n' HD'.out (by have := HY0.out; show -1500000000 ≤ y'; omega) (by have := HY1.out; show y' ≤ 1500000000; omega) R.out
          have HC := Lib.hid hc
          clear hc
          go_wp2_with (go_at_call 149; (with_reducible refine HC.out.mono ?_); rintro e w4 ⟨rfl, y2, mo2, d2, hd2, ha, hb, hR2, hB2⟩)
          go_roundw
          case rel => exact ⟨n' - 1, y2, mo2, d2, q + 1440, by go_num, by omega, by omega, hd2, by have := HQ.out; omega, by have := HY2.out c; omega, by have := HY1.out; omega, fun h => absurd h (by omega), hR2, B.out.trans hB2⟩
          case measure => simp [intOf]; omega
        · have c' : 0 ≤ q := by omega
          have C := Lib.hid c'
          clear c
          have qd : q.tdiv 60 = q / 60 := Int.tdiv_eq_ediv_of_nonneg c'
          have qm : q.tmod 60 = q % 60 := Int.tmod_eq_emod_of_nonneg c'
          go_upto_region 8 with fail
          have c3 := row_cell R.out 3
          simp [Mo8.cells] at c3
          have fz := R.out.froz
          go_upto_region 9 with fail
          have Ry : MoAt (World.setCell _ ⟨g, 3, none⟩ (.int .i64 (q / 60))) g ⟨y', mo', d', q / 60, mi, s, f, z, 0⟩ := R.out.set 3 _ rfl
          have By := bel_set B.out 3 (.int .i64 (q / 60))
          generalize World.setCell _ _ _ = wn at Ry By ⊢
          clear c3 fz
          replace R := Lib.hid Ry
          replace B := Lib.hid By
          clear Ry By
          have c4 := row_cell R.out 4
          simp [Mo8.cells] at c4
          have fz := R.out.froz
          go_wp2_with fail
          have Ry : MoAt (World.setCell _ ⟨g, 4, none⟩ (.int .i64 (q % 60))) g ⟨y', mo', d', q / 60, q % 60, s, f, z, 0⟩ := R.out.set 4 _ rfl
          have By := bel_set B.out 4 (.int .i64 (q % 60))
          go_end0
          exact ⟨rfl, n', y', mo', d', q, HD'.out, C.out, q1, by rw [HQ.out, HK.out], by have := HY0.out; omega, by have := HY1.out; omega, Ry, By⟩
end Go.Proofs.YtlhcejbimlilaaaGreatDoor
/- The document's noughts, whole, plain, scaled (written by gen_vfd.py). -/
namespace Go.Tk
open Go Go.RowKit
theorem rs_strI {a b : ByteArray} {k : IntKind} {x : Int} (h : a = b) : Ending.returned (.tuple #[.string a, .int k x]) = .returned (.tuple #[.string b, .int k x]) := by rw [h]
theorem rs_strS {a b c d : ByteArray} (h : a = b) (h2 : c = d) : Ending.returned (.tuple #[.string a, .string c]) = .returned (.tuple #[.string b, .string d]) := by rw [h, h2]
theorem nums_rep (k : Nat) : nums (rep0 k) ++ [48] = nums (rep0 (k + 1)) := by
  unfold rep0
  rw [List.replicate_succ', nums_append]
  rfl
theorem rep0_len (k : Nat) : (rep0 k).length = k := List.length_replicate ..
/-- The digits ahead of a dot, and those behind it. -/
def whA (D : List UInt8) (p : Int) : List UInt8 := if p ≤ 0 then [] else if (D.length : Int) ≤ p then D ++ rep0 (p - D.length).toNat else D.take p.toNat
def whB8 (D : List UInt8) (p : Int) : List UInt8 := if p ≤ 0 then (if D = [] then [] else rep0 (-p).toNat ++ D) else if (D.length : Int) ≤ p then [] else D.drop p.toNat
def orZ (l : List UInt8) : List UInt8 := if l = [] then [48] else l
def plV (b : Bool) (D : List UInt8) (p : Int) (dot : Bool) : List UInt8 := (if b = true then [45] else []) ++ orZ (whA D p) ++ (if dot = true then 46 :: orZ (whB8 D p) else [])
def scV (b1 b2 b3 : Bool) (D : List UInt8) (p : Int) : List UInt8 × Int :=
  if b1 = true then ([78, 97, 78], 0)
  else if b2 = true then ((if b3 = true then [45] else []) ++ [73, 78, 70], 0)
  else if D = [] then ([48, 46, 48, 69, 48], 0)
  else if 999999999 < p - 1 ∨ p - 1 < -999999999 then ([], 80)
  else ((if b3 = true then [45] else []) ++ D.take 1 ++ [46] ++ orZ (D.drop 1) ++ [69] ++ Lib.itoa (p - 1), 0)
end Go.Tk
namespace Go.Proofs.YtlhcejbimlilaaaGreatDoor
open Go.RowKit Go.Tk
set_option maxHeartbeats 2000000 in
theorem noughts_calls (n : Int) (w : World) (hn : n ≤ 1000000) (hn0 : -1000000 ≤ n) :
    Calls Tryz.prog 146 #[.int .i64 n] w fun e w' => e = .returned (.string ⟨(rep0 n.toNat).toArray⟩) ∧ Below w.heap.size w w' := by
  obtain ⟨N, hN⟩ : ∃ N, N = n.toNat := ⟨_, rfl⟩
  rw [← hN]
  have HN := Lib.hid hN
  clear hN
  go_enter Tryz.func146, Tryz.ntmps146
  go_wp2_with (at_make; refine wpList_mkJ rfl _ _ 65 rfl 5 (.int .u8 0) 1 Tryz.underlying65 Tryz.infoU8 rfl _ _ _ _ 0 rfl rfl rfl rfl (by omega) (by omega) ?_; intro w1 hw1 hb1; (have HW1 := Lib.hid hw1); (have HB1 := Lib.hid hb1); clear hw1 hb1)
  go_loopw [3, 4] (fun v i wr => ∃ k : Nat, k ≤ N ∧ i = .int .i64 (k : Nat) ∧ Ow .u8 5 w.heap.size wr v (nums (rep0 k)) ∧ Below w.heap.size w wr) (fun _ i _ => N - (intOf i).toNat)
  case atStart =>
    have hr : RowI .u8 5 w1 w.heap.size [] := HW1.out
    exact ⟨0, Nat.zero_le _, rfl, hr.ow (Nat.le_refl _) (by simp), below_of_grown HB1.out (Nat.le_refl _) (fun k h => by cases h)⟩
  case round =>
    obtain ⟨k, hk, rfl, how, hbw⟩ := hrel
    have hkN : k ≤ 1000000 := by have := HN.out; omega
    have hln : (nums (rep0 k)).length ≤ 1000000 := by rw [nums_len, rep0_len]; exact hkN
    have HOW := Lib.hid how
    have HBW := Lib.hid hbw
    have HK := Lib.hid hk
    have hsz := hbw.size
    clear how hbw hk
    by_cases hlt : (k : Int) < n
    · go_wp2_with (at_builtin; refine wpList_appJ rfl (.tmp 11) (.tmp 12) _ rfl .u8 w.heap.size 5 _ 1 Tryz.underlying65 Tryz.infoU8 rfl _ (nums (rep0 k)) rfl (HOW.out.alloc _) _ 1 1 [48] rfl (SlI.one _ _ _ _) (by simp) (by omega) (by omega) (by simp; omega) ?_; intro v4 w4 ow4 hg4 st4; (have OW4 := Lib.hid ow4); (have HG4 := Lib.hid hg4); clear ow4 hg4 st4)
      go_roundw
      case rel => exact ⟨k + 1, by have := HN.out; omega, by go_num, by rw [← nums_rep]; exact OW4.out, (HBW.out.alloc (by simpa using hsz) _).grown HG4.out (by simp; omega) (fun g e => (HOW.out.lt g e).1)⟩
      case measure => have := HN.out; simp [intOf]; omega
    · have hkn : k = N := by have := HN.out; have := HK.out; omega
      obtain ⟨va, vc, rfl, hsl, _⟩ := HOW.out.sl
      have hcv := HOW.out.str (P := Tryz.prog) (dst := 9) Tryz.underlying65 Tryz.underlying5 Tryz.underlying9
      have HKN := Lib.hid hkn
      clear hsl hkn
      go_wp2_with fail
      go_ret
      exact ⟨by rw [HKN.out]; rfl, HBW.out⟩
theorem no_let (n : Int) (hn : n ≤ 1000000) (hn0 : -1000000 ≤ n) : ∃ Z : ByteArray, Z.size ≤ 1000000 ∧ Z.data.toList = rep0 n.toNat ∧ ∀ w, Calls Tryz.prog 146 #[.int .i64 n] w fun e w' => e = .returned (.string Z) ∧ Below w.heap.size w w' :=
  ⟨⟨(rep0 n.toNat).toArray⟩, by rw [sz_mk, rep0_len]; omega, rfl, fun w => noughts_calls n w hn hn0⟩
set_option maxHeartbeats 2000000 in
theorem rwhole_let (b1 b2 b3 : Bool) (D : ByteArray) (p : Int) (hD : D.size ≤ 200000) (hp0 : -200000 ≤ p) (hp1 : p ≤ 200000) : ∃ A B : ByteArray, A.size ≤ 2000000 ∧ B.size ≤ 2000000 ∧ A.data.toList = whA D.data.toList p ∧ B.data.toList = whB8 D.data.toList p ∧
    ∀ w, Calls Tryz.prog 111 #[.agg #[.bool b1, .bool b2, .bool b3, .string D, .int .i64 p]] w fun e w' => e = .returned (.tuple #[.string A, .string B]) ∧ Below w.heap.size w w' := by
  have hl : D.data.toList.length = D.size := (Lib.size_eq D).symm
  by_cases c1 : p ≤ 0
  · by_cases c2 : D.data.toList = []
    · have hs : D.size = 0 := by rw [← hl, c2]; rfl
      have hs' : (D.size : Int) = 0 := by omega
      have hsb : ((D.size : Int) == 0) = true := beq_iff_eq.2 hs'
      refine ⟨⟨#[]⟩, ⟨#[]⟩, by decide, by decide, by unfold whA; rw [if_pos c1], by unfold whB8; rw [if_pos c1, if_pos c2], fun w => ?_⟩
      clear hl c2 hs
      go_enter Tryz.func111, Tryz.ntmps111
      go_upto_region 1 with fail
      obtain ⟨r1, hb⟩ := box1 w (.cells #[.bool b1, .bool b2, .bool b3, .string D, .int .i64 p] 61)
      generalize World.alloc w _ = w2 at r1 hb ⊢
      have c3 := row_cell r1 3
      have c4 := row_cell r1 4
      simp at c3 c4
      have x3 := Lw.cell c3
      have x4 := Lw.cell c4
      have HB := Lib.hid hb
      clear hb r1
      clear x3 x4
      go_wp2_with fail
      go_ret2
      exact ⟨rfl, HB.out⟩
    · have hs : D.size ≠ 0 := fun e => c2 (List.eq_nil_of_length_eq_zero (by rw [hl, e]))
      have hs' : (D.size : Int) ≠ 0 := by omega
      have hsb : ((D.size : Int) == 0) = false := beq_false_of_ne hs'
      obtain ⟨Z, Zs, Zd, Zc⟩ := no_let (-p) (by omega) (by omega)
      refine ⟨⟨#[]⟩, Z ++ D, by decide, by rw [ByteArray.size_append]; omega, by unfold whA; rw [if_pos c1], by unfold whB8; rw [if_pos c1, if_neg c2, ← Zd]; simp, fun w => ?_⟩
      have HZ := Lib.hid Zc
      have zz : (Z ++ D).size ≤ 1200000 := by rw [ByteArray.size_append]; omega
      clear hl c2 hs Zc Zd
      go_enter Tryz.func111, Tryz.ntmps111
      go_upto_region 1 with fail
      obtain ⟨r1, hb⟩ := box1 w (.cells #[.bool b1, .bool b2, .bool b3, .string D, .int .i64 p] 61)
      generalize World.alloc w _ = w2 at r1 hb ⊢
      have c3 := row_cell r1 3
      have c4 := row_cell r1 4
      simp at c3 c4
      have x3 := Lw.cell c3
      have x4 := Lw.cell c4
      have HB := Lib.hid hb
      clear hb r1
      go_upto_region 5 with fail
      refine wp_region_lw (by kernel_rfl) (by kernel_rfl) ?_
      repeat (go_big_quiet_step (first | exact rfl | (go_at_call 146; with_reducible exact lw_call (HZ.out _))))
      refine wpQuiet_nil ?_
      rintro ⟨w3, hb3⟩
      dsimp only
      go_wp2_with fail
      go_ret2
      exact ⟨rfl, HB.out.trans (hb3.mono HB.out.size)⟩
  · by_cases c2 : (D.data.toList.length : Int) ≤ p
    · have c2' : (D.size : Int) ≤ p := by omega
      have c1' : 0 < p := by omega
      obtain ⟨Z, Zs, Zd, Zc⟩ := no_let (p - (D.size : Int)) (by omega) (by omega)
      refine ⟨D ++ Z, ⟨#[]⟩, by rw [ByteArray.size_append]; omega, by decide, by unfold whA; rw [if_neg c1, if_pos c2, hl, ← Zd]; simp, by unfold whB8; rw [if_neg c1, if_pos c2], fun w => ?_⟩
      have HZ := Lib.hid Zc
      have zz : (D ++ Z).size ≤ 1200000 := by rw [ByteArray.size_append]; omega
      clear hl c2 c1 Zc Zd
      go_enter Tryz.func111, Tryz.ntmps111
      go_upto_region 1 with fail
      obtain ⟨r1, hb⟩ := box1 w (.cells #[.bool b1, .bool b2, .bool b3, .string D, .int .i64 p] 61)
      generalize World.alloc w _ = w2 at r1 hb ⊢
      have c3 := row_cell r1 3
      have c4 := row_cell r1 4
      simp at c3 c4
      have x3 := Lw.cell c3
      have x4 := Lw.cell c4
      have HB := Lib.hid hb
      clear hb r1
      go_upto_region 7 with fail
      refine wp_region_lw (by kernel_rfl) (by kernel_rfl) ?_
      repeat (go_big_quiet_step (first | exact rfl | (go_at_call 146; with_reducible exact lw_call (HZ.out _))))
      refine wpQuiet_nil ?_
      rintro ⟨w3, hb3⟩
      dsimp only
      go_wp2_with fail
      go_ret2
      exact ⟨rfl, HB.out.trans (hb3.mono HB.out.size)⟩
    · obtain ⟨k, rfl⟩ : ∃ k : Nat, p = k := ⟨p.toNat, by omega⟩
      have c2' : (k : Int) < (D.size : Int) := by omega
      have c1' : (0 : Int) < (k : Int) := by omega
      have hkD : k ≤ D.size := by omega
      refine ⟨D.extract 0 k, D.extract k D.size, by simp; omega, by simp; omega, by unfold whA; rw [if_neg c1, if_neg c2, Int.toNat_natCast, Lib.extract_eq]; simp, by unfold whB8; rw [if_neg c1, if_neg c2, Int.toNat_natCast, ex_drop], fun w => ?_⟩
      clear hl c2 c1
      go_enter Tryz.func111, Tryz.ntmps111
      go_upto_region 1 with fail
      obtain ⟨r1, hb⟩ := box1 w (.cells #[.bool b1, .bool b2, .bool b3, .string D, .int .i64 (k : Nat)] 61)
      generalize World.alloc w _ = w2 at r1 hb ⊢
      have c3 := row_cell r1 3
      have c4 := row_cell r1 4
      simp at c3 c4
      have x3 := Lw.cell c3
      have x4 := Lw.cell c4
      have HB := Lib.hid hb
      clear hb r1
      go_upto_region 8 with fail
      refine wp_region_lw (by kernel_rfl) (by kernel_rfl) ?_
      repeat (go_big_quiet_step (first | exact rfl))
      refine wpQuiet_nil ?_
      rintro ⟨w3, hb3⟩
      dsimp only
      go_wp2_with fail
      go_ret2
      exact ⟨rfl, HB.out.trans (hb3.mono HB.out.size)⟩
set_option maxHeartbeats 4000000 in
theorem rplain_let (b1 b2 b3 : Bool) (D : ByteArray) (p : Int) (dot : Bool) (hD : D.size ≤ 200000) (hp0 : -200000 ≤ p) (hp1 : p ≤ 200000) : ∃ T : ByteArray, T.size ≤ 4000010 ∧ T.data.toList = plV b3 D.data.toList p dot ∧
    ∀ w, Calls Tryz.prog 74 #[.agg #[.bool b1, .bool b2, .bool b3, .string D, .int .i64 p], .bool dot] w fun e w' => e = .returned (.string T) ∧ Below w.heap.size w w' := by
  have hw := fun b3 => rwhole_let b1 b2 b3 D p hD hp0 hp1
  obtain ⟨A, B, As, Bs, Ad, Bd, _⟩ := hw b3
  have hw : ∀ b3 w, Calls Tryz.prog 111 #[.agg #[.bool b1, .bool b2, .bool b3, .string D, .int .i64 p]] w fun e w' => e = .returned (.tuple #[.string A, .string B]) ∧ Below w.heap.size w w' := fun b3 w => by
    obtain ⟨A', B', _, _, Ad', Bd', hc⟩ := hw b3
    have e1 : A = A' := ba_ext (by rw [Ad, Ad'])
    have e2 : B = B' := ba_ext (by rw [Bd, Bd'])
    rw [e1, e2]; exact hc w
  have HW : Hid (∀ (b3' : Bool) (w : World), Calls Tryz.prog 111 #[.agg #[.bool b1, .bool b2, .bool b3', .string D, .int .i64 p]] w fun e w' => e = .returned (.tuple #[.string A, .string B]) ∧ Below w.heap.size w w') := Lib.hid fun b3 w => hw b3 w
  clear hw
  obtain ⟨T, hT⟩ : ∃ T : ByteArray, T = ⟨(plV b3 D.data.toList p dot).toArray⟩ := ⟨_, rfl⟩
  have hT : T.data.toList = plV b3 D.data.toList p dot := by rw [hT]
  have hTs : T.size ≤ 4000010 := by
    have h1 : (orZ (whA D.data.toList p)).length ≤ 2000000 := by
      unfold orZ; split
      · simp
      · rw [← Ad, ← Lib.size_eq]; exact As
    have h2 : (orZ (whB8 D.data.toList p)).length ≤ 2000000 := by
      unfold orZ; split
      · simp
      · rw [← Bd, ← Lib.size_eq]; exact Bs
    rw [Lib.size_eq, hT]
    unfold plV
    rw [List.length_append, List.length_append]
    have h3 : (if b3 = true then [45] else [] : List UInt8).length ≤ 1 := by split <;> simp
    have h4 : (if dot = true then 46 :: orZ (whB8 D.data.toList p) else []).length ≤ 2000001 := by
      split
      · simp only [List.length_cons]; omega
      · simp
    omega
  refine ⟨T, hTs, hT, fun w => ?_⟩
  clear hTs hD hp0 hp1
  by_cases ha : A.data.toList = []
  · by_cases hb0 : B.data.toList = []
    · cases b3 with
      | false =>
        cases dot with
        | false =>
          have z1 : (⟨#[]⟩ ++ ⟨#[48]⟩ : ByteArray).size ≤ 4000010 := by simp only [ByteArray.size_append]; show 0 + 1 ≤ _; omega
          have z2 : (⟨#[]⟩ ++ ⟨#[48]⟩ ++ ⟨#[46]⟩ : ByteArray).size ≤ 4000010 := by simp only [ByteArray.size_append]; show 0 + 1 + 1 ≤ _; omega
          have z3 : (⟨#[]⟩ ++ ⟨#[48]⟩ ++ ⟨#[46]⟩ ++ ⟨#[48]⟩ : ByteArray).size ≤ 4000010 := by simp only [ByteArray.size_append]; show 0 + 1 + 1 + 1 ≤ _; omega
          have y2 : (⟨#[48]⟩ ++ ⟨#[46]⟩ : ByteArray).size ≤ 4000010 := by simp only [ByteArray.size_append]; show 1 + 1 ≤ _; omega
          have y3 : (⟨#[48]⟩ ++ ⟨#[46]⟩ ++ ⟨#[48]⟩ : ByteArray).size ≤ 4000010 := by simp only [ByteArray.size_append]; show 1 + 1 + 1 ≤ _; omega
          have ae : (A.toList == []) = true := by rw [Lib.toList_data, ha]; rfl
          have be : (B.toList == []) = true := by rw [Lib.toList_data, hb0]; rfl
          have HTD : Hid (T.data.toList = (⟨#[]⟩ ++ ⟨#[48]⟩ : ByteArray).data.toList) := Lib.hid (by rw [hT]; unfold plV orZ; rw [← Ad, ← Bd, if_pos ha, if_pos hb0]; simp)
          clear hT ha hb0 Ad Bd
          go_enter Tryz.func74, Tryz.ntmps74
          go_upto_region 1 with fail
          obtain ⟨r1, hb⟩ := box1 w (.cells #[.bool b1, .bool b2, .bool false, .string D, .int .i64 p] 61)
          generalize World.alloc w _ = w2 at r1 hb ⊢
          have c0 := row_cell r1 0
          have c1 := row_cell r1 1
          have c2 := row_cell r1 2
          have c3 := row_cell r1 3
          have c4 := row_cell r1 4
          simp at c0 c1 c2 c3 c4
          have HB := Lib.hid hb
          have R1 := Lib.hid r1
          clear hb r1
          go_wp2_with (go_at_call 111; (with_reducible refine (HW.out _ _).mono ?_); rintro e w3 ⟨rfl, hb3⟩; (have r3 := (hb3.block _ (Array.getElem?_eq_some_iff.1 R1.out).1).trans R1.out); (have d2 := row_cell r3 2); (simp at d2); (have HB3 := Lib.hid hb3); clear r3 hb3)
          go_ret
          exact ⟨rs_str (ba_ext (by first | (rw [HTD.out]; done) | (rw [HTD.out]; simp))), HB.out.trans (HB3.out.mono HB.out.size)⟩
        | true =>
          have z1 : (⟨#[]⟩ ++ ⟨#[48]⟩ : ByteArray).size ≤ 4000010 := by simp only [ByteArray.size_append]; show 0 + 1 ≤ _; omega
          have z2 : (⟨#[]⟩ ++ ⟨#[48]⟩ ++ ⟨#[46]⟩ : ByteArray).size ≤ 4000010 := by simp only [ByteArray.size_append]; show 0 + 1 + 1 ≤ _; omega
          have z3 : (⟨#[]⟩ ++ ⟨#[48]⟩ ++ ⟨#[46]⟩ ++ ⟨#[48]⟩ : ByteArray).size ≤ 4000010 := by simp only [ByteArray.size_append]; show 0 + 1 + 1 + 1 ≤ _; omega
          have y2 : (⟨#[48]⟩ ++ ⟨#[46]⟩ : ByteArray).size ≤ 4000010 := by simp only [ByteArray.size_append]; show 1 + 1 ≤ _; omega
          have y3 : (⟨#[48]⟩ ++ ⟨#[46]⟩ ++ ⟨#[48]⟩ : ByteArray).size ≤ 4000010 := by simp only [ByteArray.size_append]; show 1 + 1 + 1 ≤ _; omega
          have ae : (A.toList == []) = true := by rw [Lib.toList_data, ha]; rfl
          have be : (B.toList == []) = true := by rw [Lib.toList_data, hb0]; rfl
          have HTD : Hid (T.data.toList = (⟨#[]⟩ ++ ⟨#[48]⟩ ++ ⟨#[46]⟩ ++ ⟨#[48]⟩ : ByteArray).data.toList) := Lib.hid (by rw [hT]; unfold plV orZ; rw [← Ad, ← Bd, if_pos ha, if_pos hb0]; simp)
          clear hT ha hb0 Ad Bd
          go_enter Tryz.func74, Tryz.ntmps74
          go_upto_region 1 with fail
          obtain ⟨r1, hb⟩ := box1 w (.cells #[.bool b1, .bool b2, .bool false, .string D, .int .i64 p] 61)
          generalize World.alloc w _ = w2 at r1 hb ⊢
          have c0 := row_cell r1 0
          have c1 := row_cell r1 1
          have c2 := row_cell r1 2
          have c3 := row_cell r1 3
          have c4 := row_cell r1 4
          simp at c0 c1 c2 c3 c4
          have HB := Lib.hid hb
          have R1 := Lib.hid r1
          clear hb r1
          go_wp2_with (go_at_call 111; (with_reducible refine (HW.out _ _).mono ?_); rintro e w3 ⟨rfl, hb3⟩; (have r3 := (hb3.block _ (Array.getElem?_eq_some_iff.1 R1.out).1).trans R1.out); (have d2 := row_cell r3 2); (simp at d2); (have HB3 := Lib.hid hb3); clear r3 hb3)
          go_ret
          exact ⟨rs_str (ba_ext (by first | (rw [HTD.out]; done) | (rw [HTD.out]; simp))), HB.out.trans (HB3.out.mono HB.out.size)⟩
      | true =>
        cases dot with
        | false =>
          have z1 : (⟨#[45]⟩ ++ ⟨#[48]⟩ : ByteArray).size ≤ 4000010 := by simp only [ByteArray.size_append]; show 1 + 1 ≤ _; omega
          have z2 : (⟨#[45]⟩ ++ ⟨#[48]⟩ ++ ⟨#[46]⟩ : ByteArray).size ≤ 4000010 := by simp only [ByteArray.size_append]; show 1 + 1 + 1 ≤ _; omega
          have z3 : (⟨#[45]⟩ ++ ⟨#[48]⟩ ++ ⟨#[46]⟩ ++ ⟨#[48]⟩ : ByteArray).size ≤ 4000010 := by simp only [ByteArray.size_append]; show 1 + 1 + 1 + 1 ≤ _; omega
          have ae : (A.toList == []) = true := by rw [Lib.toList_data, ha]; rfl
          have be : (B.toList == []) = true := by rw [Lib.toList_data, hb0]; rfl
          have HTD : Hid (T.data.toList = (⟨#[45]⟩ ++ ⟨#[48]⟩ : ByteArray).data.toList) := Lib.hid (by rw [hT]; unfold plV orZ; rw [← Ad, ← Bd, if_pos ha, if_pos hb0]; simp)
          clear hT ha hb0 Ad Bd
          go_enter Tryz.func74, Tryz.ntmps74
          go_upto_region 1 with fail
          obtain ⟨r1, hb⟩ := box1 w (.cells #[.bool b1, .bool b2, .bool true, .string D, .int .i64 p] 61)
          generalize World.alloc w _ = w2 at r1 hb ⊢
          have c0 := row_cell r1 0
          have c1 := row_cell r1 1
          have c2 := row_cell r1 2
          have c3 := row_cell r1 3
          have c4 := row_cell r1 4
          simp at c0 c1 c2 c3 c4
          have HB := Lib.hid hb
          have R1 := Lib.hid r1
          clear hb r1
          go_wp2_with (go_at_call 111; (with_reducible refine (HW.out _ _).mono ?_); rintro e w3 ⟨rfl, hb3⟩; (have r3 := (hb3.block _ (Array.getElem?_eq_some_iff.1 R1.out).1).trans R1.out); (have d2 := row_cell r3 2); (simp at d2); (have HB3 := Lib.hid hb3); clear r3 hb3)
          go_ret
          exact ⟨rs_str (ba_ext (by first | (rw [HTD.out]; done) | (rw [HTD.out]; simp))), HB.out.trans (HB3.out.mono HB.out.size)⟩
        | true =>
          have z1 : (⟨#[45]⟩ ++ ⟨#[48]⟩ : ByteArray).size ≤ 4000010 := by simp only [ByteArray.size_append]; show 1 + 1 ≤ _; omega
          have z2 : (⟨#[45]⟩ ++ ⟨#[48]⟩ ++ ⟨#[46]⟩ : ByteArray).size ≤ 4000010 := by simp only [ByteArray.size_append]; show 1 + 1 + 1 ≤ _; omega
          have z3 : (⟨#[45]⟩ ++ ⟨#[48]⟩ ++ ⟨#[46]⟩ ++ ⟨#[48]⟩ : ByteArray).size ≤ 4000010 := by simp only [ByteArray.size_append]; show 1 + 1 + 1 + 1 ≤ _; omega
          have ae : (A.toList == []) = true := by rw [Lib.toList_data, ha]; rfl
          have be : (B.toList == []) = true := by rw [Lib.toList_data, hb0]; rfl
          have HTD : Hid (T.data.toList = (⟨#[45]⟩ ++ ⟨#[48]⟩ ++ ⟨#[46]⟩ ++ ⟨#[48]⟩ : ByteArray).data.toList) := Lib.hid (by rw [hT]; unfold plV orZ; rw [← Ad, ← Bd, if_pos ha, if_pos hb0]; simp)
          clear hT ha hb0 Ad Bd
          go_enter Tryz.func74, Tryz.ntmps74
          go_upto_region 1 with fail
          obtain ⟨r1, hb⟩ := box1 w (.cells #[.bool b1, .bool b2, .bool true, .string D, .int .i64 p] 61)
          generalize World.alloc w _ = w2 at r1 hb ⊢
          have c0 := row_cell r1 0
          have c1 := row_cell r1 1
          have c2 := row_cell r1 2
          have c3 := row_cell r1 3
          have c4 := row_cell r1 4
          simp at c0 c1 c2 c3 c4
          have HB := Lib.hid hb
          have R1 := Lib.hid r1
          clear hb r1
          go_wp2_with (go_at_call 111; (with_reducible refine (HW.out _ _).mono ?_); rintro e w3 ⟨rfl, hb3⟩; (have r3 := (hb3.block _ (Array.getElem?_eq_some_iff.1 R1.out).1).trans R1.out); (have d2 := row_cell r3 2); (simp at d2); (have HB3 := Lib.hid hb3); clear r3 hb3)
          go_ret
          exact ⟨rs_str (ba_ext (by first | (rw [HTD.out]; done) | (rw [HTD.out]; simp))), HB.out.trans (HB3.out.mono HB.out.size)⟩
    · cases b3 with
      | false =>
        cases dot with
        | false =>
          have z1 : (⟨#[]⟩ ++ ⟨#[48]⟩ : ByteArray).size ≤ 4000010 := by simp only [ByteArray.size_append]; show 0 + 1 ≤ _; omega
          have z2 : (⟨#[]⟩ ++ ⟨#[48]⟩ ++ ⟨#[46]⟩ : ByteArray).size ≤ 4000010 := by simp only [ByteArray.size_append]; show 0 + 1 + 1 ≤ _; omega
          have z3 : (⟨#[]⟩ ++ ⟨#[48]⟩ ++ ⟨#[46]⟩ ++ B : ByteArray).size ≤ 4000010 := by simp only [ByteArray.size_append]; show 0 + 1 + 1 + B.size ≤ _; omega
          have y2 : (⟨#[48]⟩ ++ ⟨#[46]⟩ : ByteArray).size ≤ 4000010 := by simp only [ByteArray.size_append]; show 1 + 1 ≤ _; omega
          have y3 : (⟨#[48]⟩ ++ ⟨#[46]⟩ ++ B : ByteArray).size ≤ 4000010 := by simp only [ByteArray.size_append]; show 1 + 1 + B.size ≤ _; omega
          have ae : (A.toList == []) = true := by rw [Lib.toList_data, ha]; rfl
          have be : (B.toList == []) = false := by rw [Lib.toList_data]; exact beq_false_of_ne hb0
          have HTD : Hid (T.data.toList = (⟨#[]⟩ ++ ⟨#[48]⟩ : ByteArray).data.toList) := Lib.hid (by rw [hT]; unfold plV orZ; rw [← Ad, ← Bd, if_pos ha, if_neg hb0]; simp)
          clear hT ha hb0 Ad Bd
          go_enter Tryz.func74, Tryz.ntmps74
          go_upto_region 1 with fail
          obtain ⟨r1, hb⟩ := box1 w (.cells #[.bool b1, .bool b2, .bool false, .string D, .int .i64 p] 61)
          generalize World.alloc w _ = w2 at r1 hb ⊢
          have c0 := row_cell r1 0
          have c1 := row_cell r1 1
          have c2 := row_cell r1 2
          have c3 := row_cell r1 3
          have c4 := row_cell r1 4
          simp at c0 c1 c2 c3 c4
          have HB := Lib.hid hb
          have R1 := Lib.hid r1
          clear hb r1
          go_wp2_with (go_at_call 111; (with_reducible refine (HW.out _ _).mono ?_); rintro e w3 ⟨rfl, hb3⟩; (have r3 := (hb3.block _ (Array.getElem?_eq_some_iff.1 R1.out).1).trans R1.out); (have d2 := row_cell r3 2); (simp at d2); (have HB3 := Lib.hid hb3); clear r3 hb3)
          go_ret
          exact ⟨rs_str (ba_ext (by first | (rw [HTD.out]; done) | (rw [HTD.out]; simp))), HB.out.trans (HB3.out.mono HB.out.size)⟩
        | true =>
          have z1 : (⟨#[]⟩ ++ ⟨#[48]⟩ : ByteArray).size ≤ 4000010 := by simp only [ByteArray.size_append]; show 0 + 1 ≤ _; omega
          have z2 : (⟨#[]⟩ ++ ⟨#[48]⟩ ++ ⟨#[46]⟩ : ByteArray).size ≤ 4000010 := by simp only [ByteArray.size_append]; show 0 + 1 + 1 ≤ _; omega
          have z3 : (⟨#[]⟩ ++ ⟨#[48]⟩ ++ ⟨#[46]⟩ ++ B : ByteArray).size ≤ 4000010 := by simp only [ByteArray.size_append]; show 0 + 1 + 1 + B.size ≤ _; omega
          have y2 : (⟨#[48]⟩ ++ ⟨#[46]⟩ : ByteArray).size ≤ 4000010 := by simp only [ByteArray.size_append]; show 1 + 1 ≤ _; omega
          have y3 : (⟨#[48]⟩ ++ ⟨#[46]⟩ ++ B : ByteArray).size ≤ 4000010 := by simp only [ByteArray.size_append]; show 1 + 1 + B.size ≤ _; omega
          have ae : (A.toList == []) = true := by rw [Lib.toList_data, ha]; rfl
          have be : (B.toList == []) = false := by rw [Lib.toList_data]; exact beq_false_of_ne hb0
          have HTD : Hid (T.data.toList = (⟨#[]⟩ ++ ⟨#[48]⟩ ++ ⟨#[46]⟩ ++ B : ByteArray).data.toList) := Lib.hid (by rw [hT]; unfold plV orZ; rw [← Ad, ← Bd, if_pos ha, if_neg hb0]; simp)
          clear hT ha hb0 Ad Bd
          go_enter Tryz.func74, Tryz.ntmps74
          go_upto_region 1 with fail
          obtain ⟨r1, hb⟩ := box1 w (.cells #[.bool b1, .bool b2, .bool false, .string D, .int .i64 p] 61)
          generalize World.alloc w _ = w2 at r1 hb ⊢
          have c0 := row_cell r1 0
          have c1 := row_cell r1 1
          have c2 := row_cell r1 2
          have c3 := row_cell r1 3
          have c4 := row_cell r1 4
          simp at c0 c1 c2 c3 c4
          have HB := Lib.hid hb
          have R1 := Lib.hid r1
          clear hb r1
          go_wp2_with (go_at_call 111; (with_reducible refine (HW.out _ _).mono ?_); rintro e w3 ⟨rfl, hb3⟩; (have r3 := (hb3.block _ (Array.getElem?_eq_some_iff.1 R1.out).1).trans R1.out); (have d2 := row_cell r3 2); (simp at d2); (have HB3 := Lib.hid hb3); clear r3 hb3)
          go_ret
          exact ⟨rs_str (ba_ext (by first | (rw [HTD.out]; done) | (rw [HTD.out]; simp))), HB.out.trans (HB3.out.mono HB.out.size)⟩
      | true =>
        cases dot with
        | false =>
          have z1 : (⟨#[45]⟩ ++ ⟨#[48]⟩ : ByteArray).size ≤ 4000010 := by simp only [ByteArray.size_append]; show 1 + 1 ≤ _; omega
          have z2 : (⟨#[45]⟩ ++ ⟨#[48]⟩ ++ ⟨#[46]⟩ : ByteArray).size ≤ 4000010 := by simp only [ByteArray.size_append]; show 1 + 1 + 1 ≤ _; omega
          have z3 : (⟨#[45]⟩ ++ ⟨#[48]⟩ ++ ⟨#[46]⟩ ++ B : ByteArray).size ≤ 4000010 := by simp only [ByteArray.size_append]; show 1 + 1 + 1 + B.size ≤ _; omega
          have ae : (A.toList == []) = true := by rw [Lib.toList_data, ha]; rfl
          have be : (B.toList == []) = false := by rw [Lib.toList_data]; exact beq_false_of_ne hb0
          have HTD : Hid (T.data.toList = (⟨#[45]⟩ ++ ⟨#[48]⟩ : ByteArray).data.toList) := Lib.hid (by rw [hT]; unfold plV orZ; rw [← Ad, ← Bd, if_pos ha, if_neg hb0]; simp)
          clear hT ha hb0 Ad Bd
          go_enter Tryz.func74, Tryz.ntmps74
          go_upto_region 1 with fail
          obtain ⟨r1, hb⟩ := box1 w (.cells #[.bool b1, .bool b2, .bool true, .string D, .int .i64 p] 61)
          generalize World.alloc w _ = w2 at r1 hb ⊢
          have c0 := row_cell r1 0
          have c1 := row_cell r1 1
          have c2 := row_cell r1 2
          have c3 := row_cell r1 3
          have c4 := row_cell r1 4
          simp at c0 c1 c2 c3 c4
          have HB := Lib.hid hb
          have R1 := Lib.hid r1
          clear hb r1
          go_wp2_with (go_at_call 111; (with_reducible refine (HW.out _ _).mono ?_); rintro e w3 ⟨rfl, hb3⟩; (have r3 := (hb3.block _ (Array.getElem?_eq_some_iff.1 R1.out).1).trans R1.out); (have d2 := row_cell r3 2); (simp at d2); (have HB3 := Lib.hid hb3); clear r3 hb3)
          go_ret
          exact ⟨rs_str (ba_ext (by first | (rw [HTD.out]; done) | (rw [HTD.out]; simp))), HB.out.trans (HB3.out.mono HB.out.size)⟩
        | true =>
          have z1 : (⟨#[45]⟩ ++ ⟨#[48]⟩ : ByteArray).size ≤ 4000010 := by simp only [ByteArray.size_append]; show 1 + 1 ≤ _; omega
          have z2 : (⟨#[45]⟩ ++ ⟨#[48]⟩ ++ ⟨#[46]⟩ : ByteArray).size ≤ 4000010 := by simp only [ByteArray.size_append]; show 1 + 1 + 1 ≤ _; omega
          have z3 : (⟨#[45]⟩ ++ ⟨#[48]⟩ ++ ⟨#[46]⟩ ++ B : ByteArray).size ≤ 4000010 := by simp only [ByteArray.size_append]; show 1 + 1 + 1 + B.size ≤ _; omega
          have ae : (A.toList == []) = true := by rw [Lib.toList_data, ha]; rfl
          have be : (B.toList == []) = false := by rw [Lib.toList_data]; exact beq_false_of_ne hb0
          have HTD : Hid (T.data.toList = (⟨#[45]⟩ ++ ⟨#[48]⟩ ++ ⟨#[46]⟩ ++ B : ByteArray).data.toList) := Lib.hid (by rw [hT]; unfold plV orZ; rw [← Ad, ← Bd, if_pos ha, if_neg hb0]; simp)
          clear hT ha hb0 Ad Bd
          go_enter Tryz.func74, Tryz.ntmps74
          go_upto_region 1 with fail
          obtain ⟨r1, hb⟩ := box1 w (.cells #[.bool b1, .bool b2, .bool true, .string D, .int .i64 p] 61)
          generalize World.alloc w _ = w2 at r1 hb ⊢
          have c0 := row_cell r1 0
          have c1 := row_cell r1 1
          have c2 := row_cell r1 2
          have c3 := row_cell r1 3
          have c4 := row_cell r1 4
          simp at c0 c1 c2 c3 c4
          have HB := Lib.hid hb
          have R1 := Lib.hid r1
          clear hb r1
          go_wp2_with (go_at_call 111; (with_reducible refine (HW.out _ _).mono ?_); rintro e w3 ⟨rfl, hb3⟩; (have r3 := (hb3.block _ (Array.getElem?_eq_some_iff.1 R1.out).1).trans R1.out); (have d2 := row_cell r3 2); (simp at d2); (have HB3 := Lib.hid hb3); clear r3 hb3)
          go_ret
          exact ⟨rs_str (ba_ext (by first | (rw [HTD.out]; done) | (rw [HTD.out]; simp))), HB.out.trans (HB3.out.mono HB.out.size)⟩
  · by_cases hb0 : B.data.toList = []
    · cases b3 with
      | false =>
        cases dot with
        | false =>
          have z1 : (⟨#[]⟩ ++ A : ByteArray).size ≤ 4000010 := by simp only [ByteArray.size_append]; show 0 + A.size ≤ _; omega
          have z2 : (⟨#[]⟩ ++ A ++ ⟨#[46]⟩ : ByteArray).size ≤ 4000010 := by simp only [ByteArray.size_append]; show 0 + A.size + 1 ≤ _; omega
          have z3 : (⟨#[]⟩ ++ A ++ ⟨#[46]⟩ ++ ⟨#[48]⟩ : ByteArray).size ≤ 4000010 := by simp only [ByteArray.size_append]; show 0 + A.size + 1 + 1 ≤ _; omega
          have y2 : (A ++ ⟨#[46]⟩ : ByteArray).size ≤ 4000010 := by simp only [ByteArray.size_append]; show A.size + 1 ≤ _; omega
          have y3 : (A ++ ⟨#[46]⟩ ++ ⟨#[48]⟩ : ByteArray).size ≤ 4000010 := by simp only [ByteArray.size_append]; show A.size + 1 + 1 ≤ _; omega
          have ae : (A.toList == []) = false := by rw [Lib.toList_data]; exact beq_false_of_ne ha
          have be : (B.toList == []) = true := by rw [Lib.toList_data, hb0]; rfl
          have HTD : Hid (T.data.toList = (⟨#[]⟩ ++ A : ByteArray).data.toList) := Lib.hid (by rw [hT]; unfold plV orZ; rw [← Ad, ← Bd, if_neg ha, if_pos hb0]; simp)
          clear hT ha hb0 Ad Bd
          go_enter Tryz.func74, Tryz.ntmps74
          go_upto_region 1 with fail
          obtain ⟨r1, hb⟩ := box1 w (.cells #[.bool b1, .bool b2, .bool false, .string D, .int .i64 p] 61)
          generalize World.alloc w _ = w2 at r1 hb ⊢
          have c0 := row_cell r1 0
          have c1 := row_cell r1 1
          have c2 := row_cell r1 2
          have c3 := row_cell r1 3
          have c4 := row_cell r1 4
          simp at c0 c1 c2 c3 c4
          have HB := Lib.hid hb
          have R1 := Lib.hid r1
          clear hb r1
          go_wp2_with (go_at_call 111; (with_reducible refine (HW.out _ _).mono ?_); rintro e w3 ⟨rfl, hb3⟩; (have r3 := (hb3.block _ (Array.getElem?_eq_some_iff.1 R1.out).1).trans R1.out); (have d2 := row_cell r3 2); (simp at d2); (have HB3 := Lib.hid hb3); clear r3 hb3)
          go_ret
          exact ⟨rs_str (ba_ext (by first | (rw [HTD.out]; done) | (rw [HTD.out]; simp))), HB.out.trans (HB3.out.mono HB.out.size)⟩
        | true =>
          have z1 : (⟨#[]⟩ ++ A : ByteArray).size ≤ 4000010 := by simp only [ByteArray.size_append]; show 0 + A.size ≤ _; omega
          have z2 : (⟨#[]⟩ ++ A ++ ⟨#[46]⟩ : ByteArray).size ≤ 4000010 := by simp only [ByteArray.size_append]; show 0 + A.size + 1 ≤ _; omega
          have z3 : (⟨#[]⟩ ++ A ++ ⟨#[46]⟩ ++ ⟨#[48]⟩ : ByteArray).size ≤ 4000010 := by simp only [ByteArray.size_append]; show 0 + A.size + 1 + 1 ≤ _; omega
          have y2 : (A ++ ⟨#[46]⟩ : ByteArray).size ≤ 4000010 := by simp only [ByteArray.size_append]; show A.size + 1 ≤ _; omega
          have y3 : (A ++ ⟨#[46]⟩ ++ ⟨#[48]⟩ : ByteArray).size ≤ 4000010 := by simp only [ByteArray.size_append]; show A.size + 1 + 1 ≤ _; omega
          have ae : (A.toList == []) = false := by rw [Lib.toList_data]; exact beq_false_of_ne ha
          have be : (B.toList == []) = true := by rw [Lib.toList_data, hb0]; rfl
          have HTD : Hid (T.data.toList = (⟨#[]⟩ ++ A ++ ⟨#[46]⟩ ++ ⟨#[48]⟩ : ByteArray).data.toList) := Lib.hid (by rw [hT]; unfold plV orZ; rw [← Ad, ← Bd, if_neg ha, if_pos hb0]; simp)
          clear hT ha hb0 Ad Bd
          go_enter Tryz.func74, Tryz.ntmps74
          go_upto_region 1 with fail
          obtain ⟨r1, hb⟩ := box1 w (.cells #[.bool b1, .bool b2, .bool false, .string D, .int .i64 p] 61)
          generalize World.alloc w _ = w2 at r1 hb ⊢
          have c0 := row_cell r1 0
          have c1 := row_cell r1 1
          have c2 := row_cell r1 2
          have c3 := row_cell r1 3
          have c4 := row_cell r1 4
          simp at c0 c1 c2 c3 c4
          have HB := Lib.hid hb
          have R1 := Lib.hid r1
          clear hb r1
          go_wp2_with (go_at_call 111; (with_reducible refine (HW.out _ _).mono ?_); rintro e w3 ⟨rfl, hb3⟩; (have r3 := (hb3.block _ (Array.getElem?_eq_some_iff.1 R1.out).1).trans R1.out); (have d2 := row_cell r3 2); (simp at d2); (have HB3 := Lib.hid hb3); clear r3 hb3)
          go_ret
          exact ⟨rs_str (ba_ext (by first | (rw [HTD.out]; done) | (rw [HTD.out]; simp))), HB.out.trans (HB3.out.mono HB.out.size)⟩
      | true =>
        cases dot with
        | false =>
          have z1 : (⟨#[45]⟩ ++ A : ByteArray).size ≤ 4000010 := by simp only [ByteArray.size_append]; show 1 + A.size ≤ _; omega
          have z2 : (⟨#[45]⟩ ++ A ++ ⟨#[46]⟩ : ByteArray).size ≤ 4000010 := by simp only [ByteArray.size_append]; show 1 + A.size + 1 ≤ _; omega
          have z3 : (⟨#[45]⟩ ++ A ++ ⟨#[46]⟩ ++ ⟨#[48]⟩ : ByteArray).size ≤ 4000010 := by simp only [ByteArray.size_append]; show 1 + A.size + 1 + 1 ≤ _; omega
          have ae : (A.toList == []) = false := by rw [Lib.toList_data]; exact beq_false_of_ne ha
          have be : (B.toList == []) = true := by rw [Lib.toList_data, hb0]; rfl
          have HTD : Hid (T.data.toList = (⟨#[45]⟩ ++ A : ByteArray).data.toList) := Lib.hid (by rw [hT]; unfold plV orZ; rw [← Ad, ← Bd, if_neg ha, if_pos hb0]; simp)
          clear hT ha hb0 Ad Bd
          go_enter Tryz.func74, Tryz.ntmps74
          go_upto_region 1 with fail
          obtain ⟨r1, hb⟩ := box1 w (.cells #[.bool b1, .bool b2, .bool true, .string D, .int .i64 p] 61)
          generalize World.alloc w _ = w2 at r1 hb ⊢
          have c0 := row_cell r1 0
          have c1 := row_cell r1 1
          have c2 := row_cell r1 2
          have c3 := row_cell r1 3
          have c4 := row_cell r1 4
          simp at c0 c1 c2 c3 c4
          have HB := Lib.hid hb
          have R1 := Lib.hid r1
          clear hb r1
          go_wp2_with (go_at_call 111; (with_reducible refine (HW.out _ _).mono ?_); rintro e w3 ⟨rfl, hb3⟩; (have r3 := (hb3.block _ (Array.getElem?_eq_some_iff.1 R1.out).1).trans R1.out); (have d2 := row_cell r3 2); (simp at d2); (have HB3 := Lib.hid hb3); clear r3 hb3)
          go_ret
          exact ⟨rs_str (ba_ext (by first | (rw [HTD.out]; done) | (rw [HTD.out]; simp))), HB.out.trans (HB3.out.mono HB.out.size)⟩
        | true =>
          have z1 : (⟨#[45]⟩ ++ A : ByteArray).size ≤ 4000010 := by simp only [ByteArray.size_append]; show 1 + A.size ≤ _; omega
          have z2 : (⟨#[45]⟩ ++ A ++ ⟨#[46]⟩ : ByteArray).size ≤ 4000010 := by simp only [ByteArray.size_append]; show 1 + A.size + 1 ≤ _; omega
          have z3 : (⟨#[45]⟩ ++ A ++ ⟨#[46]⟩ ++ ⟨#[48]⟩ : ByteArray).size ≤ 4000010 := by simp only [ByteArray.size_append]; show 1 + A.size + 1 + 1 ≤ _; omega
          have ae : (A.toList == []) = false := by rw [Lib.toList_data]; exact beq_false_of_ne ha
          have be : (B.toList == []) = true := by rw [Lib.toList_data, hb0]; rfl
          have HTD : Hid (T.data.toList = (⟨#[45]⟩ ++ A ++ ⟨#[46]⟩ ++ ⟨#[48]⟩ : ByteArray).data.toList) := Lib.hid (by rw [hT]; unfold plV orZ; rw [← Ad, ← Bd, if_neg ha, if_pos hb0]; simp)
          clear hT ha hb0 Ad Bd
          go_enter Tryz.func74, Tryz.ntmps74
          go_upto_region 1 with fail
          obtain ⟨r1, hb⟩ := box1 w (.cells #[.bool b1, .bool b2, .bool true, .string D, .int .i64 p] 61)
          generalize World.alloc w _ = w2 at r1 hb ⊢
          have c0 := row_cell r1 0
          have c1 := row_cell r1 1
          have c2 := row_cell r1 2
          have c3 := row_cell r1 3
          have c4 := row_cell r1 4
          simp at c0 c1 c2 c3 c4
          have HB := Lib.hid hb
          have R1 := Lib.hid r1
          clear hb r1
          go_wp2_with (go_at_call 111; (with_reducible refine (HW.out _ _).mono ?_); rintro e w3 ⟨rfl, hb3⟩; (have r3 := (hb3.block _ (Array.getElem?_eq_some_iff.1 R1.out).1).trans R1.out); (have d2 := row_cell r3 2); (simp at d2); (have HB3 := Lib.hid hb3); clear r3 hb3)
          go_ret
          exact ⟨rs_str (ba_ext (by first | (rw [HTD.out]; done) | (rw [HTD.out]; simp))), HB.out.trans (HB3.out.mono HB.out.size)⟩
    · cases b3 with
      | false =>
        cases dot with
        | false =>
          have z1 : (⟨#[]⟩ ++ A : ByteArray).size ≤ 4000010 := by simp only [ByteArray.size_append]; show 0 + A.size ≤ _; omega
          have z2 : (⟨#[]⟩ ++ A ++ ⟨#[46]⟩ : ByteArray).size ≤ 4000010 := by simp only [ByteArray.size_append]; show 0 + A.size + 1 ≤ _; omega
          have z3 : (⟨#[]⟩ ++ A ++ ⟨#[46]⟩ ++ B : ByteArray).size ≤ 4000010 := by simp only [ByteArray.size_append]; show 0 + A.size + 1 + B.size ≤ _; omega
          have y2 : (A ++ ⟨#[46]⟩ : ByteArray).size ≤ 4000010 := by simp only [ByteArray.size_append]; show A.size + 1 ≤ _; omega
          have y3 : (A ++ ⟨#[46]⟩ ++ B : ByteArray).size ≤ 4000010 := by simp only [ByteArray.size_append]; show A.size + 1 + B.size ≤ _; omega
          have ae : (A.toList == []) = false := by rw [Lib.toList_data]; exact beq_false_of_ne ha
          have be : (B.toList == []) = false := by rw [Lib.toList_data]; exact beq_false_of_ne hb0
          have HTD : Hid (T.data.toList = (⟨#[]⟩ ++ A : ByteArray).data.toList) := Lib.hid (by rw [hT]; unfold plV orZ; rw [← Ad, ← Bd, if_neg ha, if_neg hb0]; simp)
          clear hT ha hb0 Ad Bd
          go_enter Tryz.func74, Tryz.ntmps74
          go_upto_region 1 with fail
          obtain ⟨r1, hb⟩ := box1 w (.cells #[.bool b1, .bool b2, .bool false, .string D, .int .i64 p] 61)
          generalize World.alloc w _ = w2 at r1 hb ⊢
          have c0 := row_cell r1 0
          have c1 := row_cell r1 1
          have c2 := row_cell r1 2
          have c3 := row_cell r1 3
          have c4 := row_cell r1 4
          simp at c0 c1 c2 c3 c4
          have HB := Lib.hid hb
          have R1 := Lib.hid r1
          clear hb r1
          go_wp2_with (go_at_call 111; (with_reducible refine (HW.out _ _).mono ?_); rintro e w3 ⟨rfl, hb3⟩; (have r3 := (hb3.block _ (Array.getElem?_eq_some_iff.1 R1.out).1).trans R1.out); (have d2 := row_cell r3 2); (simp at d2); (have HB3 := Lib.hid hb3); clear r3 hb3)
          go_ret
          exact ⟨rs_str (ba_ext (by first | (rw [HTD.out]; done) | (rw [HTD.out]; simp))), HB.out.trans (HB3.out.mono HB.out.size)⟩
        | true =>
          have z1 : (⟨#[]⟩ ++ A : ByteArray).size ≤ 4000010 := by simp only [ByteArray.size_append]; show 0 + A.size ≤ _; omega
          have z2 : (⟨#[]⟩ ++ A ++ ⟨#[46]⟩ : ByteArray).size ≤ 4000010 := by simp only [ByteArray.size_append]; show 0 + A.size + 1 ≤ _; omega
          have z3 : (⟨#[]⟩ ++ A ++ ⟨#[46]⟩ ++ B : ByteArray).size ≤ 4000010 := by simp only [ByteArray.size_append]; show 0 + A.size + 1 + B.size ≤ _; omega
          have y2 : (A ++ ⟨#[46]⟩ : ByteArray).size ≤ 4000010 := by simp only [ByteArray.size_append]; show A.size + 1 ≤ _; omega
          have y3 : (A ++ ⟨#[46]⟩ ++ B : ByteArray).size ≤ 4000010 := by simp only [ByteArray.size_append]; show A.size + 1 + B.size ≤ _; omega
          have ae : (A.toList == []) = false := by rw [Lib.toList_data]; exact beq_false_of_ne ha
          have be : (B.toList == []) = false := by rw [Lib.toList_data]; exact beq_false_of_ne hb0
          have HTD : Hid (T.data.toList = (⟨#[]⟩ ++ A ++ ⟨#[46]⟩ ++ B : ByteArray).data.toList) := Lib.hid (by rw [hT]; unfold plV orZ; rw [← Ad, ← Bd, if_neg ha, if_neg hb0]; simp)
          clear hT ha hb0 Ad Bd
          go_enter Tryz.func74, Tryz.ntmps74
          go_upto_region 1 with fail
          obtain ⟨r1, hb⟩ := box1 w (.cells #[.bool b1, .bool b2, .bool false, .string D, .int .i64 p] 61)
          generalize World.alloc w _ = w2 at r1 hb ⊢
          have c0 := row_cell r1 0
          have c1 := row_cell r1 1
          have c2 := row_cell r1 2
          have c3 := row_cell r1 3
          have c4 := row_cell r1 4
          simp at c0 c1 c2 c3 c4
          have HB := Lib.hid hb
          have R1 := Lib.hid r1
          clear hb r1
          go_wp2_with (go_at_call 111; (with_reducible refine (HW.out _ _).mono ?_); rintro e w3 ⟨rfl, hb3⟩; (have r3 := (hb3.block _ (Array.getElem?_eq_some_iff.1 R1.out).1).trans R1.out); (have d2 := row_cell r3 2); (simp at d2); (have HB3 := Lib.hid hb3); clear r3 hb3)
          go_ret
          exact ⟨rs_str (ba_ext (by first | (rw [HTD.out]; done) | (rw [HTD.out]; simp))), HB.out.trans (HB3.out.mono HB.out.size)⟩
      | true =>
        cases dot with
        | false =>
          have z1 : (⟨#[45]⟩ ++ A : ByteArray).size ≤ 4000010 := by simp only [ByteArray.size_append]; show 1 + A.size ≤ _; omega
          have z2 : (⟨#[45]⟩ ++ A ++ ⟨#[46]⟩ : ByteArray).size ≤ 4000010 := by simp only [ByteArray.size_append]; show 1 + A.size + 1 ≤ _; omega
          have z3 : (⟨#[45]⟩ ++ A ++ ⟨#[46]⟩ ++ B : ByteArray).size ≤ 4000010 := by simp only [ByteArray.size_append]; show 1 + A.size + 1 + B.size ≤ _; omega
          have ae : (A.toList == []) = false := by rw [Lib.toList_data]; exact beq_false_of_ne ha
          have be : (B.toList == []) = false := by rw [Lib.toList_data]; exact beq_false_of_ne hb0
          have HTD : Hid (T.data.toList = (⟨#[45]⟩ ++ A : ByteArray).data.toList) := Lib.hid (by rw [hT]; unfold plV orZ; rw [← Ad, ← Bd, if_neg ha, if_neg hb0]; simp)
          clear hT ha hb0 Ad Bd
          go_enter Tryz.func74, Tryz.ntmps74
          go_upto_region 1 with fail
          obtain ⟨r1, hb⟩ := box1 w (.cells #[.bool b1, .bool b2, .bool true, .string D, .int .i64 p] 61)
          generalize World.alloc w _ = w2 at r1 hb ⊢
          have c0 := row_cell r1 0
          have c1 := row_cell r1 1
          have c2 := row_cell r1 2
          have c3 := row_cell r1 3
          have c4 := row_cell r1 4
          simp at c0 c1 c2 c3 c4
          have HB := Lib.hid hb
          have R1 := Lib.hid r1
          clear hb r1
          go_wp2_with (go_at_call 111; (with_reducible refine (HW.out _ _).mono ?_); rintro e w3 ⟨rfl, hb3⟩; (have r3 := (hb3.block _ (Array.getElem?_eq_some_iff.1 R1.out).1).trans R1.out); (have d2 := row_cell r3 2); (simp at d2); (have HB3 := Lib.hid hb3); clear r3 hb3)
          go_ret
          exact ⟨rs_str (ba_ext (by first | (rw [HTD.out]; done) | (rw [HTD.out]; simp))), HB.out.trans (HB3.out.mono HB.out.size)⟩
        | true =>
          have z1 : (⟨#[45]⟩ ++ A : ByteArray).size ≤ 4000010 := by simp only [ByteArray.size_append]; show 1 + A.size ≤ _; omega
          have z2 : (⟨#[45]⟩ ++ A ++ ⟨#[46]⟩ : ByteArray).size ≤ 4000010 := by simp only [ByteArray.size_append]; show 1 + A.size + 1 ≤ _; omega
          have z3 : (⟨#[45]⟩ ++ A ++ ⟨#[46]⟩ ++ B : ByteArray).size ≤ 4000010 := by simp only [ByteArray.size_append]; show 1 + A.size + 1 + B.size ≤ _; omega
          have ae : (A.toList == []) = false := by rw [Lib.toList_data]; exact beq_false_of_ne ha
          have be : (B.toList == []) = false := by rw [Lib.toList_data]; exact beq_false_of_ne hb0
          have HTD : Hid (T.data.toList = (⟨#[45]⟩ ++ A ++ ⟨#[46]⟩ ++ B : ByteArray).data.toList) := Lib.hid (by rw [hT]; unfold plV orZ; rw [← Ad, ← Bd, if_neg ha, if_neg hb0]; simp)
          clear hT ha hb0 Ad Bd
          go_enter Tryz.func74, Tryz.ntmps74
          go_upto_region 1 with fail
          obtain ⟨r1, hb⟩ := box1 w (.cells #[.bool b1, .bool b2, .bool true, .string D, .int .i64 p] 61)
          generalize World.alloc w _ = w2 at r1 hb ⊢
          have c0 := row_cell r1 0
          have c1 := row_cell r1 1
          have c2 := row_cell r1 2
          have c3 := row_cell r1 3
          have c4 := row_cell r1 4
          simp at c0 c1 c2 c3 c4
          have HB := Lib.hid hb
          have R1 := Lib.hid r1
          clear hb r1
          go_wp2_with (go_at_call 111; (with_reducible refine (HW.out _ _).mono ?_); rintro e w3 ⟨rfl, hb3⟩; (have r3 := (hb3.block _ (Array.getElem?_eq_some_iff.1 R1.out).1).trans R1.out); (have d2 := row_cell r3 2); (simp at d2); (have HB3 := Lib.hid hb3); clear r3 hb3)
          go_ret
          exact ⟨rs_str (ba_ext (by first | (rw [HTD.out]; done) | (rw [HTD.out]; simp))), HB.out.trans (HB3.out.mono HB.out.size)⟩
set_option maxHeartbeats 2000000 in
theorem sc_nan_false (D T : ByteArray) (p c : Int) (w : World) (b2 : Bool) (hT : T = ⟨#[78, 97, 78]⟩) (hc : c = 0) :
    Calls Tryz.prog 75 #[.agg #[.bool true, .bool b2, .bool false, .string D, .int .i64 p]] w fun e w' => e = .returned (.tuple #[.string T, .int .i64 c]) ∧ Below w.heap.size w w' := by
  subst hT
  subst hc
  go_enter Tryz.func75, Tryz.ntmps75
  go_upto_region 1 with fail
  obtain ⟨r1, hb⟩ := box1 w (.cells #[.bool true, .bool b2, .bool false, .string D, .int .i64 p] 61)
  generalize World.alloc w _ = w2 at r1 hb ⊢
  have c0 := row_cell r1 0
  have c1 := row_cell r1 1
  have c2 := row_cell r1 2
  have c3 := row_cell r1 3
  have c4 := row_cell r1 4
  simp at c0 c1 c2 c3 c4
  have HB := Lib.hid hb
  clear hb r1
  go_wp2_with fail
  go_ret2
  exact ⟨rfl, HB.out⟩
set_option maxHeartbeats 2000000 in
theorem sc_inf_false (D T : ByteArray) (p c : Int) (w : World) (hT : T = ⟨#[]⟩ ++ ⟨#[73, 78, 70]⟩) (hc : c = 0) :
    Calls Tryz.prog 75 #[.agg #[.bool false, .bool true, .bool false, .string D, .int .i64 p]] w fun e w' => e = .returned (.tuple #[.string T, .int .i64 c]) ∧ Below w.heap.size w w' := by
  subst hT
  subst hc
  go_enter Tryz.func75, Tryz.ntmps75
  go_upto_region 1 with fail
  obtain ⟨r1, hb⟩ := box1 w (.cells #[.bool false, .bool true, .bool false, .string D, .int .i64 p] 61)
  generalize World.alloc w _ = w2 at r1 hb ⊢
  have c0 := row_cell r1 0
  have c1 := row_cell r1 1
  have c2 := row_cell r1 2
  have c3 := row_cell r1 3
  have c4 := row_cell r1 4
  simp at c0 c1 c2 c3 c4
  have HB := Lib.hid hb
  clear hb r1
  go_wp2_with fail
  go_ret2
  exact ⟨rs_strI (by kernel_rfl), HB.out⟩
set_option maxHeartbeats 2000000 in
theorem sc_zero_false (D T : ByteArray) (p c : Int) (w : World) (hT : T = ⟨#[48, 46, 48, 69, 48]⟩) (hc : c = 0) (he : (D.toList == []) = true) :
    Calls Tryz.prog 75 #[.agg #[.bool false, .bool false, .bool false, .string D, .int .i64 p]] w fun e w' => e = .returned (.tuple #[.string T, .int .i64 c]) ∧ Below w.heap.size w w' := by
  subst hT
  subst hc
  go_enter Tryz.func75, Tryz.ntmps75
  go_upto_region 1 with fail
  obtain ⟨r1, hb⟩ := box1 w (.cells #[.bool false, .bool false, .bool false, .string D, .int .i64 p] 61)
  generalize World.alloc w _ = w2 at r1 hb ⊢
  have c0 := row_cell r1 0
  have c1 := row_cell r1 1
  have c2 := row_cell r1 2
  have c3 := row_cell r1 3
  have c4 := row_cell r1 4
  simp at c0 c1 c2 c3 c4
  have HB := Lib.hid hb
  clear hb r1
  go_wp2_with fail
  go_ret2
  exact ⟨rfl, HB.out⟩
set_option maxHeartbeats 2000000 in
theorem sc_far_false_true (D T : ByteArray) (p c : Int) (w : World) (X Y : ByteArray) (hX : D.extract 1 D.size = X) (hY : D.extract 0 1 = Y) (h1 : 1 ≤ D.size) (hD : D.size ≤ 200000) (hXs : X.size ≤ 200000) (hYs : Y.size ≤ 1) (he : (D.toList == []) = false) (hx : (X.toList == []) = true) (hp0 : -1000200000 ≤ p) (hp1 : p ≤ 1000200000) (hT : T = ⟨#[]⟩) (hc : c = 80) (hf : 999999999 < p - 1 ∨ p - 1 < -999999999) :
    Calls Tryz.prog 75 #[.agg #[.bool false, .bool false, .bool false, .string D, .int .i64 p]] w fun e w' => e = .returned (.tuple #[.string T, .int .i64 c]) ∧ Below w.heap.size w w' := by
  subst hT
  subst hc
  have h1' : (1 : Int) ≤ (D.size : Int) := by omega
  by_cases f1 : 999999999 < p - 1
  · clear hf
    go_enter Tryz.func75, Tryz.ntmps75
    go_upto_region 1 with fail
    obtain ⟨r1, hb⟩ := box1 w (.cells #[.bool false, .bool false, .bool false, .string D, .int .i64 p] 61)
    generalize World.alloc w _ = w2 at r1 hb ⊢
    have c0 := row_cell r1 0
    have c1 := row_cell r1 1
    have c2 := row_cell r1 2
    have c3 := row_cell r1 3
    have c4 := row_cell r1 4
    simp at c0 c1 c2 c3 c4
    have HB := Lib.hid hb
    clear hb r1
    go_wp2_with fail
    go_ret2
    exact ⟨rfl, HB.out⟩
  · have f2 : p - 1 < -999999999 := by omega
    clear hf
    go_enter Tryz.func75, Tryz.ntmps75
    go_upto_region 1 with fail
    obtain ⟨r1, hb⟩ := box1 w (.cells #[.bool false, .bool false, .bool false, .string D, .int .i64 p] 61)
    generalize World.alloc w _ = w2 at r1 hb ⊢
    have c0 := row_cell r1 0
    have c1 := row_cell r1 1
    have c2 := row_cell r1 2
    have c3 := row_cell r1 3
    have c4 := row_cell r1 4
    simp at c0 c1 c2 c3 c4
    have HB := Lib.hid hb
    clear hb r1
    go_wp2_with fail
    go_ret2
    exact ⟨rfl, HB.out⟩
set_option maxHeartbeats 2000000 in
theorem sc_num_false_true_neg (D T : ByteArray) (p c : Int) (w : World) (X Y : ByteArray) (hX : D.extract 1 D.size = X) (hY : D.extract 0 1 = Y) (h1 : 1 ≤ D.size) (hD : D.size ≤ 200000) (hXs : X.size ≤ 200000) (hYs : Y.size ≤ 1) (he : (D.toList == []) = false) (hx : (X.toList == []) = true) (hp0 : -1000200000 ≤ p) (hp1 : p ≤ 1000200000) (E : ByteArray) (hEs : E.size ≤ 20) (hE : ∀ w, Calls Tryz.prog 112 #[.int .i64 (-(p - 1)), .int .i64 1] w fun e w' => e = .returned (.string E) ∧ Below w.heap.size w w') (hT : T.data.toList = (⟨#[]⟩ ++ Y ++ ⟨#[46]⟩ ++ ⟨#[48]⟩ ++ ⟨#[69]⟩ ++ ⟨#[45]⟩ ++ E : ByteArray).data.toList) (hc : c = 0) (hn : p - 1 < 0) (hf1 : p - 1 ≤ 999999999) (hf2 : -999999999 ≤ p - 1) :
    Calls Tryz.prog 75 #[.agg #[.bool false, .bool false, .bool false, .string D, .int .i64 p]] w fun e w' => e = .returned (.tuple #[.string T, .int .i64 c]) ∧ Below w.heap.size w w' := by
  subst hc
  have h1' : (1 : Int) ≤ (D.size : Int) := by omega
  have HT := Lib.hid hT
  have HE := Lib.hid hE
  clear hT hE
  have z0 : (⟨#[]⟩ ++ Y : ByteArray).size ≤ 200100 := by simp only [ByteArray.size_append]; show 0 + Y.size ≤ _; omega
  have z1 : (⟨#[]⟩ ++ Y ++ ⟨#[46]⟩ : ByteArray).size ≤ 200100 := by simp only [ByteArray.size_append]; show 0 + Y.size + 1 ≤ _; omega
  have z2 : (⟨#[]⟩ ++ Y ++ ⟨#[46]⟩ ++ ⟨#[48]⟩ : ByteArray).size ≤ 200100 := by simp only [ByteArray.size_append]; show 0 + Y.size + 1 + 1 ≤ _; omega
  have z3 : (⟨#[]⟩ ++ Y ++ ⟨#[46]⟩ ++ ⟨#[48]⟩ ++ ⟨#[69]⟩ : ByteArray).size ≤ 200100 := by simp only [ByteArray.size_append]; show 0 + Y.size + 1 + 1 + 1 ≤ _; omega
  have y0 : (Y ++ ⟨#[46]⟩ : ByteArray).size ≤ 200100 := by simp only [ByteArray.size_append]; show Y.size + 1 ≤ _; omega
  have y1 : (Y ++ ⟨#[46]⟩ ++ ⟨#[48]⟩ : ByteArray).size ≤ 200100 := by simp only [ByteArray.size_append]; show Y.size + 1 + 1 ≤ _; omega
  have y2 : (Y ++ ⟨#[46]⟩ ++ ⟨#[48]⟩ ++ ⟨#[69]⟩ : ByteArray).size ≤ 200100 := by simp only [ByteArray.size_append]; show Y.size + 1 + 1 + 1 ≤ _; omega
  have zn : (⟨#[]⟩ ++ Y ++ ⟨#[46]⟩ ++ ⟨#[48]⟩ ++ ⟨#[69]⟩ ++ ⟨#[45]⟩ : ByteArray).size ≤ 200101 := by simp only [ByteArray.size_append]; show 0 + Y.size + 1 + 1 + 1 + 1 ≤ _; omega
  have zl : (⟨#[]⟩ ++ Y ++ ⟨#[46]⟩ ++ ⟨#[48]⟩ ++ ⟨#[69]⟩ ++ ⟨#[45]⟩ ++ E : ByteArray).size ≤ 200141 := by simp only [ByteArray.size_append]; show 0 + Y.size + 1 + 1 + 1 + 1 + E.size ≤ _; omega
  go_enter Tryz.func75, Tryz.ntmps75
  go_upto_region 1 with fail
  obtain ⟨r1, hb⟩ := box1 w (.cells #[.bool false, .bool false, .bool false, .string D, .int .i64 p] 61)
  generalize World.alloc w _ = w2 at r1 hb ⊢
  have c0 := row_cell r1 0
  have c1 := row_cell r1 1
  have c2 := row_cell r1 2
  have c3 := row_cell r1 3
  have c4 := row_cell r1 4
  simp at c0 c1 c2 c3 c4
  have HB := Lib.hid hb
  clear hb r1
  go_wp2_with (go_at_call 112; (with_reducible refine (HE.out _).mono ?_); rintro e w3 ⟨rfl, hb3⟩)
  go_ret2
  exact ⟨rs_strI (ba_ext (by first | (rw [HT.out]; done) | (rw [HT.out]; simp))), HB.out.trans (hb3.mono HB.out.size)⟩
set_option maxHeartbeats 2000000 in
theorem sc_num_false_true_pos (D T : ByteArray) (p c : Int) (w : World) (X Y : ByteArray) (hX : D.extract 1 D.size = X) (hY : D.extract 0 1 = Y) (h1 : 1 ≤ D.size) (hD : D.size ≤ 200000) (hXs : X.size ≤ 200000) (hYs : Y.size ≤ 1) (he : (D.toList == []) = false) (hx : (X.toList == []) = true) (hp0 : -1000200000 ≤ p) (hp1 : p ≤ 1000200000) (E : ByteArray) (hEs : E.size ≤ 20) (hE : ∀ w, Calls Tryz.prog 112 #[.int .i64 (p - 1), .int .i64 1] w fun e w' => e = .returned (.string E) ∧ Below w.heap.size w w') (hT : T.data.toList = (⟨#[]⟩ ++ Y ++ ⟨#[46]⟩ ++ ⟨#[48]⟩ ++ ⟨#[69]⟩ ++ E : ByteArray).data.toList) (hc : c = 0) (hn : 0 ≤ p - 1) (hf1 : p - 1 ≤ 999999999) (hf2 : -999999999 ≤ p - 1) :
    Calls Tryz.prog 75 #[.agg #[.bool false, .bool false, .bool false, .string D, .int .i64 p]] w fun e w' => e = .returned (.tuple #[.string T, .int .i64 c]) ∧ Below w.heap.size w w' := by
  subst hc
  have h1' : (1 : Int) ≤ (D.size : Int) := by omega
  have HT := Lib.hid hT
  have HE := Lib.hid hE
  clear hT hE
  have z0 : (⟨#[]⟩ ++ Y : ByteArray).size ≤ 200100 := by simp only [ByteArray.size_append]; show 0 + Y.size ≤ _; omega
  have z1 : (⟨#[]⟩ ++ Y ++ ⟨#[46]⟩ : ByteArray).size ≤ 200100 := by simp only [ByteArray.size_append]; show 0 + Y.size + 1 ≤ _; omega
  have z2 : (⟨#[]⟩ ++ Y ++ ⟨#[46]⟩ ++ ⟨#[48]⟩ : ByteArray).size ≤ 200100 := by simp only [ByteArray.size_append]; show 0 + Y.size + 1 + 1 ≤ _; omega
  have z3 : (⟨#[]⟩ ++ Y ++ ⟨#[46]⟩ ++ ⟨#[48]⟩ ++ ⟨#[69]⟩ : ByteArray).size ≤ 200100 := by simp only [ByteArray.size_append]; show 0 + Y.size + 1 + 1 + 1 ≤ _; omega
  have y0 : (Y ++ ⟨#[46]⟩ : ByteArray).size ≤ 200100 := by simp only [ByteArray.size_append]; show Y.size + 1 ≤ _; omega
  have y1 : (Y ++ ⟨#[46]⟩ ++ ⟨#[48]⟩ : ByteArray).size ≤ 200100 := by simp only [ByteArray.size_append]; show Y.size + 1 + 1 ≤ _; omega
  have y2 : (Y ++ ⟨#[46]⟩ ++ ⟨#[48]⟩ ++ ⟨#[69]⟩ : ByteArray).size ≤ 200100 := by simp only [ByteArray.size_append]; show Y.size + 1 + 1 + 1 ≤ _; omega
  have zl : (⟨#[]⟩ ++ Y ++ ⟨#[46]⟩ ++ ⟨#[48]⟩ ++ ⟨#[69]⟩ ++ E : ByteArray).size ≤ 200141 := by simp only [ByteArray.size_append]; show 0 + Y.size + 1 + 1 + 1 + E.size ≤ _; omega
  go_enter Tryz.func75, Tryz.ntmps75
  go_upto_region 1 with fail
  obtain ⟨r1, hb⟩ := box1 w (.cells #[.bool false, .bool false, .bool false, .string D, .int .i64 p] 61)
  generalize World.alloc w _ = w2 at r1 hb ⊢
  have c0 := row_cell r1 0
  have c1 := row_cell r1 1
  have c2 := row_cell r1 2
  have c3 := row_cell r1 3
  have c4 := row_cell r1 4
  simp at c0 c1 c2 c3 c4
  have HB := Lib.hid hb
  clear hb r1
  go_wp2_with (go_at_call 112; (with_reducible refine (HE.out _).mono ?_); rintro e w3 ⟨rfl, hb3⟩)
  go_ret2
  exact ⟨rs_strI (ba_ext (by first | (rw [HT.out]; done) | (rw [HT.out]; simp))), HB.out.trans (hb3.mono HB.out.size)⟩
set_option maxHeartbeats 2000000 in
theorem sc_far_false_false (D T : ByteArray) (p c : Int) (w : World) (X Y : ByteArray) (hX : D.extract 1 D.size = X) (hY : D.extract 0 1 = Y) (h1 : 1 ≤ D.size) (hD : D.size ≤ 200000) (hXs : X.size ≤ 200000) (hYs : Y.size ≤ 1) (he : (D.toList == []) = false) (hx : (X.toList == []) = false) (hp0 : -1000200000 ≤ p) (hp1 : p ≤ 1000200000) (hT : T = ⟨#[]⟩) (hc : c = 80) (hf : 999999999 < p - 1 ∨ p - 1 < -999999999) :
    Calls Tryz.prog 75 #[.agg #[.bool false, .bool false, .bool false, .string D, .int .i64 p]] w fun e w' => e = .returned (.tuple #[.string T, .int .i64 c]) ∧ Below w.heap.size w w' := by
  subst hT
  subst hc
  have h1' : (1 : Int) ≤ (D.size : Int) := by omega
  by_cases f1 : 999999999 < p - 1
  · clear hf
    go_enter Tryz.func75, Tryz.ntmps75
    go_upto_region 1 with fail
    obtain ⟨r1, hb⟩ := box1 w (.cells #[.bool false, .bool false, .bool false, .string D, .int .i64 p] 61)
    generalize World.alloc w _ = w2 at r1 hb ⊢
    have c0 := row_cell r1 0
    have c1 := row_cell r1 1
    have c2 := row_cell r1 2
    have c3 := row_cell r1 3
    have c4 := row_cell r1 4
    simp at c0 c1 c2 c3 c4
    have HB := Lib.hid hb
    clear hb r1
    go_wp2_with fail
    go_ret2
    exact ⟨rfl, HB.out⟩
  · have f2 : p - 1 < -999999999 := by omega
    clear hf
    go_enter Tryz.func75, Tryz.ntmps75
    go_upto_region 1 with fail
    obtain ⟨r1, hb⟩ := box1 w (.cells #[.bool false, .bool false, .bool false, .string D, .int .i64 p] 61)
    generalize World.alloc w _ = w2 at r1 hb ⊢
    have c0 := row_cell r1 0
    have c1 := row_cell r1 1
    have c2 := row_cell r1 2
    have c3 := row_cell r1 3
    have c4 := row_cell r1 4
    simp at c0 c1 c2 c3 c4
    have HB := Lib.hid hb
    clear hb r1
    go_wp2_with fail
    go_ret2
    exact ⟨rfl, HB.out⟩
set_option maxHeartbeats 2000000 in
theorem sc_num_false_false_neg (D T : ByteArray) (p c : Int) (w : World) (X Y : ByteArray) (hX : D.extract 1 D.size = X) (hY : D.extract 0 1 = Y) (h1 : 1 ≤ D.size) (hD : D.size ≤ 200000) (hXs : X.size ≤ 200000) (hYs : Y.size ≤ 1) (he : (D.toList == []) = false) (hx : (X.toList == []) = false) (hp0 : -1000200000 ≤ p) (hp1 : p ≤ 1000200000) (E : ByteArray) (hEs : E.size ≤ 20) (hE : ∀ w, Calls Tryz.prog 112 #[.int .i64 (-(p - 1)), .int .i64 1] w fun e w' => e = .returned (.string E) ∧ Below w.heap.size w w') (hT : T.data.toList = (⟨#[]⟩ ++ Y ++ ⟨#[46]⟩ ++ X ++ ⟨#[69]⟩ ++ ⟨#[45]⟩ ++ E : ByteArray).data.toList) (hc : c = 0) (hn : p - 1 < 0) (hf1 : p - 1 ≤ 999999999) (hf2 : -999999999 ≤ p - 1) :
    Calls Tryz.prog 75 #[.agg #[.bool false, .bool false, .bool false, .string D, .int .i64 p]] w fun e w' => e = .returned (.tuple #[.string T, .int .i64 c]) ∧ Below w.heap.size w w' := by
  subst hc
  have h1' : (1 : Int) ≤ (D.size : Int) := by omega
  have HT := Lib.hid hT
  have HE := Lib.hid hE
  clear hT hE
  have z0 : (⟨#[]⟩ ++ Y : ByteArray).size ≤ 200100 := by simp only [ByteArray.size_append]; show 0 + Y.size ≤ _; omega
  have z1 : (⟨#[]⟩ ++ Y ++ ⟨#[46]⟩ : ByteArray).size ≤ 200100 := by simp only [ByteArray.size_append]; show 0 + Y.size + 1 ≤ _; omega
  have z2 : (⟨#[]⟩ ++ Y ++ ⟨#[46]⟩ ++ X : ByteArray).size ≤ 200100 := by simp only [ByteArray.size_append]; show 0 + Y.size + 1 + X.size ≤ _; omega
  have z3 : (⟨#[]⟩ ++ Y ++ ⟨#[46]⟩ ++ X ++ ⟨#[69]⟩ : ByteArray).size ≤ 200100 := by simp only [ByteArray.size_append]; show 0 + Y.size + 1 + X.size + 1 ≤ _; omega
  have y0 : (Y ++ ⟨#[46]⟩ : ByteArray).size ≤ 200100 := by simp only [ByteArray.size_append]; show Y.size + 1 ≤ _; omega
  have y1 : (Y ++ ⟨#[46]⟩ ++ X : ByteArray).size ≤ 200100 := by simp only [ByteArray.size_append]; show Y.size + 1 + X.size ≤ _; omega
  have y2 : (Y ++ ⟨#[46]⟩ ++ X ++ ⟨#[69]⟩ : ByteArray).size ≤ 200100 := by simp only [ByteArray.size_append]; show Y.size + 1 + X.size + 1 ≤ _; omega
  have zn : (⟨#[]⟩ ++ Y ++ ⟨#[46]⟩ ++ X ++ ⟨#[69]⟩ ++ ⟨#[45]⟩ : ByteArray).size ≤ 200101 := by simp only [ByteArray.size_append]; show 0 + Y.size + 1 + X.size + 1 + 1 ≤ _; omega
  have zl : (⟨#[]⟩ ++ Y ++ ⟨#[46]⟩ ++ X ++ ⟨#[69]⟩ ++ ⟨#[45]⟩ ++ E : ByteArray).size ≤ 200141 := by simp only [ByteArray.size_append]; show 0 + Y.size + 1 + X.size + 1 + 1 + E.size ≤ _; omega
  go_enter Tryz.func75, Tryz.ntmps75
  go_upto_region 1 with fail
  obtain ⟨r1, hb⟩ := box1 w (.cells #[.bool false, .bool false, .bool false, .string D, .int .i64 p] 61)
  generalize World.alloc w _ = w2 at r1 hb ⊢
  have c0 := row_cell r1 0
  have c1 := row_cell r1 1
  have c2 := row_cell r1 2
  have c3 := row_cell r1 3
  have c4 := row_cell r1 4
  simp at c0 c1 c2 c3 c4
  have HB := Lib.hid hb
  clear hb r1
  go_wp2_with (go_at_call 112; (with_reducible refine (HE.out _).mono ?_); rintro e w3 ⟨rfl, hb3⟩)
  go_ret2
  exact ⟨rs_strI (ba_ext (by first | (rw [HT.out]; done) | (rw [HT.out]; simp))), HB.out.trans (hb3.mono HB.out.size)⟩
set_option maxHeartbeats 2000000 in
theorem sc_num_false_false_pos (D T : ByteArray) (p c : Int) (w : World) (X Y : ByteArray) (hX : D.extract 1 D.size = X) (hY : D.extract 0 1 = Y) (h1 : 1 ≤ D.size) (hD : D.size ≤ 200000) (hXs : X.size ≤ 200000) (hYs : Y.size ≤ 1) (he : (D.toList == []) = false) (hx : (X.toList == []) = false) (hp0 : -1000200000 ≤ p) (hp1 : p ≤ 1000200000) (E : ByteArray) (hEs : E.size ≤ 20) (hE : ∀ w, Calls Tryz.prog 112 #[.int .i64 (p - 1), .int .i64 1] w fun e w' => e = .returned (.string E) ∧ Below w.heap.size w w') (hT : T.data.toList = (⟨#[]⟩ ++ Y ++ ⟨#[46]⟩ ++ X ++ ⟨#[69]⟩ ++ E : ByteArray).data.toList) (hc : c = 0) (hn : 0 ≤ p - 1) (hf1 : p - 1 ≤ 999999999) (hf2 : -999999999 ≤ p - 1) :
    Calls Tryz.prog 75 #[.agg #[.bool false, .bool false, .bool false, .string D, .int .i64 p]] w fun e w' => e = .returned (.tuple #[.string T, .int .i64 c]) ∧ Below w.heap.size w w' := by
  subst hc
  have h1' : (1 : Int) ≤ (D.size : Int) := by omega
  have HT := Lib.hid hT
  have HE := Lib.hid hE
  clear hT hE
  have z0 : (⟨#[]⟩ ++ Y : ByteArray).size ≤ 200100 := by simp only [ByteArray.size_append]; show 0 + Y.size ≤ _; omega
  have z1 : (⟨#[]⟩ ++ Y ++ ⟨#[46]⟩ : ByteArray).size ≤ 200100 := by simp only [ByteArray.size_append]; show 0 + Y.size + 1 ≤ _; omega
  have z2 : (⟨#[]⟩ ++ Y ++ ⟨#[46]⟩ ++ X : ByteArray).size ≤ 200100 := by simp only [ByteArray.size_append]; show 0 + Y.size + 1 + X.size ≤ _; omega
  have z3 : (⟨#[]⟩ ++ Y ++ ⟨#[46]⟩ ++ X ++ ⟨#[69]⟩ : ByteArray).size ≤ 200100 := by simp only [ByteArray.size_append]; show 0 + Y.size + 1 + X.size + 1 ≤ _; omega
  have y0 : (Y ++ ⟨#[46]⟩ : ByteArray).size ≤ 200100 := by simp only [ByteArray.size_append]; show Y.size + 1 ≤ _; omega
  have y1 : (Y ++ ⟨#[46]⟩ ++ X : ByteArray).size ≤ 200100 := by simp only [ByteArray.size_append]; show Y.size + 1 + X.size ≤ _; omega
  have y2 : (Y ++ ⟨#[46]⟩ ++ X ++ ⟨#[69]⟩ : ByteArray).size ≤ 200100 := by simp only [ByteArray.size_append]; show Y.size + 1 + X.size + 1 ≤ _; omega
  have zl : (⟨#[]⟩ ++ Y ++ ⟨#[46]⟩ ++ X ++ ⟨#[69]⟩ ++ E : ByteArray).size ≤ 200141 := by simp only [ByteArray.size_append]; show 0 + Y.size + 1 + X.size + 1 + E.size ≤ _; omega
  go_enter Tryz.func75, Tryz.ntmps75
  go_upto_region 1 with fail
  obtain ⟨r1, hb⟩ := box1 w (.cells #[.bool false, .bool false, .bool false, .string D, .int .i64 p] 61)
  generalize World.alloc w _ = w2 at r1 hb ⊢
  have c0 := row_cell r1 0
  have c1 := row_cell r1 1
  have c2 := row_cell r1 2
  have c3 := row_cell r1 3
  have c4 := row_cell r1 4
  simp at c0 c1 c2 c3 c4
  have HB := Lib.hid hb
  clear hb r1
  go_wp2_with (go_at_call 112; (with_reducible refine (HE.out _).mono ?_); rintro e w3 ⟨rfl, hb3⟩)
  go_ret2
  exact ⟨rs_strI (ba_ext (by first | (rw [HT.out]; done) | (rw [HT.out]; simp))), HB.out.trans (hb3.mono HB.out.size)⟩
set_option maxHeartbeats 2000000 in
theorem sc_nan_true (D T : ByteArray) (p c : Int) (w : World) (b2 : Bool) (hT : T = ⟨#[78, 97, 78]⟩) (hc : c = 0) :
    Calls Tryz.prog 75 #[.agg #[.bool true, .bool b2, .bool true, .string D, .int .i64 p]] w fun e w' => e = .returned (.tuple #[.string T, .int .i64 c]) ∧ Below w.heap.size w w' := by
  subst hT
  subst hc
  go_enter Tryz.func75, Tryz.ntmps75
  go_upto_region 1 with fail
  obtain ⟨r1, hb⟩ := box1 w (.cells #[.bool true, .bool b2, .bool true, .string D, .int .i64 p] 61)
  generalize World.alloc w _ = w2 at r1 hb ⊢
  have c0 := row_cell r1 0
  have c1 := row_cell r1 1
  have c2 := row_cell r1 2
  have c3 := row_cell r1 3
  have c4 := row_cell r1 4
  simp at c0 c1 c2 c3 c4
  have HB := Lib.hid hb
  clear hb r1
  go_wp2_with fail
  go_ret2
  exact ⟨rfl, HB.out⟩
set_option maxHeartbeats 2000000 in
theorem sc_inf_true (D T : ByteArray) (p c : Int) (w : World) (hT : T = ⟨#[45]⟩ ++ ⟨#[73, 78, 70]⟩) (hc : c = 0) :
    Calls Tryz.prog 75 #[.agg #[.bool false, .bool true, .bool true, .string D, .int .i64 p]] w fun e w' => e = .returned (.tuple #[.string T, .int .i64 c]) ∧ Below w.heap.size w w' := by
  subst hT
  subst hc
  go_enter Tryz.func75, Tryz.ntmps75
  go_upto_region 1 with fail
  obtain ⟨r1, hb⟩ := box1 w (.cells #[.bool false, .bool true, .bool true, .string D, .int .i64 p] 61)
  generalize World.alloc w _ = w2 at r1 hb ⊢
  have c0 := row_cell r1 0
  have c1 := row_cell r1 1
  have c2 := row_cell r1 2
  have c3 := row_cell r1 3
  have c4 := row_cell r1 4
  simp at c0 c1 c2 c3 c4
  have HB := Lib.hid hb
  clear hb r1
  go_wp2_with fail
  go_ret2
  exact ⟨rs_strI (by kernel_rfl), HB.out⟩
set_option maxHeartbeats 2000000 in
theorem sc_zero_true (D T : ByteArray) (p c : Int) (w : World) (hT : T = ⟨#[48, 46, 48, 69, 48]⟩) (hc : c = 0) (he : (D.toList == []) = true) :
    Calls Tryz.prog 75 #[.agg #[.bool false, .bool false, .bool true, .string D, .int .i64 p]] w fun e w' => e = .returned (.tuple #[.string T, .int .i64 c]) ∧ Below w.heap.size w w' := by
  subst hT
  subst hc
  go_enter Tryz.func75, Tryz.ntmps75
  go_upto_region 1 with fail
  obtain ⟨r1, hb⟩ := box1 w (.cells #[.bool false, .bool false, .bool true, .string D, .int .i64 p] 61)
  generalize World.alloc w _ = w2 at r1 hb ⊢
  have c0 := row_cell r1 0
  have c1 := row_cell r1 1
  have c2 := row_cell r1 2
  have c3 := row_cell r1 3
  have c4 := row_cell r1 4
  simp at c0 c1 c2 c3 c4
  have HB := Lib.hid hb
  clear hb r1
  go_wp2_with fail
  go_ret2
  exact ⟨rfl, HB.out⟩
set_option maxHeartbeats 2000000 in
theorem sc_far_true_true (D T : ByteArray) (p c : Int) (w : World) (X Y : ByteArray) (hX : D.extract 1 D.size = X) (hY : D.extract 0 1 = Y) (h1 : 1 ≤ D.size) (hD : D.size ≤ 200000) (hXs : X.size ≤ 200000) (hYs : Y.size ≤ 1) (he : (D.toList == []) = false) (hx : (X.toList == []) = true) (hp0 : -1000200000 ≤ p) (hp1 : p ≤ 1000200000) (hT : T = ⟨#[]⟩) (hc : c = 80) (hf : 999999999 < p - 1 ∨ p - 1 < -999999999) :
    Calls Tryz.prog 75 #[.agg #[.bool false, .bool false, .bool true, .string D, .int .i64 p]] w fun e w' => e = .returned (.tuple #[.string T, .int .i64 c]) ∧ Below w.heap.size w w' := by
  subst hT
  subst hc
  have h1' : (1 : Int) ≤ (D.size : Int) := by omega
  by_cases f1 : 999999999 < p - 1
  · clear hf
    go_enter Tryz.func75, Tryz.ntmps75
    go_upto_region 1 with fail
    obtain ⟨r1, hb⟩ := box1 w (.cells #[.bool false, .bool false, .bool true, .string D, .int .i64 p] 61)
    generalize World.alloc w _ = w2 at r1 hb ⊢
    have c0 := row_cell r1 0
    have c1 := row_cell r1 1
    have c2 := row_cell r1 2
    have c3 := row_cell r1 3
    have c4 := row_cell r1 4
    simp at c0 c1 c2 c3 c4
    have HB := Lib.hid hb
    clear hb r1
    go_wp2_with fail
    go_ret2
    exact ⟨rfl, HB.out⟩
  · have f2 : p - 1 < -999999999 := by omega
    clear hf
    go_enter Tryz.func75, Tryz.ntmps75
    go_upto_region 1 with fail
    obtain ⟨r1, hb⟩ := box1 w (.cells #[.bool false, .bool false, .bool true, .string D, .int .i64 p] 61)
    generalize World.alloc w _ = w2 at r1 hb ⊢
    have c0 := row_cell r1 0
    have c1 := row_cell r1 1
    have c2 := row_cell r1 2
    have c3 := row_cell r1 3
    have c4 := row_cell r1 4
    simp at c0 c1 c2 c3 c4
    have HB := Lib.hid hb
    clear hb r1
    go_wp2_with fail
    go_ret2
    exact ⟨rfl, HB.out⟩
set_option maxHeartbeats 2000000 in
theorem sc_num_true_true_neg (D T : ByteArray) (p c : Int) (w : World) (X Y : ByteArray) (hX : D.extract 1 D.size = X) (hY : D.extract 0 1 = Y) (h1 : 1 ≤ D.size) (hD : D.size ≤ 200000) (hXs : X.size ≤ 200000) (hYs : Y.size ≤ 1) (he : (D.toList == []) = false) (hx : (X.toList == []) = true) (hp0 : -1000200000 ≤ p) (hp1 : p ≤ 1000200000) (E : ByteArray) (hEs : E.size ≤ 20) (hE : ∀ w, Calls Tryz.prog 112 #[.int .i64 (-(p - 1)), .int .i64 1] w fun e w' => e = .returned (.string E) ∧ Below w.heap.size w w') (hT : T.data.toList = (⟨#[45]⟩ ++ Y ++ ⟨#[46]⟩ ++ ⟨#[48]⟩ ++ ⟨#[69]⟩ ++ ⟨#[45]⟩ ++ E : ByteArray).data.toList) (hc : c = 0) (hn : p - 1 < 0) (hf1 : p - 1 ≤ 999999999) (hf2 : -999999999 ≤ p - 1) :
    Calls Tryz.prog 75 #[.agg #[.bool false, .bool false, .bool true, .string D, .int .i64 p]] w fun e w' => e = .returned (.tuple #[.string T, .int .i64 c]) ∧ Below w.heap.size w w' := by
  subst hc
  have h1' : (1 : Int) ≤ (D.size : Int) := by omega
  have HT := Lib.hid hT
  have HE := Lib.hid hE
  clear hT hE
  have z0 : (⟨#[45]⟩ ++ Y : ByteArray).size ≤ 200100 := by simp only [ByteArray.size_append]; show 1 + Y.size ≤ _; omega
  have z1 : (⟨#[45]⟩ ++ Y ++ ⟨#[46]⟩ : ByteArray).size ≤ 200100 := by simp only [ByteArray.size_append]; show 1 + Y.size + 1 ≤ _; omega
  have z2 : (⟨#[45]⟩ ++ Y ++ ⟨#[46]⟩ ++ ⟨#[48]⟩ : ByteArray).size ≤ 200100 := by simp only [ByteArray.size_append]; show 1 + Y.size + 1 + 1 ≤ _; omega
  have z3 : (⟨#[45]⟩ ++ Y ++ ⟨#[46]⟩ ++ ⟨#[48]⟩ ++ ⟨#[69]⟩ : ByteArray).size ≤ 200100 := by simp only [ByteArray.size_append]; show 1 + Y.size + 1 + 1 + 1 ≤ _; omega
  have zn : (⟨#[45]⟩ ++ Y ++ ⟨#[46]⟩ ++ ⟨#[48]⟩ ++ ⟨#[69]⟩ ++ ⟨#[45]⟩ : ByteArray).size ≤ 200101 := by simp only [ByteArray.size_append]; show 1 + Y.size + 1 + 1 + 1 + 1 ≤ _; omega
  have zl : (⟨#[45]⟩ ++ Y ++ ⟨#[46]⟩ ++ ⟨#[48]⟩ ++ ⟨#[69]⟩ ++ ⟨#[45]⟩ ++ E : ByteArray).size ≤ 200141 := by simp only [ByteArray.size_append]; show 1 + Y.size + 1 + 1 + 1 + 1 + E.size ≤ _; omega
  go_enter Tryz.func75, Tryz.ntmps75
  go_upto_region 1 with fail
  obtain ⟨r1, hb⟩ := box1 w (.cells #[.bool false, .bool false, .bool true, .string D, .int .i64 p] 61)
  generalize World.alloc w _ = w2 at r1 hb ⊢
  have c0 := row_cell r1 0
  have c1 := row_cell r1 1
  have c2 := row_cell r1 2
  have c3 := row_cell r1 3
  have c4 := row_cell r1 4
  simp at c0 c1 c2 c3 c4
  have HB := Lib.hid hb
  clear hb r1
  go_wp2_with (go_at_call 112; (with_reducible refine (HE.out _).mono ?_); rintro e w3 ⟨rfl, hb3⟩)
  go_ret2
  exact ⟨rs_strI (ba_ext (by first | (rw [HT.out]; done) | (rw [HT.out]; simp))), HB.out.trans (hb3.mono HB.out.size)⟩
set_option maxHeartbeats 2000000 in
theorem sc_num_true_true_pos (D T : ByteArray) (p c : Int) (w : World) (X Y : ByteArray) (hX : D.extract 1 D.size = X) (hY : D.extract 0 1 = Y) (h1 : 1 ≤ D.size) (hD : D.size ≤ 200000) (hXs : X.size ≤ 200000) (hYs : Y.size ≤ 1) (he : (D.toList == []) = false) (hx : (X.toList == []) = true) (hp0 : -1000200000 ≤ p) (hp1 : p ≤ 1000200000) (E : ByteArray) (hEs : E.size ≤ 20) (hE : ∀ w, Calls Tryz.prog 112 #[.int .i64 (p - 1), .int .i64 1] w fun e w' => e = .returned (.string E) ∧ Below w.heap.size w w') (hT : T.data.toList = (⟨#[45]⟩ ++ Y ++ ⟨#[46]⟩ ++ ⟨#[48]⟩ ++ ⟨#[69]⟩ ++ E : ByteArray).data.toList) (hc : c = 0) (hn : 0 ≤ p - 1) (hf1 : p - 1 ≤ 999999999) (hf2 : -999999999 ≤ p - 1) :
    Calls Tryz.prog 75 #[.agg #[.bool false, .bool false, .bool true, .string D, .int .i64 p]] w fun e w' => e = .returned (.tuple #[.string T, .int .i64 c]) ∧ Below w.heap.size w w' := by
  subst hc
  have h1' : (1 : Int) ≤ (D.size : Int) := by omega
  have HT := Lib.hid hT
  have HE := Lib.hid hE
  clear hT hE
  have z0 : (⟨#[45]⟩ ++ Y : ByteArray).size ≤ 200100 := by simp only [ByteArray.size_append]; show 1 + Y.size ≤ _; omega
  have z1 : (⟨#[45]⟩ ++ Y ++ ⟨#[46]⟩ : ByteArray).size ≤ 200100 := by simp only [ByteArray.size_append]; show 1 + Y.size + 1 ≤ _; omega
  have z2 : (⟨#[45]⟩ ++ Y ++ ⟨#[46]⟩ ++ ⟨#[48]⟩ : ByteArray).size ≤ 200100 := by simp only [ByteArray.size_append]; show 1 + Y.size + 1 + 1 ≤ _; omega
  have z3 : (⟨#[45]⟩ ++ Y ++ ⟨#[46]⟩ ++ ⟨#[48]⟩ ++ ⟨#[69]⟩ : ByteArray).size ≤ 200100 := by simp only [ByteArray.size_append]; show 1 + Y.size + 1 + 1 + 1 ≤ _; omega
  have zl : (⟨#[45]⟩ ++ Y ++ ⟨#[46]⟩ ++ ⟨#[48]⟩ ++ ⟨#[69]⟩ ++ E : ByteArray).size ≤ 200141 := by simp only [ByteArray.size_append]; show 1 + Y.size + 1 + 1 + 1 + E.size ≤ _; omega
  go_enter Tryz.func75, Tryz.ntmps75
  go_upto_region 1 with fail
  obtain ⟨r1, hb⟩ := box1 w (.cells #[.bool false, .bool false, .bool true, .string D, .int .i64 p] 61)
  generalize World.alloc w _ = w2 at r1 hb ⊢
  have c0 := row_cell r1 0
  have c1 := row_cell r1 1
  have c2 := row_cell r1 2
  have c3 := row_cell r1 3
  have c4 := row_cell r1 4
  simp at c0 c1 c2 c3 c4
  have HB := Lib.hid hb
  clear hb r1
  go_wp2_with (go_at_call 112; (with_reducible refine (HE.out _).mono ?_); rintro e w3 ⟨rfl, hb3⟩)
  go_ret2
  exact ⟨rs_strI (ba_ext (by first | (rw [HT.out]; done) | (rw [HT.out]; simp))), HB.out.trans (hb3.mono HB.out.size)⟩
set_option maxHeartbeats 2000000 in
theorem sc_far_true_false (D T : ByteArray) (p c : Int) (w : World) (X Y : ByteArray) (hX : D.extract 1 D.size = X) (hY : D.extract 0 1 = Y) (h1 : 1 ≤ D.size) (hD : D.size ≤ 200000) (hXs : X.size ≤ 200000) (hYs : Y.size ≤ 1) (he : (D.toList == []) = false) (hx : (X.toList == []) = false) (hp0 : -1000200000 ≤ p) (hp1 : p ≤ 1000200000) (hT : T = ⟨#[]⟩) (hc : c = 80) (hf : 999999999 < p - 1 ∨ p - 1 < -999999999) :
    Calls Tryz.prog 75 #[.agg #[.bool false, .bool false, .bool true, .string D, .int .i64 p]] w fun e w' => e = .returned (.tuple #[.string T, .int .i64 c]) ∧ Below w.heap.size w w' := by
  subst hT
  subst hc
  have h1' : (1 : Int) ≤ (D.size : Int) := by omega
  by_cases f1 : 999999999 < p - 1
  · clear hf
    go_enter Tryz.func75, Tryz.ntmps75
    go_upto_region 1 with fail
    obtain ⟨r1, hb⟩ := box1 w (.cells #[.bool false, .bool false, .bool true, .string D, .int .i64 p] 61)
    generalize World.alloc w _ = w2 at r1 hb ⊢
    have c0 := row_cell r1 0
    have c1 := row_cell r1 1
    have c2 := row_cell r1 2
    have c3 := row_cell r1 3
    have c4 := row_cell r1 4
    simp at c0 c1 c2 c3 c4
    have HB := Lib.hid hb
    clear hb r1
    go_wp2_with fail
    go_ret2
    exact ⟨rfl, HB.out⟩
  · have f2 : p - 1 < -999999999 := by omega
    clear hf
    go_enter Tryz.func75, Tryz.ntmps75
    go_upto_region 1 with fail
    obtain ⟨r1, hb⟩ := box1 w (.cells #[.bool false, .bool false, .bool true, .string D, .int .i64 p] 61)
    generalize World.alloc w _ = w2 at r1 hb ⊢
    have c0 := row_cell r1 0
    have c1 := row_cell r1 1
    have c2 := row_cell r1 2
    have c3 := row_cell r1 3
    have c4 := row_cell r1 4
    simp at c0 c1 c2 c3 c4
    have HB := Lib.hid hb
    clear hb r1
    go_wp2_with fail
    go_ret2
    exact ⟨rfl, HB.out⟩
set_option maxHeartbeats 2000000 in
theorem sc_num_true_false_neg (D T : ByteArray) (p c : Int) (w : World) (X Y : ByteArray) (hX : D.extract 1 D.size = X) (hY : D.extract 0 1 = Y) (h1 : 1 ≤ D.size) (hD : D.size ≤ 200000) (hXs : X.size ≤ 200000) (hYs : Y.size ≤ 1) (he : (D.toList == []) = false) (hx : (X.toList == []) = false) (hp0 : -1000200000 ≤ p) (hp1 : p ≤ 1000200000) (E : ByteArray) (hEs : E.size ≤ 20) (hE : ∀ w, Calls Tryz.prog 112 #[.int .i64 (-(p - 1)), .int .i64 1] w fun e w' => e = .returned (.string E) ∧ Below w.heap.size w w') (hT : T.data.toList = (⟨#[45]⟩ ++ Y ++ ⟨#[46]⟩ ++ X ++ ⟨#[69]⟩ ++ ⟨#[45]⟩ ++ E : ByteArray).data.toList) (hc : c = 0) (hn : p - 1 < 0) (hf1 : p - 1 ≤ 999999999) (hf2 : -999999999 ≤ p - 1) :
    Calls Tryz.prog 75 #[.agg #[.bool false, .bool false, .bool true, .string D, .int .i64 p]] w fun e w' => e = .returned (.tuple #[.string T, .int .i64 c]) ∧ Below w.heap.size w w' := by
  subst hc
  have h1' : (1 : Int) ≤ (D.size : Int) := by omega
  have HT := Lib.hid hT
  have HE := Lib.hid hE
  clear hT hE
  have z0 : (⟨#[45]⟩ ++ Y : ByteArray).size ≤ 200100 := by simp only [ByteArray.size_append]; show 1 + Y.size ≤ _; omega
  have z1 : (⟨#[45]⟩ ++ Y ++ ⟨#[46]⟩ : ByteArray).size ≤ 200100 := by simp only [ByteArray.size_append]; show 1 + Y.size + 1 ≤ _; omega
  have z2 : (⟨#[45]⟩ ++ Y ++ ⟨#[46]⟩ ++ X : ByteArray).size ≤ 200100 := by simp only [ByteArray.size_append]; show 1 + Y.size + 1 + X.size ≤ _; omega
  have z3 : (⟨#[45]⟩ ++ Y ++ ⟨#[46]⟩ ++ X ++ ⟨#[69]⟩ : ByteArray).size ≤ 200100 := by simp only [ByteArray.size_append]; show 1 + Y.size + 1 + X.size + 1 ≤ _; omega
  have zn : (⟨#[45]⟩ ++ Y ++ ⟨#[46]⟩ ++ X ++ ⟨#[69]⟩ ++ ⟨#[45]⟩ : ByteArray).size ≤ 200101 := by simp only [ByteArray.size_append]; show 1 + Y.size + 1 + X.size + 1 + 1 ≤ _; omega
  have zl : (⟨#[45]⟩ ++ Y ++ ⟨#[46]⟩ ++ X ++ ⟨#[69]⟩ ++ ⟨#[45]⟩ ++ E : ByteArray).size ≤ 200141 := by simp only [ByteArray.size_append]; show 1 + Y.size + 1 + X.size + 1 + 1 + E.size ≤ _; omega
  go_enter Tryz.func75, Tryz.ntmps75
  go_upto_region 1 with fail
  obtain ⟨r1, hb⟩ := box1 w (.cells #[.bool false, .bool false, .bool true, .string D, .int .i64 p] 61)
  generalize World.alloc w _ = w2 at r1 hb ⊢
  have c0 := row_cell r1 0
  have c1 := row_cell r1 1
  have c2 := row_cell r1 2
  have c3 := row_cell r1 3
  have c4 := row_cell r1 4
  simp at c0 c1 c2 c3 c4
  have HB := Lib.hid hb
  clear hb r1
  go_wp2_with (go_at_call 112; (with_reducible refine (HE.out _).mono ?_); rintro e w3 ⟨rfl, hb3⟩)
  go_ret2
  exact ⟨rs_strI (ba_ext (by first | (rw [HT.out]; done) | (rw [HT.out]; simp))), HB.out.trans (hb3.mono HB.out.size)⟩
set_option maxHeartbeats 2000000 in
theorem sc_num_true_false_pos (D T : ByteArray) (p c : Int) (w : World) (X Y : ByteArray) (hX : D.extract 1 D.size = X) (hY : D.extract 0 1 = Y) (h1 : 1 ≤ D.size) (hD : D.size ≤ 200000) (hXs : X.size ≤ 200000) (hYs : Y.size ≤ 1) (he : (D.toList == []) = false) (hx : (X.toList == []) = false) (hp0 : -1000200000 ≤ p) (hp1 : p ≤ 1000200000) (E : ByteArray) (hEs : E.size ≤ 20) (hE : ∀ w, Calls Tryz.prog 112 #[.int .i64 (p - 1), .int .i64 1] w fun e w' => e = .returned (.string E) ∧ Below w.heap.size w w') (hT : T.data.toList = (⟨#[45]⟩ ++ Y ++ ⟨#[46]⟩ ++ X ++ ⟨#[69]⟩ ++ E : ByteArray).data.toList) (hc : c = 0) (hn : 0 ≤ p - 1) (hf1 : p - 1 ≤ 999999999) (hf2 : -999999999 ≤ p - 1) :
    Calls Tryz.prog 75 #[.agg #[.bool false, .bool false, .bool true, .string D, .int .i64 p]] w fun e w' => e = .returned (.tuple #[.string T, .int .i64 c]) ∧ Below w.heap.size w w' := by
  subst hc
  have h1' : (1 : Int) ≤ (D.size : Int) := by omega
  have HT := Lib.hid hT
  have HE := Lib.hid hE
  clear hT hE
  have z0 : (⟨#[45]⟩ ++ Y : ByteArray).size ≤ 200100 := by simp only [ByteArray.size_append]; show 1 + Y.size ≤ _; omega
  have z1 : (⟨#[45]⟩ ++ Y ++ ⟨#[46]⟩ : ByteArray).size ≤ 200100 := by simp only [ByteArray.size_append]; show 1 + Y.size + 1 ≤ _; omega
  have z2 : (⟨#[45]⟩ ++ Y ++ ⟨#[46]⟩ ++ X : ByteArray).size ≤ 200100 := by simp only [ByteArray.size_append]; show 1 + Y.size + 1 + X.size ≤ _; omega
  have z3 : (⟨#[45]⟩ ++ Y ++ ⟨#[46]⟩ ++ X ++ ⟨#[69]⟩ : ByteArray).size ≤ 200100 := by simp only [ByteArray.size_append]; show 1 + Y.size + 1 + X.size + 1 ≤ _; omega
  have zl : (⟨#[45]⟩ ++ Y ++ ⟨#[46]⟩ ++ X ++ ⟨#[69]⟩ ++ E : ByteArray).size ≤ 200141 := by simp only [ByteArray.size_append]; show 1 + Y.size + 1 + X.size + 1 + E.size ≤ _; omega
  go_enter Tryz.func75, Tryz.ntmps75
  go_upto_region 1 with fail
  obtain ⟨r1, hb⟩ := box1 w (.cells #[.bool false, .bool false, .bool true, .string D, .int .i64 p] 61)
  generalize World.alloc w _ = w2 at r1 hb ⊢
  have c0 := row_cell r1 0
  have c1 := row_cell r1 1
  have c2 := row_cell r1 2
  have c3 := row_cell r1 3
  have c4 := row_cell r1 4
  simp at c0 c1 c2 c3 c4
  have HB := Lib.hid hb
  clear hb r1
  go_wp2_with (go_at_call 112; (with_reducible refine (HE.out _).mono ?_); rintro e w3 ⟨rfl, hb3⟩)
  go_ret2
  exact ⟨rs_strI (ba_ext (by first | (rw [HT.out]; done) | (rw [HT.out]; simp))), HB.out.trans (hb3.mono HB.out.size)⟩
end Go.Proofs.YtlhcejbimlilaaaGreatDoor
/- The document's great, moment (written by gen_vfe.py). -/
namespace Go.Proofs.YtlhcejbimlilaaaGreatDoor
open Go.RowKit Go.Tk
set_option maxHeartbeats 2000000 in
theorem rgreat_calls (s : ByteArray) (w : World) (hs : s.size ≤ 4000000000) (hg : ∀ c ∈ s.data.toList, 97 ≤ c.toNat → c.toNat ≤ 122) :
    Calls Tryz.prog 77 #[.string s] w fun e w' => e = .returned (.string ⟨(gtP s.data.toList).toArray⟩) ∧ Below w.heap.size w w' := by
  obtain ⟨L, hL⟩ : ∃ L, L = s.data.toList := ⟨_, rfl⟩
  have hl : L.length = s.size := by rw [hL, Lib.size_eq]
  rw [← hL] at hg ⊢
  have HL := Lib.hid hl
  have HS := Lib.hid hL
  have HG := Lib.hid hg
  clear hl hL hg
  go_enter Tryz.func77, Tryz.ntmps77
  go_wp2_with (refine wpList_toOwn rfl (.tmp 5) 9 65 rfl _ rfl 5 Tryz.underlying9 Tryz.underlying65 Tryz.underlying5 (by omega) ?_; intro w1 c hB hc1 hc2; (have HB := Lib.hid hB); clear hB)
  go_loopw [4] (fun i wr => ∃ k : Nat, k ≤ s.size ∧ i = .int .i64 (k : Nat) ∧ BtR w wr (gtM L k)) (fun i _ => s.size - (intOf i).toNat)
  case atStart => exact ⟨0, Nat.zero_le _, rfl, by rw [gtM_0, HS.out]; exact HB.out⟩
  case round =>
    obtain ⟨k, hk, rfl, hR⟩ := hrel
    by_cases hlt : k < s.size
    · have hkl : k < L.length := by rw [HL.out]; exact hlt
      have hkm : k < (gtM L k).length := by rw [gtM_len]; exact hkl
      have hce := hR.cell k hkm
      rw [gtM_get L k hkl hkm] at hce
      have hfz := hR.free k hkm
      have hgk := HG.out L[k] (List.getElem_mem hkl)
      obtain ⟨b, hb⟩ : ∃ b, b = L[k] := ⟨_, rfl⟩
      rw [← hb] at hce hgk
      obtain ⟨x, hx⟩ : ∃ x : Int, x = (b.toNat : Int) := ⟨_, rfl⟩
      rw [← hx] at hce
      have x0 : 0 ≤ x := by omega
      have x1 : x < 256 := by have := UInt8.toNat_lt b; omega
      by_cases c1 : 97 ≤ x
      · have hx122 := hgk (by omega)
        have hg : (gtC b).toNat = b.toNat - 32 := by
          unfold gtC; rw [if_pos (by omega)]
          rw [UInt8.toNat_sub_of_le _ _ (by rw [UInt8.le_iff_toNat_le]; show 32 ≤ _; omega)]; rfl
        have hst := hR.set k hkm (gtC b)
        rw [show (((gtC b).toNat : Nat) : Int) = x - 32 by omega] at hst
        rw [hb] at hst
        rw [gtM_step L k hkl] at hst
        have HST := Lib.hid hst
        clear hst hg hb hx hR hgk hx122
        go_wp2_with fail
        go_roundw
        case rel => exact ⟨k + 1, by omega, by go_num, HST.out⟩
        case measure => simp [intOf]; omega
      · have hg : gtC b = b := by unfold gtC; rw [if_neg (by omega)]
        have hke := gtM_keep L k hkl (by rw [← hb]; exact hg)
        rw [hke] at hR
        have HR := Lib.hid hR
        have c1' : x < 97 := by omega
        clear hg hke hb hx hR c1 hgk
        go_wp2_with fail
        go_roundw
        case rel => exact ⟨k + 1, by omega, by go_num, HR.out⟩
        case measure => simp [intOf]; omega
    · have hke : gtM L k = gtP L := by rw [show k = L.length by rw [HL.out]; omega, gtM_all]
      have hst := hR.str Tryz.underlying65 Tryz.underlying5 Tryz.underlying9 c
      rw [hke] at hst
      have hgl : (gtP L).length = s.size := by unfold gtP; rw [List.length_map, HL.out]
      rw [hgl] at hst
      have HB2 := Lib.hid hR.below
      clear hke hR hgl
      go_wp2_with fail
      go_ret
      exact ⟨rfl, HB2.out⟩
set_option maxRecDepth 100000 in
set_option maxHeartbeats 4000000 in
theorem rmo_day (m : Mo8) (hm : m.Ok) (w : World) : Calls Tryz.prog 76 #[.agg m.cells, .int .i64 7] w fun e w' => ∃ T : ByteArray, e = .returned (.tuple #[.string T, .int .i64 0]) ∧ T.data.toList = m.dtx ++ m.ztx ∧ Below w.heap.size w w' := by
  obtain ⟨D, Ds, Dd, Dc⟩ := dateText_let m hm
  obtain ⟨Z, Zs, Zd, Zc⟩ := zoneText_let m hm
  rw [← Dd, ← Zd]
  clear Dd Zd hm
  obtain ⟨y, mo, d, h, mi, s, f, z, o⟩ := m
  have HD : Hid (∀ w, Calls Tryz.prog 113 #[.agg #[.int .i64 y, .int .i64 mo, .int .i64 d, .int .i64 h, .int .i64 mi, .int .i64 s, .string f, .bool z, .int .i64 o]] w fun e w' => e = .returned (.string D) ∧ Below w.heap.size w w') := Lib.hid Dc
  have HZ : Hid (∀ w, Calls Tryz.prog 114 #[.agg #[.int .i64 y, .int .i64 mo, .int .i64 d, .int .i64 h, .int .i64 mi, .int .i64 s, .string f, .bool z, .int .i64 o]] w fun e w' => e = .returned (.string Z) ∧ Below w.heap.size w w') := Lib.hid Zc
  clear Dc Zc
  have zz : (D ++ Z).size ≤ 200 := by rw [ByteArray.size_append]; omega
  unfold Mo8.cells
  dsimp only
  go_enter Tryz.func76, Tryz.ntmps76
  go_upto_region 1 with fail
  obtain ⟨r1, hb⟩ := box1 w (.cells #[.int .i64 y, .int .i64 mo, .int .i64 d, .int .i64 h, .int .i64 mi, .int .i64 s, .string f, .bool z, .int .i64 o] 69)
  generalize World.alloc w _ = w2 at r1 hb ⊢
  have R := Lib.hid r1
  have B := Lib.hid hb
  clear r1 hb
  go_upto_region 3 with fail
  have qx := Lw.row R.out
  have x0 := fun x => (row_cell (qx x) 0)
  have x1 := fun x => (row_cell (qx x) 1)
  have x2 := fun x => (row_cell (qx x) 2)
  have x3 := fun x => (row_cell (qx x) 3)
  have x4 := fun x => (row_cell (qx x) 4)
  have x5 := fun x => (row_cell (qx x) 5)
  have x6 := fun x => (row_cell (qx x) 6)
  have x7 := fun x => (row_cell (qx x) 7)
  have x8 := fun x => (row_cell (qx x) 8)
  simp [Mo8.cells] at x0 x1 x2 x3 x4 x5 x6 x7 x8
  clear qx
  refine wp_region_lw (by kernel_rfl) (by kernel_rfl) ?_
  repeat (go_big_quiet_step (first | exact rfl | (go_at_call 113; with_reducible exact lw_call (HD.out _)) | (go_at_call 114; with_reducible exact lw_call (HZ.out _))))
  refine wpQuiet_nil ?_
  rintro ⟨w3, hb3⟩
  dsimp only
  have hb4 := B.out.trans (hb3.mono B.out.size)
  clear x0 x1 x2 x3 x4 x5 x6 x7 x8
  go_wp2_with fail
  go_ret2
  exact ⟨D ++ Z, rfl, by simp, hb4⟩
set_option maxRecDepth 100000 in
set_option maxHeartbeats 4000000 in
theorem rmo_clk (m : Mo8) (hm : m.Ok) (w : World) (h24 : m.h ≠ 24) : Calls Tryz.prog 76 #[.agg m.cells, .int .i64 8] w fun e w' => ∃ T : ByteArray, e = .returned (.tuple #[.string T, .int .i64 0]) ∧ T.data.toList = tmT m.h m.mi m.s m.f.data.toList ++ m.ztx ∧ Below w.heap.size w w' := by
  obtain ⟨D, Ds, Dd, Dc⟩ := timeText_let { m with h := m.h } (by obtain ⟨a1, a2, a3, a4, a5, a6, a7, a8, a9, a10, a11, a12, a13, a14, a15⟩ := hm; constructor <;> first | assumption | (dsimp only; omega))
  obtain ⟨Z, Zs, Zd, Zc⟩ := zoneText_let { m with h := m.h } (by obtain ⟨a1, a2, a3, a4, a5, a6, a7, a8, a9, a10, a11, a12, a13, a14, a15⟩ := hm; constructor <;> first | assumption | (dsimp only; omega))
  have hD : tmT m.h m.mi m.s m.f.data.toList = D.data.toList := Dd.symm
  have hZ : m.ztx = Z.data.toList := Zd.symm
  rw [hD, hZ]
  clear Dd Zd hm hD hZ
  obtain ⟨y, mo, d, h, mi, s, f, z, o⟩ := m
  have HD : Hid (∀ w, Calls Tryz.prog 115 #[.agg #[.int .i64 y, .int .i64 mo, .int .i64 d, .int .i64 h, .int .i64 mi, .int .i64 s, .string f, .bool z, .int .i64 o]] w fun e w' => e = .returned (.string D) ∧ Below w.heap.size w w') := Lib.hid Dc
  have HZ : Hid (∀ w, Calls Tryz.prog 114 #[.agg #[.int .i64 y, .int .i64 mo, .int .i64 d, .int .i64 h, .int .i64 mi, .int .i64 s, .string f, .bool z, .int .i64 o]] w fun e w' => e = .returned (.string Z) ∧ Below w.heap.size w w') := Lib.hid Zc
  clear Dc Zc
  have zz : (D ++ Z).size ≤ 66000 := by rw [ByteArray.size_append]; omega
  unfold Mo8.cells
  dsimp only at *
  have h24b : (h == 24) = false := beq_false_of_ne h24
  clear h24
  go_enter Tryz.func76, Tryz.ntmps76
  go_upto_region 1 with fail
  obtain ⟨r1, hb⟩ := box1 w (.cells #[.int .i64 y, .int .i64 mo, .int .i64 d, .int .i64 h, .int .i64 mi, .int .i64 s, .string f, .bool z, .int .i64 o] 69)
  generalize World.alloc w _ = w2 at r1 hb ⊢
  have R := Lib.hid r1
  have B := Lib.hid hb
  clear r1 hb
  have c3 := row_cell R.out 3
  simp at c3
  go_upto_region 7 with fail
  clear c3
  have qx := Lw.row R.out
  have x0 := fun x => (row_cell (qx x) 0)
  have x1 := fun x => (row_cell (qx x) 1)
  have x2 := fun x => (row_cell (qx x) 2)
  have x3 := fun x => (row_cell (qx x) 3)
  have x4 := fun x => (row_cell (qx x) 4)
  have x5 := fun x => (row_cell (qx x) 5)
  have x6 := fun x => (row_cell (qx x) 6)
  have x7 := fun x => (row_cell (qx x) 7)
  have x8 := fun x => (row_cell (qx x) 8)
  simp [Mo8.cells] at x0 x1 x2 x3 x4 x5 x6 x7 x8
  clear qx
  refine wp_region_lw (by kernel_rfl) (by kernel_rfl) ?_
  repeat (go_big_quiet_step (first | exact rfl | (go_at_call 115; with_reducible exact lw_call (HD.out _)) | (go_at_call 114; with_reducible exact lw_call (HZ.out _))))
  refine wpQuiet_nil ?_
  rintro ⟨w3, hb3⟩
  dsimp only
  have hb4 := B.out.trans (hb3.mono B.out.size)
  clear x0 x1 x2 x3 x4 x5 x6 x7 x8
  go_wp2_with fail
  go_ret2
  exact ⟨D ++ Z, rfl, by simp, hb4⟩
set_option maxRecDepth 100000 in
set_option maxHeartbeats 4000000 in
theorem rmo_clk24 (m : Mo8) (hm : m.Ok) (w : World) (h24 : m.h = 24) : Calls Tryz.prog 76 #[.agg m.cells, .int .i64 8] w fun e w' => ∃ T : ByteArray, e = .returned (.tuple #[.string T, .int .i64 0]) ∧ T.data.toList = tmT 0 m.mi m.s m.f.data.toList ++ m.ztx ∧ Below w.heap.size w w' := by
  obtain ⟨D, Ds, Dd, Dc⟩ := timeText_let { m with h := 0 } (by obtain ⟨a1, a2, a3, a4, a5, a6, a7, a8, a9, a10, a11, a12, a13, a14, a15⟩ := hm; constructor <;> first | assumption | (dsimp only; omega))
  obtain ⟨Z, Zs, Zd, Zc⟩ := zoneText_let { m with h := 0 } (by obtain ⟨a1, a2, a3, a4, a5, a6, a7, a8, a9, a10, a11, a12, a13, a14, a15⟩ := hm; constructor <;> first | assumption | (dsimp only; omega))
  have hD : tmT 0 m.mi m.s m.f.data.toList = D.data.toList := Dd.symm
  have hZ : m.ztx = Z.data.toList := Zd.symm
  rw [hD, hZ]
  clear Dd Zd hm hD hZ
  obtain ⟨y, mo, d, h, mi, s, f, z, o⟩ := m
  have HD : Hid (∀ w, Calls Tryz.prog 115 #[.agg #[.int .i64 y, .int .i64 mo, .int .i64 d, .int .i64 0, .int .i64 mi, .int .i64 s, .string f, .bool z, .int .i64 o]] w fun e w' => e = .returned (.string D) ∧ Below w.heap.size w w') := Lib.hid Dc
  have HZ : Hid (∀ w, Calls Tryz.prog 114 #[.agg #[.int .i64 y, .int .i64 mo, .int .i64 d, .int .i64 0, .int .i64 mi, .int .i64 s, .string f, .bool z, .int .i64 o]] w fun e w' => e = .returned (.string Z) ∧ Below w.heap.size w w') := Lib.hid Zc
  clear Dc Zc
  have zz : (D ++ Z).size ≤ 66000 := by rw [ByteArray.size_append]; omega
  unfold Mo8.cells
  dsimp only at *
  subst h24
  go_enter Tryz.func76, Tryz.ntmps76
  go_upto_region 1 with fail
  obtain ⟨r1, hb⟩ := box1 w (.cells #[.int .i64 y, .int .i64 mo, .int .i64 d, .int .i64 24, .int .i64 mi, .int .i64 s, .string f, .bool z, .int .i64 o] 69)
  generalize World.alloc w _ = w2 at r1 hb ⊢
  have R := Lib.hid r1
  have B := Lib.hid hb
  clear r1 hb
  have c3 := row_cell R.out 3
  simp at c3
  have fz : ∀ i, w2.frozen? ⟨w.heap.size, i, none⟩ = false := fun i => frozen_of_row _ _ _ _ _ R.out
  go_upto_region 7 with fail
  have Ry : MoAt (World.setCell w2 ⟨w.heap.size, 3, none⟩ (.int .i64 0)) w.heap.size ⟨y, mo, d, 0, mi, s, f, z, o⟩ := MoAt.set (m := ⟨y, mo, d, 24, mi, s, f, z, o⟩) R.out 3 _ rfl
  have By := bel_set B.out 3 (.int .i64 0)
  generalize World.setCell w2 _ _ = w5 at Ry By ⊢
  clear c3 fz
  replace R := Lib.hid Ry
  replace B := Lib.hid By
  clear Ry By
  have qx := Lw.row R.out
  have x0 := fun x => (row_cell (qx x) 0)
  have x1 := fun x => (row_cell (qx x) 1)
  have x2 := fun x => (row_cell (qx x) 2)
  have x3 := fun x => (row_cell (qx x) 3)
  have x4 := fun x => (row_cell (qx x) 4)
  have x5 := fun x => (row_cell (qx x) 5)
  have x6 := fun x => (row_cell (qx x) 6)
  have x7 := fun x => (row_cell (qx x) 7)
  have x8 := fun x => (row_cell (qx x) 8)
  simp [Mo8.cells] at x0 x1 x2 x3 x4 x5 x6 x7 x8
  clear qx
  refine wp_region_lw (by kernel_rfl) (by kernel_rfl) ?_
  repeat (go_big_quiet_step (first | exact rfl | (go_at_call 115; with_reducible exact lw_call (HD.out _)) | (go_at_call 114; with_reducible exact lw_call (HZ.out _))))
  refine wpQuiet_nil ?_
  rintro ⟨w3, hb3⟩
  dsimp only
  have hb4 := B.out.trans (hb3.mono B.out.size)
  clear x0 x1 x2 x3 x4 x5 x6 x7 x8
  go_wp2_with fail
  go_ret2
  exact ⟨D ++ Z, rfl, by simp, hb4⟩
/-- What a dateTime's own text is. -/
def MdPost (m : Mo8) (n : Int) (w : World) (e : Ending) (w' : World) : Prop := ∃ n' y mo d q : Int, IsDate n' y mo d ∧ 0 ≤ q ∧ q < 1440 ∧ n' * 1440 + q = n * 1440 + (60 * m.h + m.mi - m.o) ∧
  ∃ (T : ByteArray) (c : Int), e = .returned (.tuple #[.string T, .int .i64 c]) ∧ ((999999999 < y ∨ y < -999999999) → T = ⟨#[]⟩ ∧ c = 80) ∧
    (¬ (999999999 < y ∨ y < -999999999) → c = 0 ∧ T.data.toList = yrT y ++ [45] ++ pdP mo 2 ++ [45] ++ pdP d 2 ++ [84] ++ tmT (q / 60) (q % 60) m.s m.f.data.toList ++ znT m.z 0) ∧ Below w.heap.size w w'
set_option maxRecDepth 100000 in
set_option maxHeartbeats 4000000 in
theorem rmo_dt (m : Mo8) (n : Int) (hm : m.Ok) (hd : IsDate n m.y m.mo m.d) (y0 : -1000000000 ≤ m.y) (y1 : m.y ≤ 1000000000) (w : World) : Calls Tryz.prog 76 #[.agg m.cells, .int .i64 6] w (MdPost m n w) := by
  have hst := fun w g hr => settled_calls w g m n hm hd (by omega) (by omega) hr
  obtain ⟨y, mo, d, h, mi, s, f, z, o⟩ := m
  obtain ⟨_, _, _, _, _, _, h0, h1, mi0, mi1, s0, s1, f1, o0, o1⟩ := hm
  dsimp only at *
  have HST := Lib.hid hst
  clear hst hd
  unfold Mo8.cells
  dsimp only
  go_enter Tryz.func76, Tryz.ntmps76
  go_upto_region 1 with fail
  obtain ⟨r1, hb⟩ := box1 w (.cells #[.int .i64 y, .int .i64 mo, .int .i64 d, .int .i64 h, .int .i64 mi, .int .i64 s, .string f, .bool z, .int .i64 o] 69)
  generalize World.alloc w _ = w2 at r1 hb ⊢
  have r1m : MoAt w2 w.heap.size ⟨y, mo, d, h, mi, s, f, z, o⟩ := r1
  have R := Lib.hid r1m
  have B := Lib.hid hb
  clear r1 r1m hb
  go_upto_region 9 with (go_at_call 116; (with_reducible refine (HST.out _ _ R.out).mono ?_); rintro e w4 ⟨rfl, n', y', mo', d', q, hd', q0, q1, hq, a0, a1, Rx, Bx⟩)
  have b4 := B.out.trans Bx
  clear Bx B R HST
  have R := Lib.hid Rx
  have B := Lib.hid b4
  clear Rx b4
  have HQ := Lib.hid hq
  have HD' := Lib.hid hd'
  have m1 := hd'.m1
  have m2 := hd'.m2
  have d1 := hd'.d1
  have d2 : d' ≤ 31 := by have := hd'.d2; have := mdP_bd y' mo'; omega
  clear hq hd'
  have ya : -2000000000 ≤ y' := by omega
  have yb : y' ≤ 2000000000 := by omega
  clear y0 y1 a0 a1
  have c0 := row_cell R.out 0
  simp [Mo8.cells] at c0
  by_cases far : 999999999 < y' ∨ y' < -999999999
  · have FAR := Lib.hid far
    by_cases f1 : 999999999 < y'
    · clear far
      go_wp2_with fail
      go_ret2
      exact ⟨n', y', mo', d', q, HD'.out, q0, q1, HQ.out, _, _, rfl, fun _ => ⟨rfl, rfl⟩, fun h => absurd FAR.out h, B.out⟩
    · have f2 : y' < -999999999 := by omega
      have f1' : y' ≤ 999999999 := by omega
      clear far f1
      go_wp2_with fail
      go_ret2
      exact ⟨n', y', mo', d', q, HD'.out, q0, q1, HQ.out, _, _, rfl, fun _ => ⟨rfl, rfl⟩, fun h => absurd FAR.out h, B.out⟩
  · have FAR := Lib.hid far
    have f1' : y' ≤ 999999999 := by omega
    have f2' : -999999999 ≤ y' := by omega
    clear far
    have hok : Mo8.Ok ⟨y', mo', d', q / 60, q % 60, s, f, z, 0⟩ := by constructor <;> first | assumption | (dsimp only; omega)
    obtain ⟨D, Ds, Dd, Dc⟩ := dateText_let _ hok
    obtain ⟨T, Ts, Td, Tc⟩ := timeText_let _ hok
    obtain ⟨Z, Zs, Zd, Zc⟩ := zoneText_let _ hok
    have hval : (D ++ ⟨#[84]⟩ ++ T ++ Z : ByteArray).data.toList = yrT y' ++ [45] ++ pdP mo' 2 ++ [45] ++ pdP d' 2 ++ [84] ++ tmT (q / 60) (q % 60) s f.data.toList ++ znT z 0 := by
      have a1 : D.data.toList = yrT y' ++ [45] ++ pdP mo' 2 ++ [45] ++ pdP d' 2 := Dd
      have a2 : T.data.toList = tmT (q / 60) (q % 60) s f.data.toList := Td
      have a3 : Z.data.toList = znT z 0 := Zd
      rw [← a1, ← a2, ← a3]
      simp
    have HV := Lib.hid hval
    clear hval Dd Td Zd hok
    obtain ⟨H', hH'⟩ : ∃ x, x = q / 60 := ⟨_, rfl⟩
    obtain ⟨M', hM'⟩ : ∃ x, x = q % 60 := ⟨_, rfl⟩
    rw [← hH', ← hM'] at Dc Tc Zc R
    clear hH' hM'
    have HD : Hid (∀ w, Calls Tryz.prog 113 #[.agg #[.int .i64 y', .int .i64 mo', .int .i64 d', .int .i64 H', .int .i64 M', .int .i64 s, .string f, .bool z, .int .i64 0]] w fun e w' => e = .returned (.string D) ∧ Below w.heap.size w w') := Lib.hid Dc
    have HT : Hid (∀ w, Calls Tryz.prog 115 #[.agg #[.int .i64 y', .int .i64 mo', .int .i64 d', .int .i64 H', .int .i64 M', .int .i64 s, .string f, .bool z, .int .i64 0]] w fun e w' => e = .returned (.string T) ∧ Below w.heap.size w w') := Lib.hid Tc
    have HZ : Hid (∀ w, Calls Tryz.prog 114 #[.agg #[.int .i64 y', .int .i64 mo', .int .i64 d', .int .i64 H', .int .i64 M', .int .i64 s, .string f, .bool z, .int .i64 0]] w fun e w' => e = .returned (.string Z) ∧ Below w.heap.size w w') := Lib.hid Zc
    clear Dc Tc Zc
    have z1 : (D ++ ⟨#[84]⟩).size ≤ 71 := by rw [ByteArray.size_append]; show D.size + 1 ≤ _; omega
    have z2 : (D ++ ⟨#[84]⟩ ++ T).size ≤ 65800 := by rw [ByteArray.size_append]; omega
    have z3 : (D ++ ⟨#[84]⟩ ++ T ++ Z).size ≤ 65900 := by rw [ByteArray.size_append]; omega
    go_upto_region 11 with fail
    clear c0
    have qx := Lw.row R.out
    have x0 := fun x => (row_cell (qx x) 0)
    have x1 := fun x => (row_cell (qx x) 1)
    have x2 := fun x => (row_cell (qx x) 2)
    have x3 := fun x => (row_cell (qx x) 3)
    have x4 := fun x => (row_cell (qx x) 4)
    have x5 := fun x => (row_cell (qx x) 5)
    have x6 := fun x => (row_cell (qx x) 6)
    have x7 := fun x => (row_cell (qx x) 7)
    have x8 := fun x => (row_cell (qx x) 8)
    simp [Mo8.cells] at x0 x1 x2 x3 x4 x5 x6 x7 x8
    clear qx
    refine wp_region_lw (by kernel_rfl) (by kernel_rfl) ?_
    repeat (go_big_quiet_step (first | exact rfl | (go_at_call 113; with_reducible exact lw_call (HD.out _)) | (go_at_call 115; with_reducible exact lw_call (HT.out _)) | (go_at_call 114; with_reducible exact lw_call (HZ.out _))))
    refine wpQuiet_nil ?_
    rintro ⟨w3, hb3⟩
    dsimp only
    have hb4 := B.out.trans (hb3.mono B.out.size)
    clear x0 x1 x2 x3 x4 x5 x6 x7 x8
    go_wp2_with fail
    go_ret2
    exact ⟨n', y', mo', d', q, HD'.out, q0, q1, HQ.out, D ++ ⟨#[84]⟩ ++ T ++ Z, 0, rfl, fun h => absurd h FAR.out, fun _ => ⟨rfl, HV.out⟩, hb4⟩
end Go.Proofs.YtlhcejbimlilaaaGreatDoor
/- The program's Canonical. -/
namespace Go.Tk
open Go Go.RowKit
/-- The date of a day. -/
noncomputable def dateF (n : Int) : Int × Int × Int := open Classical in if h : ∃ x : Int × Int × Int, IsDate n x.1 x.2.1 x.2.2 then h.choose else (0, 1, 1)
theorem dateF_eq {n y m d : Int} (h : IsDate n y m d) : dateF n = (y, m, d) := by
  have hx : ∃ x : Int × Int × Int, IsDate n x.1 x.2.1 x.2.2 := ⟨(y, m, d), h⟩
  unfold dateF
  rw [dif_pos hx]
  obtain ⟨a, b, c⟩ := hx.choose_spec.one h
  exact Prod.ext a (Prod.ext b c)
noncomputable def dtOw (n : Int) (tail : List UInt8) : Option (List UInt8) := if (if (dateF n).1 < 0 then -(dateF n).1 else (dateF n).1) ≤ 999999999 then some (dtP (dateF n).1 (dateF n).2.1 (dateF n).2.2 ++ tail) else none
end Go.Tk
namespace Go.Proofs.YtlhcejbimlilaaaGreatDoor
open Go.RowKit Go.Tk
/-- The own text of a datatype's text. -/
noncomputable def ownE (k : Kd) (s : List UInt8) : Option (List UInt8) := match k with
  | .str => some s
  | .boo => some (truP s)
  | .dec => (decP s).map plN
  | .dbl => (dblP s).bind scN
  | .dtm => (rdDT s).bind fun m => dtOw ((utM m).sec / 86400) ([84] ++ ckP (utM m).sec (utM m).part ++ (utM m).sp)
  | .dat => (rdDay s).bind fun m => dtOw (m.sec / 86400) m.sp
  | .tim => (rdClk s).map fun m => ckP m.sec m.part ++ m.sp
  | .hex => some (gtP s)
  | .b64 => some s
  | .int _ _ => (intP s).map whN
def OwP (o : Option (List UInt8)) (w : World) (e : Ending) (w' : World) : Prop := ∃ T : ByteArray, e = .returned (.tuple #[.string T, .bool o.isSome]) ∧ (∀ t, o = some t → T = ⟨t.toArray⟩) ∧ Below w.heap.size w w'
theorem OwP.of {t : List UInt8} {w : World} {e : Ending} {w' : World} (h : e = .returned (.tuple #[.string ⟨t.toArray⟩, .bool true]) ∧ Below w.heap.size w w') : OwP (some t) w e w' := ⟨_, h.1, fun _ ht => by rw [Option.some.inj ht], h.2⟩
theorem OwP.dt {n : Int} {tail : List UInt8} {w : World} {e : Ending} {w' : World} (h : DtP2 n tail w e w') : OwP (dtOw n tail) w e w' := by
  obtain ⟨y, m, d, he, hd, hb⟩ := h
  have hF := dateF_eq hd
  unfold dtOw
  rw [hF]
  dsimp only
  obtain ⟨Y, hY⟩ : ∃ Y, Y = if y < 0 then -y else y := ⟨_, rfl⟩
  rw [← hY] at he ⊢
  clear hY
  by_cases h9 : Y ≤ 999999999
  · rw [decide_eq_true h9] at he
    rw [if_pos h9]
    exact ⟨_, he, fun t ht => by rw [Option.some.inj ht], hb⟩
  · rw [decide_eq_false h9] at he
    rw [if_neg h9]
    exact ⟨_, he, fun t ht => (by cases ht), hb⟩
theorem witP_int {s lo hi : List UInt8} (h : witP s lo hi = true) : ∃ n, intP s = some n := by
  unfold witP at h
  cases hn : intP s with
  | some n => exact ⟨n, rfl⟩
  | none => rw [hn] at h; simp at h
theorem own_calls (k : Kd) (s : ByteArray) (w : World) (hpw : Pow w) (hs : s.size ≤ 65536) (hk : isK k s.data.toList = true) :
    Calls Tryz.prog (ownF k) #[.string s] w (OwP (ownE k s.data.toList) w) := by
  cases k with
  | str => exact (same_calls s w).mono fun e w' ⟨a, b⟩ => OwP.of ⟨a, b ▸ Below.refl _ _⟩
  | boo => exact (truth_calls s w).mono fun e w' ⟨a, b⟩ => OwP.of ⟨a, b ▸ Below.refl _ _⟩
  | dec =>
    obtain ⟨n, hn⟩ := Option.isSome_iff_exists.1 (show (decP s.data.toList).isSome = true from hk)
    have e : ownE .dec s.data.toList = some (plN n) := by unfold ownE; rw [hn]; rfl
    rw [e]
    exact (ownDecimal_calls s n w hs hn).mono fun e w' h => OwP.of h
  | dbl =>
    obtain ⟨n, hn⟩ := Option.isSome_iff_exists.1 (show (dblP s.data.toList).isSome = true from hk)
    have e : ownE .dbl s.data.toList = scN n := by unfold ownE; rw [hn]; rfl
    rw [e]
    exact (ownDouble_calls s n w hs hn hpw).mono fun e w' ⟨a, b⟩ => ⟨_, a, fun t ht => by rw [ht]; rfl, b⟩
  | dtm =>
    obtain ⟨m, hm⟩ := Option.isSome_iff_exists.1 (show (rdDT s.data.toList).isSome = true from hk)
    have e : ownE .dtm s.data.toList = dtOw ((utM m).sec / 86400) ([84] ++ ckP (utM m).sec (utM m).part ++ (utM m).sp) := by unfold ownE; rw [hm]; rfl
    rw [e]
    exact (ownDateTime_calls s m w hpw hs hm).mono fun e w' h => OwP.dt h
  | dat =>
    obtain ⟨m, hm⟩ := Option.isSome_iff_exists.1 (show (rdDay s.data.toList).isSome = true from hk)
    have e : ownE .dat s.data.toList = dtOw (m.sec / 86400) m.sp := by unfold ownE; rw [hm]; rfl
    rw [e]
    exact (ownDate_calls s m w hpw hs hm).mono fun e w' h => OwP.dt h
  | tim =>
    obtain ⟨m, hm⟩ := Option.isSome_iff_exists.1 (show (rdClk s.data.toList).isSome = true from hk)
    have e : ownE .tim s.data.toList = some (ckP m.sec m.part ++ m.sp) := by unfold ownE; rw [hm]; rfl
    rw [e]
    exact (ownTime_calls s m w hpw hs hm).mono fun e w' h => OwP.of h
  | hex => exact (great_calls s w (by omega)).mono fun e w' h => OwP.of h
  | b64 => exact (same_calls s w).mono fun e w' ⟨a, b⟩ => OwP.of ⟨a, b ▸ Below.refl _ _⟩
  | int lo hi =>
    obtain ⟨n, hn⟩ := witP_int (show witP s.data.toList lo hi = true from hk)
    have e : ownE (.int lo hi) s.data.toList = some (whN n) := by unfold ownE; rw [hn]; rfl
    rw [e]
    exact (ownInteger_calls s n w hs hn).mono fun e w' h => OwP.of h
def canO : Option (List UInt8) → List UInt8 × Int
  | none => ([], 80)
  | some x => if 65536 < x.length then ([], 2) else (x, 0)
/-- What Canonical answers. -/
noncomputable def canE (t s : List UInt8) : List UInt8 × Int := if chkE t s ≠ 0 then ([], chkE t s) else match kdOf t with
  | none => (s, 0)
  | some k => canO (ownE k s)
theorem chkE_zero {t s : List UInt8} (h : chkE t s = 0) : s.length ≤ 65536 ∧ ∀ k, kdOf t = some k → isK k s = true := by
  unfold chkE at h
  split at h
  · cases h
  refine ⟨by omega, fun k hk => ?_⟩
  rw [hk] at h
  dsimp only at h
  split at h
  · assumption
  · cases h
theorem chkE_bd (t s : List UInt8) : 0 ≤ chkE t s ∧ chkE t s ≤ 80 := by
  unfold chkE
  split
  · omega
  split
  · omega
  split <;> omega
set_option maxHeartbeats 1000000 in
theorem canonical_calls (t s : ByteArray) (w : World) (hpw : Pow w) (hs : s.size ≤ 9223372036854775807) : Calls Tryz.prog 15 #[.string t, .string s] w fun e w' => e = .returned (.tuple #[.string ⟨(canE t.data.toList s.data.toList).1.toArray⟩, .int .i64 (canE t.data.toList s.data.toList).2]) ∧ Below w.heap.size w w' := by
  have hl : s.data.toList.length = s.size := (Lib.size_eq s).symm
  have hc := fun w => vcheck_calls t s w hs
  have hbd := chkE_bd t.data.toList s.data.toList
  by_cases hz : chkE t.data.toList s.data.toList ≠ 0
  · have e : canE t.data.toList s.data.toList = ([], chkE t.data.toList s.data.toList) := by unfold canE; rw [if_pos hz]
    rw [e]
    dsimp only
    obtain ⟨c, hcc⟩ : ∃ c, c = chkE t.data.toList s.data.toList := ⟨_, rfl⟩
    rw [← hcc] at hc hz hbd ⊢
    have H := Lib.hid hc
    clear e hl hc hcc hpw
    go_enter Tryz.func15, Tryz.ntmps15
    go_wp2_with (go_at_call 13; (with_reducible refine (H.out _).mono ?_); rintro e w1 ⟨rfl, hb1⟩)
    go_ret2
    exact ⟨rfl, hb1⟩
  have hz0 : chkE t.data.toList s.data.toList = 0 := by omega
  have hck := chkE_zero hz0
  rw [hl] at hck
  have hs2 := hck.1
  rw [hz0] at hc
  have HC := Lib.hid hc
  clear hc hbd
  cases hk : kdOf t.data.toList with
  | none =>
    have e : canE t.data.toList s.data.toList = (s.data.toList, 0) := by unfold canE; rw [if_neg hz, hk]
    rw [e]
    dsimp only
    rw [str_mk]
    have h := fun w => find_none' t w hk
    have H := Lib.hid h
    clear h hk e hl hz hz0 hck hpw
    go_enter Tryz.func15, Tryz.ntmps15
    go_wp2_with (first | (go_at_call 13; (with_reducible refine (HC.out _).mono ?_); rintro e w1 ⟨rfl, hb1⟩) | (go_at_call 24; (with_reducible refine (H.out _).mono ?_); rintro e w2 ⟨rfl, hb2⟩))
    go_ret2
    exact ⟨rfl, (hb1.trans (hb2.mono hb1.size)).trans ((Below.refl _ _).alloc (hb1.trans (hb2.mono hb1.size)).size _)⟩
  | some k =>
    have hki := hck.2 k hk
    have h := fun w => find_some t s k w hs2 hk
    have hcf := enter_ownF k
    have how := fun w hp => own_calls k s w hp hs2 hki
    obtain ⟨o, ho⟩ : ∃ o, o = ownE k s.data.toList := ⟨_, rfl⟩
    have e : canE t.data.toList s.data.toList = canO o := by unfold canE; rw [if_neg hz, hk, ho]
    rw [e]
    rw [← ho] at how
    obtain ⟨F, hF⟩ : ∃ F, F = isF k := ⟨_, rfl⟩
    obtain ⟨G, hG⟩ : ∃ F, F = ownF k := ⟨_, rfl⟩
    obtain ⟨f, hf⟩ : ∃ F, F = famK k := ⟨_, rfl⟩
    have h : ∀ w, Calls Tryz.prog 24 #[.string t] w fun e w' => ∃ caps : Array Value, e = .returned (.tuple #[.agg #[.int .i64 f, .func (.func F) #[] caps, .func (.func G) #[] #[]], .bool true]) ∧ Below w.heap.size w w' := fun w => (h w).mono fun e w' ⟨caps, a, b', c⟩ => ⟨caps, by rw [hF, hG, hf]; exact a, b'⟩
    rw [← hG] at hcf how
    have H := Lib.hid h
    have HP := Lib.hid hpw
    clear h hk hF hG hf e hl hz hz0 hck hpw hki ho
    cases o with
    | none =>
      show Calls _ _ _ _ fun e w' => e = .returned (.tuple #[.string ⟨#[]⟩, .int .i64 80]) ∧ _
      have how : ∀ w, Pow w → Calls Tryz.prog G #[.string s] w fun e w' => ∃ T : ByteArray, e = .returned (.tuple #[.string T, .bool false]) ∧ Below w.heap.size w w' := fun w hp => (how w hp).mono fun e w' ⟨T, a, _, b⟩ => ⟨T, a, b⟩
      have HO := Lib.hid how
      clear how
      go_enter Tryz.func15, Tryz.ntmps15
      go_wp2_with (first | (go_at_call 13; (with_reducible refine (HC.out _).mono ?_); rintro e w1 ⟨rfl, hb1⟩) | (go_at_call 24; (with_reducible refine (H.out _).mono ?_); rintro e w2 ⟨caps, rfl, hb2⟩; (have hb3 := hb1.trans (hb2.mono hb1.size))) | ((with_reducible refine (HO.out _ (HP.out.below (hb3.alloc hb3.size _))).mono ?_); rintro e w4 ⟨T, rfl, hb4⟩))
      go_ret2
      exact ⟨rfl, below_box hb3 _ hb4⟩
    | some x =>
      unfold canO
      dsimp only
      have how : ∀ w, Pow w → Calls Tryz.prog G #[.string s] w fun e w' => e = .returned (.tuple #[.string ⟨x.toArray⟩, .bool true]) ∧ Below w.heap.size w w' := fun w hp => (how w hp).mono fun e w' ⟨T, a, c, b⟩ => ⟨by rw [← c x rfl]; exact a, b⟩
      obtain ⟨T, hT⟩ : ∃ T : ByteArray, T = ⟨x.toArray⟩ := ⟨_, rfl⟩
      have hxl : x.length = T.size := by rw [hT, sz_mk]
      rw [← hT] at how
      rw [hxl]
      have HO := Lib.hid how
      clear how hxl
      by_cases h6 : 65536 < T.size
      · rw [if_pos h6]
        have h6' : (65536 : Int) < (T.size : Int) := by omega
        clear hT h6
        dsimp only
        go_enter Tryz.func15, Tryz.ntmps15
        go_wp2_with (first | (go_at_call 13; (with_reducible refine (HC.out _).mono ?_); rintro e w1 ⟨rfl, hb1⟩) | (go_at_call 24; (with_reducible refine (H.out _).mono ?_); rintro e w2 ⟨caps, rfl, hb2⟩; (have hb3 := hb1.trans (hb2.mono hb1.size))) | ((with_reducible refine (HO.out _ (HP.out.below (hb3.alloc hb3.size _))).mono ?_); rintro e w4 ⟨rfl, hb4⟩))
        go_ret2
        exact ⟨rfl, below_box hb3 _ hb4⟩
      · rw [if_neg h6]
        have h6' : (T.size : Int) ≤ 65536 := by omega
        dsimp only
        rw [← hT]
        clear hT h6
        go_enter Tryz.func15, Tryz.ntmps15
        go_wp2_with (first | (go_at_call 13; (with_reducible refine (HC.out _).mono ?_); rintro e w1 ⟨rfl, hb1⟩) | (go_at_call 24; (with_reducible refine (H.out _).mono ?_); rintro e w2 ⟨caps, rfl, hb2⟩; (have hb3 := hb1.trans (hb2.mono hb1.size))) | ((with_reducible refine (HO.out _ (HP.out.below (hb3.alloc hb3.size _))).mono ?_); rintro e w4 ⟨rfl, hb4⟩))
        go_ret2
        exact ⟨rfl, below_box hb3 _ hb4⟩
end Go.Proofs.YtlhcejbimlilaaaGreatDoor
/- The document's own: walks (written by gen_vff.py). -/
namespace Go.Proofs.YtlhcejbimlilaaaGreatDoor
open Go.RowKit Go.Tk
theorem bel_setRow {B g : Nat} {w x : World} (h : Below B w x) (hg : B ≤ g) (cs : Array Value) : Below B w (x.setRow g cs) :=
  ⟨h.os, h.tape, h.output, by simpa using h.size, fun k hk => (setRow_other _ _ k _ (by omega)).trans (h.block k hk)⟩
theorem own_after (w w2 wx : World) (cs z : Array Value) (h1 : Below w.heap.size w w2) (h2 : Below w2.heap.size w2 wx) : Below w.heap.size w (World.setRow (World.alloc wx (.cells z 69)) wx.heap.size cs) ∧ (World.setRow (World.alloc wx (.cells z 69)) wx.heap.size cs).heap[wx.heap.size]? = some (.cells cs 69 (0, 0)) ∧ Below wx.heap.size wx (World.setRow (World.alloc wx (.cells z 69)) wx.heap.size cs) := by
  have rn := setRow_heap (World.alloc wx (.cells z 69)) wx.heap.size z cs _ _ (heap_alloc_new _ _)
  have hb5 := h1.trans (h2.mono h1.size)
  have ha : Below wx.heap.size wx (World.alloc wx (.cells z 69)) := (Below.refl _ _).alloc (Nat.le_refl _) _
  have hr := bel_setRow ha (Nat.le_refl _) cs
  exact ⟨hb5.trans (hr.mono hb5.size), rn, hr⟩
set_option maxRecDepth 100000 in
set_option maxHeartbeats 4000000 in
theorem own_0 (n lo hi s : ByteArray) (w : World)  :
    Calls Tryz.prog 27 #[.agg #[.string n, .int .i64 0, .string lo, .string hi], .string s] w fun e w' => e = .returned (.tuple #[.string s, .int .i64 0]) ∧ Below w.heap.size w w' := by
  go_enter Tryz.func27, Tryz.ntmps27
  go_upto_region 1 with fail
  obtain ⟨rk, hb⟩ := box1 w (.cells #[.string n, .int .i64 0, .string lo, .string hi] 48)
  generalize World.alloc w _ = w2 at rk hb ⊢
  have k1 := row_cell rk 1
  simp at k1
  have HB := Lib.hid hb
  have RK := Lib.hid rk
  clear rk hb
  go_wp2_with fail
  go_ret2
  exact ⟨rfl, HB.out⟩
set_option maxRecDepth 100000 in
set_option maxHeartbeats 4000000 in
theorem own_1 (n lo hi s : ByteArray) (w : World)  :
    Calls Tryz.prog 27 #[.agg #[.string n, .int .i64 1, .string lo, .string hi], .string s] w fun e w' => e = .returned (.tuple #[.string s, .int .i64 0]) ∧ Below w.heap.size w w' := by
  go_enter Tryz.func27, Tryz.ntmps27
  go_upto_region 1 with fail
  obtain ⟨rk, hb⟩ := box1 w (.cells #[.string n, .int .i64 1, .string lo, .string hi] 48)
  generalize World.alloc w _ = w2 at rk hb ⊢
  have k1 := row_cell rk 1
  simp at k1
  have HB := Lib.hid hb
  have RK := Lib.hid rk
  clear rk hb
  go_wp2_with fail
  go_ret2
  exact ⟨rfl, HB.out⟩
set_option maxRecDepth 100000 in
set_option maxHeartbeats 4000000 in
theorem own_10 (n lo hi s : ByteArray) (w : World)  :
    Calls Tryz.prog 27 #[.agg #[.string n, .int .i64 10, .string lo, .string hi], .string s] w fun e w' => e = .returned (.tuple #[.string s, .int .i64 0]) ∧ Below w.heap.size w w' := by
  go_enter Tryz.func27, Tryz.ntmps27
  go_upto_region 1 with fail
  obtain ⟨rk, hb⟩ := box1 w (.cells #[.string n, .int .i64 10, .string lo, .string hi] 48)
  generalize World.alloc w _ = w2 at rk hb ⊢
  have k1 := row_cell rk 1
  simp at k1
  have HB := Lib.hid hb
  have RK := Lib.hid rk
  clear rk hb
  go_wp2_with fail
  go_ret2
  exact ⟨rfl, HB.out⟩
set_option maxRecDepth 100000 in
set_option maxHeartbeats 4000000 in
theorem own_2a (n lo hi s : ByteArray) (w : World) (hs : s = ⟨#[49]⟩) :
    Calls Tryz.prog 27 #[.agg #[.string n, .int .i64 2, .string lo, .string hi], .string s] w fun e w' => e = .returned (.tuple #[.string ⟨#[116, 114, 117, 101]⟩, .int .i64 0]) ∧ Below w.heap.size w w' := by
  subst hs
  go_enter Tryz.func27, Tryz.ntmps27
  go_upto_region 1 with fail
  obtain ⟨rk, hb⟩ := box1 w (.cells #[.string n, .int .i64 2, .string lo, .string hi] 48)
  generalize World.alloc w _ = w2 at rk hb ⊢
  have k1 := row_cell rk 1
  simp at k1
  have HB := Lib.hid hb
  have RK := Lib.hid rk
  clear rk hb
  go_wp2_with fail
  go_ret2
  exact ⟨rfl, HB.out⟩
set_option maxRecDepth 100000 in
set_option maxHeartbeats 4000000 in
theorem own_2b (n lo hi s : ByteArray) (w : World) (hs : s = ⟨#[116, 114, 117, 101]⟩) :
    Calls Tryz.prog 27 #[.agg #[.string n, .int .i64 2, .string lo, .string hi], .string s] w fun e w' => e = .returned (.tuple #[.string ⟨#[116, 114, 117, 101]⟩, .int .i64 0]) ∧ Below w.heap.size w w' := by
  subst hs
  go_enter Tryz.func27, Tryz.ntmps27
  go_upto_region 1 with fail
  obtain ⟨rk, hb⟩ := box1 w (.cells #[.string n, .int .i64 2, .string lo, .string hi] 48)
  generalize World.alloc w _ = w2 at rk hb ⊢
  have k1 := row_cell rk 1
  simp at k1
  have HB := Lib.hid hb
  have RK := Lib.hid rk
  clear rk hb
  go_wp2_with fail
  go_ret2
  exact ⟨rfl, HB.out⟩
set_option maxRecDepth 100000 in
set_option maxHeartbeats 4000000 in
theorem own_2n (n lo hi s : ByteArray) (w : World) (h1 : (s.toList == [49]) = false) (h2 : (s.toList == [116, 114, 117, 101]) = false) :
    Calls Tryz.prog 27 #[.agg #[.string n, .int .i64 2, .string lo, .string hi], .string s] w fun e w' => e = .returned (.tuple #[.string ⟨#[102, 97, 108, 115, 101]⟩, .int .i64 0]) ∧ Below w.heap.size w w' := by
  go_enter Tryz.func27, Tryz.ntmps27
  go_upto_region 1 with fail
  obtain ⟨rk, hb⟩ := box1 w (.cells #[.string n, .int .i64 2, .string lo, .string hi] 48)
  generalize World.alloc w _ = w2 at rk hb ⊢
  have k1 := row_cell rk 1
  simp at k1
  have HB := Lib.hid hb
  have RK := Lib.hid rk
  clear rk hb
  go_wp2_with fail
  go_ret2
  exact ⟨rfl, HB.out⟩
set_option maxRecDepth 100000 in
set_option maxHeartbeats 4000000 in
theorem own_3 (n lo hi s : ByteArray) (w : World) (b1 b2 b3 b4 : Bool) (D T : ByteArray) (p c : Int) (hd : ∀ w, Calls Tryz.prog 70 #[.string s, .int .i64 0] w fun e w' => e = .returned (.tuple #[.agg #[.bool b1, .bool b2, .bool b3, .string D, .int .i64 p], .bool b4]) ∧ Below w.heap.size w w') (hp : ∀ w, Calls Tryz.prog 74 #[.agg #[.bool b1, .bool b2, .bool b3, .string D, .int .i64 p], .bool true] w fun e w' => e = .returned (.string T) ∧ Below w.heap.size w w') :
    Calls Tryz.prog 27 #[.agg #[.string n, .int .i64 3, .string lo, .string hi], .string s] w fun e w' => e = .returned (.tuple #[.string T, .int .i64 0]) ∧ Below w.heap.size w w' := by
  have HD := Lib.hid hd
  have HP := Lib.hid hp
  clear hd hp
  go_enter Tryz.func27, Tryz.ntmps27
  go_upto_region 1 with fail
  obtain ⟨rk, hb⟩ := box1 w (.cells #[.string n, .int .i64 3, .string lo, .string hi] 48)
  generalize World.alloc w _ = w2 at rk hb ⊢
  have k1 := row_cell rk 1
  simp at k1
  have HB := Lib.hid hb
  have RK := Lib.hid rk
  clear rk hb
  go_upto_region 8 with (go_at_call 70; (with_reducible refine (HD.out _).mono ?_); rintro e w3 ⟨rfl, hb3⟩)
  obtain ⟨r4, hb4⟩ := box1 w3 (.cells #[.bool b1, .bool b2, .bool b3, .string D, .int .i64 p] 61)
  generalize World.alloc w3 _ = w4 at r4 hb4 ⊢
  have c0 := row_cell r4 0
  have c1 := row_cell r4 1
  have c2 := row_cell r4 2
  have c3 := row_cell r4 3
  have c4 := row_cell r4 4
  simp at c0 c1 c2 c3 c4
  have hb5 := HB.out.trans (hb3.mono HB.out.size)
  have hb6 := hb5.trans (hb4.mono hb5.size)
  have HB6 := Lib.hid hb6
  clear r4 hb3 hb4 hb5 hb6 k1
  go_wp2_with (go_at_call 74; (with_reducible refine (HP.out _).mono ?_); rintro e w7 ⟨rfl, hb7⟩)
  go_ret2
  exact ⟨rfl, HB6.out.trans (hb7.mono HB6.out.size)⟩
set_option maxRecDepth 100000 in
set_option maxHeartbeats 4000000 in
theorem own_4 (n lo hi s : ByteArray) (w : World) (b1 b2 b3 b4 : Bool) (D T : ByteArray) (p c : Int) (hd : ∀ w, Calls Tryz.prog 70 #[.string s, .int .i64 0] w fun e w' => e = .returned (.tuple #[.agg #[.bool b1, .bool b2, .bool b3, .string D, .int .i64 p], .bool b4]) ∧ Below w.heap.size w w') (hp : ∀ w, Calls Tryz.prog 74 #[.agg #[.bool b1, .bool b2, .bool b3, .string D, .int .i64 p], .bool false] w fun e w' => e = .returned (.string T) ∧ Below w.heap.size w w') :
    Calls Tryz.prog 27 #[.agg #[.string n, .int .i64 4, .string lo, .string hi], .string s] w fun e w' => e = .returned (.tuple #[.string T, .int .i64 0]) ∧ Below w.heap.size w w' := by
  have HD := Lib.hid hd
  have HP := Lib.hid hp
  clear hd hp
  go_enter Tryz.func27, Tryz.ntmps27
  go_upto_region 1 with fail
  obtain ⟨rk, hb⟩ := box1 w (.cells #[.string n, .int .i64 4, .string lo, .string hi] 48)
  generalize World.alloc w _ = w2 at rk hb ⊢
  have k1 := row_cell rk 1
  simp at k1
  have HB := Lib.hid hb
  have RK := Lib.hid rk
  clear rk hb
  go_upto_region 11 with (go_at_call 70; (with_reducible refine (HD.out _).mono ?_); rintro e w3 ⟨rfl, hb3⟩)
  obtain ⟨r4, hb4⟩ := box1 w3 (.cells #[.bool b1, .bool b2, .bool b3, .string D, .int .i64 p] 61)
  generalize World.alloc w3 _ = w4 at r4 hb4 ⊢
  have c0 := row_cell r4 0
  have c1 := row_cell r4 1
  have c2 := row_cell r4 2
  have c3 := row_cell r4 3
  have c4 := row_cell r4 4
  simp at c0 c1 c2 c3 c4
  have hb5 := HB.out.trans (hb3.mono HB.out.size)
  have hb6 := hb5.trans (hb4.mono hb5.size)
  have HB6 := Lib.hid hb6
  clear r4 hb3 hb4 hb5 hb6 k1
  go_wp2_with (go_at_call 74; (with_reducible refine (HP.out _).mono ?_); rintro e w7 ⟨rfl, hb7⟩)
  go_ret2
  exact ⟨rfl, HB6.out.trans (hb7.mono HB6.out.size)⟩
set_option maxRecDepth 100000 in
set_option maxHeartbeats 4000000 in
theorem own_5 (n lo hi s : ByteArray) (w : World) (b1 b2 b3 b4 : Bool) (D T : ByteArray) (p c : Int) (hd : ∀ w, Calls Tryz.prog 73 #[.string s] w fun e w' => e = .returned (.tuple #[.agg #[.bool b1, .bool b2, .bool b3, .string D, .int .i64 p], .bool b4]) ∧ Below w.heap.size w w') (hp : ∀ w, Calls Tryz.prog 75 #[.agg #[.bool b1, .bool b2, .bool b3, .string D, .int .i64 p]] w fun e w' => e = .returned (.tuple #[.string T, .int .i64 c]) ∧ Below w.heap.size w w') :
    Calls Tryz.prog 27 #[.agg #[.string n, .int .i64 5, .string lo, .string hi], .string s] w fun e w' => e = .returned (.tuple #[.string T, .int .i64 c]) ∧ Below w.heap.size w w' := by
  have HD := Lib.hid hd
  have HP := Lib.hid hp
  clear hd hp
  go_enter Tryz.func27, Tryz.ntmps27
  go_upto_region 1 with fail
  obtain ⟨rk, hb⟩ := box1 w (.cells #[.string n, .int .i64 5, .string lo, .string hi] 48)
  generalize World.alloc w _ = w2 at rk hb ⊢
  have k1 := row_cell rk 1
  simp at k1
  have HB := Lib.hid hb
  have RK := Lib.hid rk
  clear rk hb
  go_upto_region 14 with (go_at_call 73; (with_reducible refine (HD.out _).mono ?_); rintro e w3 ⟨rfl, hb3⟩)
  obtain ⟨r4, hb4⟩ := box1 w3 (.cells #[.bool b1, .bool b2, .bool b3, .string D, .int .i64 p] 61)
  generalize World.alloc w3 _ = w4 at r4 hb4 ⊢
  have c0 := row_cell r4 0
  have c1 := row_cell r4 1
  have c2 := row_cell r4 2
  have c3 := row_cell r4 3
  have c4 := row_cell r4 4
  simp at c0 c1 c2 c3 c4
  have hb5 := HB.out.trans (hb3.mono HB.out.size)
  have hb6 := hb5.trans (hb4.mono hb5.size)
  have HB6 := Lib.hid hb6
  clear r4 hb3 hb4 hb5 hb6 k1
  go_wp2_with (go_at_call 75; (with_reducible refine (HP.out _).mono ?_); rintro e w7 ⟨rfl, hb7⟩)
  go_ret2
  exact ⟨rfl, HB6.out.trans (hb7.mono HB6.out.size)⟩
set_option maxRecDepth 100000 in
set_option maxHeartbeats 4000000 in
theorem own_6 (n lo hi s : ByteArray) (w : World) (P : Mo8 → Prop) (Q : ByteArray → Int → Prop) (hd : ∀ w, Calls Tryz.prog 44 #[.string s, .int .i64 6] w fun e w' => ∃ mm : Mo8, e = .returned (.tuple #[.agg mm.cells, .bool true]) ∧ Below w.heap.size w w' ∧ P mm) (hp : ∀ mm, P mm → ∀ w, Calls Tryz.prog 76 #[.agg mm.cells, .int .i64 6] w fun e w' => ∃ (T : ByteArray) (c : Int), e = .returned (.tuple #[.string T, .int .i64 c]) ∧ Q T c ∧ Below w.heap.size w w') :
    Calls Tryz.prog 27 #[.agg #[.string n, .int .i64 6, .string lo, .string hi], .string s] w fun e w' => ∃ (T : ByteArray) (c : Int), e = .returned (.tuple #[.string T, .int .i64 c]) ∧ Q T c ∧ Below w.heap.size w w' := by
  have HD := Lib.hid hd
  have HP := Lib.hid hp
  clear hd hp
  go_enter Tryz.func27, Tryz.ntmps27
  go_upto_region 1 with fail
  obtain ⟨rk, hb⟩ := box1 w (.cells #[.string n, .int .i64 6, .string lo, .string hi] 48)
  generalize World.alloc w _ = w2 at rk hb ⊢
  have k1 := row_cell rk 1
  simp at k1
  have HB := Lib.hid hb
  have RK := Lib.hid rk
  clear rk hb
  have hi9 : ∀ mm : Mo8, (Tryz.prog.info? 69).map (·.size) = some mm.cells.size := fun mm => by kernel_rfl
  have one : ∀ mm : Mo8, mm.cells.all (·.oneCell') = true := fun mm => by simp [Mo8.cells, Value.oneCell']
  have HI := Lib.hid hi9
  have ONE := Lib.hid one
  clear hi9 one
  go_wp2_with (first | (go_at_call 44; (with_reducible refine (HD.out _).mono ?_); rintro e wx ⟨mm, rfl, hbx, hP⟩; (have HPX := Lib.hid hP); (have HBX := Lib.hid hbx); (have kx := (hbx.cell (p := ⟨w.heap.size, 1, none⟩) (block_lt_of_cell k1)).trans k1); clear hP hbx k1) | (refine wpList_store_row rfl 69 _ _ rfl wx.heap.size mm.cells rfl rfl _ _ (heap_alloc_new _ _) (HI.out mm) rfl (ONE.out mm) ?_; (have hq3 := own_after w w2 wx mm.cells #[.int .i64 0, .int .i64 0, .int .i64 0, .int .i64 0, .int .i64 0, .int .i64 0, .string ⟨#[]⟩, .bool false, .int .i64 0] (HB.out) (HBX.out)); (generalize World.setRow _ _ _ = w6 at hq3 ⊢); (have HB6 := Lib.hid hq3.1); (have RN : Hid (w6.heap[wx.heap.size]? = some (.cells mm.cells 69 (0, 0))) := Lib.hid hq3.2.1); (have ky := (hq3.2.2.cell (p := ⟨w.heap.size, 1, none⟩) (block_lt_of_cell kx)).trans kx); clear hq3 kx) | (refine wpList_load_row rfl 69 _ rfl wx.heap.size rfl _ mm.cells _ _ RN.out Tryz.underlying69 rfl (HI.out mm) ?_) | (go_at_call 76; (with_reducible refine (HP.out _ HPX.out _).mono ?_); rintro e w7 ⟨T, c, rfl, hq, hb7⟩))
  go_ret2
  exact ⟨T, c, rfl, hq, HB6.out.trans (hb7.mono HB6.out.size)⟩
set_option maxRecDepth 100000 in
set_option maxHeartbeats 4000000 in
theorem own_7 (n lo hi s : ByteArray) (w : World) (P : Mo8 → Prop) (Q : ByteArray → Int → Prop) (hd : ∀ w, Calls Tryz.prog 44 #[.string s, .int .i64 7] w fun e w' => ∃ mm : Mo8, e = .returned (.tuple #[.agg mm.cells, .bool true]) ∧ Below w.heap.size w w' ∧ P mm) (hp : ∀ mm, P mm → ∀ w, Calls Tryz.prog 76 #[.agg mm.cells, .int .i64 7] w fun e w' => ∃ (T : ByteArray) (c : Int), e = .returned (.tuple #[.string T, .int .i64 c]) ∧ Q T c ∧ Below w.heap.size w w') :
    Calls Tryz.prog 27 #[.agg #[.string n, .int .i64 7, .string lo, .string hi], .string s] w fun e w' => ∃ (T : ByteArray) (c : Int), e = .returned (.tuple #[.string T, .int .i64 c]) ∧ Q T c ∧ Below w.heap.size w w' := by
  have HD := Lib.hid hd
  have HP := Lib.hid hp
  clear hd hp
  go_enter Tryz.func27, Tryz.ntmps27
  go_upto_region 1 with fail
  obtain ⟨rk, hb⟩ := box1 w (.cells #[.string n, .int .i64 7, .string lo, .string hi] 48)
  generalize World.alloc w _ = w2 at rk hb ⊢
  have k1 := row_cell rk 1
  simp at k1
  have HB := Lib.hid hb
  have RK := Lib.hid rk
  clear rk hb
  have hi9 : ∀ mm : Mo8, (Tryz.prog.info? 69).map (·.size) = some mm.cells.size := fun mm => by kernel_rfl
  have one : ∀ mm : Mo8, mm.cells.all (·.oneCell') = true := fun mm => by simp [Mo8.cells, Value.oneCell']
  have HI := Lib.hid hi9
  have ONE := Lib.hid one
  clear hi9 one
  go_wp2_with (first | (go_at_call 44; (with_reducible refine (HD.out _).mono ?_); rintro e wx ⟨mm, rfl, hbx, hP⟩; (have HPX := Lib.hid hP); (have HBX := Lib.hid hbx); (have kx := (hbx.cell (p := ⟨w.heap.size, 1, none⟩) (block_lt_of_cell k1)).trans k1); clear hP hbx k1) | (refine wpList_store_row rfl 69 _ _ rfl wx.heap.size mm.cells rfl rfl _ _ (heap_alloc_new _ _) (HI.out mm) rfl (ONE.out mm) ?_; (have hq3 := own_after w w2 wx mm.cells #[.int .i64 0, .int .i64 0, .int .i64 0, .int .i64 0, .int .i64 0, .int .i64 0, .string ⟨#[]⟩, .bool false, .int .i64 0] (HB.out) (HBX.out)); (generalize World.setRow _ _ _ = w6 at hq3 ⊢); (have HB6 := Lib.hid hq3.1); (have RN : Hid (w6.heap[wx.heap.size]? = some (.cells mm.cells 69 (0, 0))) := Lib.hid hq3.2.1); (have ky := (hq3.2.2.cell (p := ⟨w.heap.size, 1, none⟩) (block_lt_of_cell kx)).trans kx); clear hq3 kx) | (refine wpList_load_row rfl 69 _ rfl wx.heap.size rfl _ mm.cells _ _ RN.out Tryz.underlying69 rfl (HI.out mm) ?_) | (go_at_call 76; (with_reducible refine (HP.out _ HPX.out _).mono ?_); rintro e w7 ⟨T, c, rfl, hq, hb7⟩))
  go_ret2
  exact ⟨T, c, rfl, hq, HB6.out.trans (hb7.mono HB6.out.size)⟩
set_option maxRecDepth 100000 in
set_option maxHeartbeats 4000000 in
theorem own_8 (n lo hi s : ByteArray) (w : World) (P : Mo8 → Prop) (Q : ByteArray → Int → Prop) (hd : ∀ w, Calls Tryz.prog 44 #[.string s, .int .i64 8] w fun e w' => ∃ mm : Mo8, e = .returned (.tuple #[.agg mm.cells, .bool true]) ∧ Below w.heap.size w w' ∧ P mm) (hp : ∀ mm, P mm → ∀ w, Calls Tryz.prog 76 #[.agg mm.cells, .int .i64 8] w fun e w' => ∃ (T : ByteArray) (c : Int), e = .returned (.tuple #[.string T, .int .i64 c]) ∧ Q T c ∧ Below w.heap.size w w') :
    Calls Tryz.prog 27 #[.agg #[.string n, .int .i64 8, .string lo, .string hi], .string s] w fun e w' => ∃ (T : ByteArray) (c : Int), e = .returned (.tuple #[.string T, .int .i64 c]) ∧ Q T c ∧ Below w.heap.size w w' := by
  have HD := Lib.hid hd
  have HP := Lib.hid hp
  clear hd hp
  go_enter Tryz.func27, Tryz.ntmps27
  go_upto_region 1 with fail
  obtain ⟨rk, hb⟩ := box1 w (.cells #[.string n, .int .i64 8, .string lo, .string hi] 48)
  generalize World.alloc w _ = w2 at rk hb ⊢
  have k1 := row_cell rk 1
  simp at k1
  have HB := Lib.hid hb
  have RK := Lib.hid rk
  clear rk hb
  have hi9 : ∀ mm : Mo8, (Tryz.prog.info? 69).map (·.size) = some mm.cells.size := fun mm => by kernel_rfl
  have one : ∀ mm : Mo8, mm.cells.all (·.oneCell') = true := fun mm => by simp [Mo8.cells, Value.oneCell']
  have HI := Lib.hid hi9
  have ONE := Lib.hid one
  clear hi9 one
  go_wp2_with (first | (go_at_call 44; (with_reducible refine (HD.out _).mono ?_); rintro e wx ⟨mm, rfl, hbx, hP⟩; (have HPX := Lib.hid hP); (have HBX := Lib.hid hbx); (have kx := (hbx.cell (p := ⟨w.heap.size, 1, none⟩) (block_lt_of_cell k1)).trans k1); clear hP hbx k1) | (refine wpList_store_row rfl 69 _ _ rfl wx.heap.size mm.cells rfl rfl _ _ (heap_alloc_new _ _) (HI.out mm) rfl (ONE.out mm) ?_; (have hq3 := own_after w w2 wx mm.cells #[.int .i64 0, .int .i64 0, .int .i64 0, .int .i64 0, .int .i64 0, .int .i64 0, .string ⟨#[]⟩, .bool false, .int .i64 0] (HB.out) (HBX.out)); (generalize World.setRow _ _ _ = w6 at hq3 ⊢); (have HB6 := Lib.hid hq3.1); (have RN : Hid (w6.heap[wx.heap.size]? = some (.cells mm.cells 69 (0, 0))) := Lib.hid hq3.2.1); (have ky := (hq3.2.2.cell (p := ⟨w.heap.size, 1, none⟩) (block_lt_of_cell kx)).trans kx); clear hq3 kx) | (refine wpList_load_row rfl 69 _ rfl wx.heap.size rfl _ mm.cells _ _ RN.out Tryz.underlying69 rfl (HI.out mm) ?_) | (go_at_call 76; (with_reducible refine (HP.out _ HPX.out _).mono ?_); rintro e w7 ⟨T, c, rfl, hq, hb7⟩))
  go_ret2
  exact ⟨T, c, rfl, hq, HB6.out.trans (hb7.mono HB6.out.size)⟩
set_option maxRecDepth 100000 in
set_option maxHeartbeats 4000000 in
theorem own_9 (n lo hi s : ByteArray) (w : World) (T : ByteArray) (hg : ∀ w, Calls Tryz.prog 77 #[.string s] w fun e w' => e = .returned (.string T) ∧ Below w.heap.size w w') :
    Calls Tryz.prog 27 #[.agg #[.string n, .int .i64 9, .string lo, .string hi], .string s] w fun e w' => e = .returned (.tuple #[.string T, .int .i64 0]) ∧ Below w.heap.size w w' := by
  have HG := Lib.hid hg
  clear hg
  go_enter Tryz.func27, Tryz.ntmps27
  go_upto_region 1 with fail
  obtain ⟨rk, hb⟩ := box1 w (.cells #[.string n, .int .i64 9, .string lo, .string hi] 48)
  generalize World.alloc w _ = w2 at rk hb ⊢
  have k1 := row_cell rk 1
  simp at k1
  have HB := Lib.hid hb
  have RK := Lib.hid rk
  clear rk hb
  go_wp2_with (go_at_call 77; (with_reducible refine (HG.out _).mono ?_); rintro e w3 ⟨rfl, hb3⟩)
  go_ret2
  exact ⟨rfl, HB.out.trans (hb3.mono HB.out.size)⟩
end Go.Proofs.YtlhcejbimlilaaaGreatDoor
/- What the document writes is what the program writes: plain laws. -/
namespace Go.Tk
open Go Go.RowKit
theorem orZ_ne {l : List UInt8} (h : l ≠ []) : orZ l = l := by unfold orZ; rw [if_neg h]
theorem rep0_ne {k : Nat} (h : 0 < k) : rep0 k ≠ [] := by
  intro e
  have := congrArg List.length e
  rw [rep0_len] at this
  simp at this
  omega
theorem plV_plN {n : Nm} (h : NF n) : plV n.below n.dg n.pw true = plN n := by
  unfold plV plN
  rw [if_pos rfl]
  have e1 : orZ (whA n.dg n.pw) = plW n := by
    unfold whA plW
    by_cases hd : n.dg = []
    · have hz := h.z hd
      rw [hz]; rfl
    · by_cases c1 : n.pw ≤ 0
      · simp only [if_neg hd, if_pos c1]; rfl
      · by_cases c2 : (n.dg.length : Int) ≤ n.pw
        · simp only [if_neg hd, if_neg c1, if_pos c2]; exact orZ_ne (by simp [hd])
        · simp only [if_neg hd, if_neg c1, if_neg c2]
          refine orZ_ne fun e => ?_
          have := congrArg List.length e
          have hl : 0 < n.dg.length := List.length_pos_iff.2 hd
          rw [List.length_take, List.length_nil] at this
          omega
  have e2 : orZ (whB8 n.dg n.pw) = plF n := by
    unfold whB8 plF
    by_cases hd : n.dg = []
    · have hz := h.z hd
      rw [hz]; rfl
    · by_cases c1 : n.pw ≤ 0
      · simp only [if_neg hd, if_pos c1]; exact orZ_ne (by simp [hd])
      · by_cases c2 : (n.dg.length : Int) ≤ n.pw
        · simp only [if_neg hd, if_neg c1, if_pos c2]; rfl
        · simp only [if_neg hd, if_neg c1, if_neg c2]
          refine orZ_ne fun e => ?_
          have := congrArg List.length e
          rw [List.length_drop, List.length_nil] at this
          omega
  rw [e1, e2]
  simp
theorem plV_whN {n : Nm} (h : NF n) (hi : n.dg ≠ [] → (n.dg.length : Int) ≤ n.pw) : plV n.below n.dg n.pw false = whN n := by
  unfold plV whN
  by_cases hd : n.dg = []
  · have hz := h.z hd
    rw [hz]; rfl
  · have c2 := hi hd
    have hl : 0 < n.dg.length := List.length_pos_iff.2 hd
    have e : orZ (whA n.dg n.pw) = n.dg ++ rep0 (n.pw - n.dg.length).toNat := by
      unfold whA
      rw [if_neg (by omega), if_pos c2, orZ_ne (by simp [hd])]
    simp only [if_neg hd, e]
    simp
theorem scV_eq (b1 b2 b3 : Bool) (D : List UInt8) (p : Int) {n : Nm} (h1 : b1 = n.nan) (h2 : b2 = decide (n.inf ≠ 0)) (h3 : b3 = (n.below || decide (n.inf < 0))) (h4 : D = n.dg) (h5 : p = n.pw) (hb : n.inf ≠ 0 → n.below = false) :
    scV b1 b2 b3 D p = match scN n with | none => ([], 80) | some t => (t, 0) := by
  subst h4 h5
  unfold scV scN
  by_cases c1 : n.nan = true
  · simp only [h1, c1, if_pos]
  · have c1' : ¬ b1 = true := by rw [h1]; exact c1
    by_cases c2 : n.inf = 0
    · have d1 : ¬ 0 < n.inf := by omega
      have d2 : ¬ n.inf < 0 := by omega
      have d3 : ¬ b2 = true := by rw [h2]; simp [c2]
      have d4 : b3 = n.below := by rw [h3, decide_eq_false d2]; simp
      by_cases c3 : n.dg = []
      · simp only [if_neg c1, if_neg c1', if_neg d1, if_neg d2, if_neg d3, if_pos c3]
      · by_cases c4 : 999999999 < n.pw - 1 ∨ n.pw - 1 < -999999999
        · simp only [if_neg c1, if_neg c1', if_neg d1, if_neg d2, if_neg d3, if_neg c3, if_pos c4]
        · simp only [if_neg c1, if_neg c1', if_neg d1, if_neg d2, if_neg d3, if_neg c3, if_neg c4, d4]
          unfold orZ
          simp only [List.append_assoc]
    · have d3 : b2 = true := by rw [h2]; simp [c2]
      have hbl := hb c2
      by_cases c3 : 0 < n.inf
      · have d4 : ¬ b3 = true := by rw [h3, hbl, decide_eq_false (by omega)]; simp
        simp only [if_neg c1, if_neg c1', if_pos c3, if_pos d3, if_neg d4]
        rfl
      · have d2 : n.inf < 0 := by omega
        have d4 : b3 = true := by rw [h3, hbl, decide_eq_true d2]; rfl
        simp only [if_neg c1, if_neg c1', if_neg c3, if_pos d2, if_pos d3, if_pos d4]
        rfl
theorem yrT_dt (y m d : Int) : dtP y m d = yrT y ++ [45] ++ pdP m 2 ++ [45] ++ pdP d 2 := by
  unfold dtP yrT
  by_cases c : y < 0
  · rw [if_pos c, if_pos c, if_pos c]; simp
  · rw [if_neg c, if_neg c, if_neg c]; simp
theorem sp_ut {zt : List UInt8} {z : Bool} {o sec : Int} {p : List UInt8} (h : rdZ zt = some (z, o)) :
    (utM ⟨sec, p, z, o, if z = true ∧ o = 0 then [90] else zt⟩).sp = znT z 0 := by
  have e := znT_of h
  unfold utM
  dsimp only
  cases z with
  | true => rw [if_pos rfl]; rfl
  | false =>
    rw [if_neg (by simp)]
    rw [e]; rfl
theorem hexP_low {s : List UInt8} (h : (hexP (gtP s)).isSome = true) : ∀ c ∈ s, 97 ≤ c.toNat → c.toNat ≤ 122 := by
  have key : ∀ c : UInt8, 0 ≤ hxV (gtC c) → 97 ≤ c.toNat → c.toNat ≤ 122 := by
    have : ∀ n : Fin 256, 0 ≤ hxV (gtC (UInt8.ofNat n.val)) → 97 ≤ (UInt8.ofNat n.val).toNat → (UInt8.ofNat n.val).toNat ≤ 122 := by decide +kernel
    intro c
    have := this ⟨c.toNat, UInt8.toNat_lt c⟩
    rw [UInt8.ofNat_toNat] at this
    exact this
  intro c hc h97
  refine key c ?_ h97
  have h2 : (gtP s).all (fun c => decide (0 ≤ hxV c)) = true := by rw [hexP_some, Bool.and_eq_true] at h; exact h.1
  have := List.all_eq_true.1 h2 (gtC c) (List.mem_map_of_mem hc)
  exact of_decide_eq_true this
end Go.Tk
/- The document's own, whole. -/
namespace Go.Proofs.YtlhcejbimlilaaaGreatDoor
open Go.RowKit Go.Tk
/-- How the document's own answers. -/
def OwnR (o : Option (List UInt8)) (w : World) (e : Ending) (w' : World) : Prop := ∃ (T : ByteArray) (c : Int), e = .returned (.tuple #[.string T, .int .i64 c]) ∧ (o = none → c = 80) ∧ (∀ t, o = some t → c = 0 ∧ T.data.toList = t) ∧ Below w.heap.size w w'
theorem OwnR.of {t : List UInt8} {T : ByteArray} {w : World} {e : Ending} {w' : World} (h : e = .returned (.tuple #[.string T, .int .i64 0]) ∧ Below w.heap.size w w') (ht : T.data.toList = t) : OwnR (some t) w e w' :=
  ⟨T, 0, h.1, (fun h => by cases h), (fun t' h' => ⟨rfl, by rw [ht]; exact Option.some.inj h'⟩), h.2⟩
noncomputable def owO (o : Option Kd) (s : List UInt8) : Option (List UInt8) := match o with
  | none => some s
  | some k => ownE k s
/-- The document's scaled. -/
theorem rscaled_calls (b1 b2 b3 : Bool) (D : ByteArray) (p : Int) (w : World) (hD : D.size ≤ 200000) (hp0 : -1000200000 ≤ p) (hp1 : p ≤ 1000200000) :
    Calls Tryz.prog 75 #[.agg #[.bool b1, .bool b2, .bool b3, .string D, .int .i64 p]] w fun e w' => e = .returned (.tuple #[.string ⟨(scV b1 b2 b3 D.data.toList p).1.toArray⟩, .int .i64 (scV b1 b2 b3 D.data.toList p).2]) ∧ Below w.heap.size w w' := by
  cases b1 with
  | true =>
    have e : scV true b2 b3 D.data.toList p = ([78, 97, 78], 0) := rfl
    rw [e]
    cases b3
    · exact sc_nan_false D _ p _ w b2 rfl rfl
    · exact sc_nan_true D _ p _ w b2 rfl rfl
  | false =>
  cases b2 with
  | true =>
    cases b3
    · exact sc_inf_false D _ p _ w rfl rfl
    · exact sc_inf_true D _ p _ w rfl rfl
  | false =>
  by_cases hd : D.data.toList = []
  · have e : scV false false b3 D.data.toList p = ([48, 46, 48, 69, 48], 0) := by unfold scV; rw [if_neg (by simp), if_neg (by simp), if_pos hd]
    rw [e]
    have hb : (D.toList == []) = true := by rw [Lib.toList_data, hd]; rfl
    cases b3
    · exact sc_zero_false D _ p _ w rfl rfl hb
    · exact sc_zero_true D _ p _ w rfl rfl hb
  have hb : (D.toList == []) = false := by rw [Lib.toList_data]; exact beq_false_of_ne hd
  have h1 : 1 ≤ D.size := by rw [Lib.size_eq]; exact List.length_pos_iff.2 hd
  obtain ⟨X, hX⟩ : ∃ X, D.extract 1 D.size = X := ⟨_, rfl⟩
  obtain ⟨Y, hY⟩ : ∃ X, D.extract 0 1 = X := ⟨_, rfl⟩
  have hXd : X.data.toList = D.data.toList.drop 1 := by rw [← hX, ex_drop]
  have hYd : Y.data.toList = D.data.toList.take 1 := by rw [← hY, Lib.extract_eq]; simp
  have hl : D.data.toList.length = D.size := (Lib.size_eq D).symm
  have hXs : X.size ≤ 200000 := by rw [Lib.size_eq, hXd, List.length_drop]; omega
  have hYs : Y.size ≤ 1 := by rw [Lib.size_eq, hYd, List.length_take]; omega
  obtain ⟨xe, hxe⟩ : ∃ xe, (X.toList == []) = xe := ⟨_, rfl⟩
  by_cases hf : 999999999 < p - 1 ∨ p - 1 < -999999999
  · have e : scV false false b3 D.data.toList p = ([], 80) := by unfold scV; rw [if_neg (by simp), if_neg (by simp), if_neg hd, if_pos hf]
    rw [e]
    cases b3 <;> cases xe
    · exact sc_far_false_false D _ p _ w X Y hX hY h1 hD hXs hYs hb hxe hp0 hp1 rfl rfl hf
    · exact sc_far_false_true D _ p _ w X Y hX hY h1 hD hXs hYs hb hxe hp0 hp1 rfl rfl hf
    · exact sc_far_true_false D _ p _ w X Y hX hY h1 hD hXs hYs hb hxe hp0 hp1 rfl rfl hf
    · exact sc_far_true_true D _ p _ w X Y hX hY h1 hD hXs hYs hb hxe hp0 hp1 rfl rfl hf
  · have e : scV false false b3 D.data.toList p = ((if b3 = true then [45] else []) ++ D.data.toList.take 1 ++ [46] ++ orZ (D.data.toList.drop 1) ++ [69] ++ Lib.itoa (p - 1), 0) := by unfold scV; rw [if_neg (by simp), if_neg (by simp), if_neg hd, if_neg hf]
    rw [e, ← hXd, ← hYd]
    dsimp only
    have hf1 : p - 1 ≤ 999999999 := by omega
    have hf2 : -999999999 ≤ p - 1 := by omega
    have ho : xe = true → orZ X.data.toList = [48] := fun h => by rw [h, Lib.toList_data] at hxe; rw [beq_iff_eq.1 hxe]; rfl
    have ho2 : xe = false → orZ X.data.toList = X.data.toList := fun h => by rw [h, Lib.toList_data] at hxe; exact orZ_ne (by simpa using hxe)
    by_cases hn : p - 1 < 0
    · obtain ⟨E, Es, Ed, Ec⟩ := dg_let (-(p - 1)) 1 (by omega) (by omega) (by omega) (by omega)
      rw [itoa_ng _ hn, ← itoa_pd _ (by omega), ← Ed]
      cases b3 <;> cases xe
      · exact sc_num_false_false_neg D _ p _ w X Y hX hY h1 hD hXs hYs hb hxe hp0 hp1 E Es Ec (by rw [ho2 rfl]; simp) rfl hn hf1 hf2
      · exact sc_num_false_true_neg D _ p _ w X Y hX hY h1 hD hXs hYs hb hxe hp0 hp1 E Es Ec (by rw [ho rfl]; simp) rfl hn hf1 hf2
      · exact sc_num_true_false_neg D _ p _ w X Y hX hY h1 hD hXs hYs hb hxe hp0 hp1 E Es Ec (by rw [ho2 rfl]; simp) rfl hn hf1 hf2
      · exact sc_num_true_true_neg D _ p _ w X Y hX hY h1 hD hXs hYs hb hxe hp0 hp1 E Es Ec (by rw [ho rfl]; simp) rfl hn hf1 hf2
    · obtain ⟨E, Es, Ed, Ec⟩ := dg_let (p - 1) 1 (by omega) (by omega) (by omega) (by omega)
      rw [← itoa_pd _ (by omega), ← Ed]
      cases b3 <;> cases xe
      · exact sc_num_false_false_pos D _ p _ w X Y hX hY h1 hD hXs hYs hb hxe hp0 hp1 E Es Ec (by rw [ho2 rfl]; simp) rfl (by omega) hf1 hf2
      · exact sc_num_false_true_pos D _ p _ w X Y hX hY h1 hD hXs hYs hb hxe hp0 hp1 E Es Ec (by rw [ho rfl]; simp) rfl (by omega) hf1 hf2
      · exact sc_num_true_false_pos D _ p _ w X Y hX hY h1 hD hXs hYs hb hxe hp0 hp1 E Es Ec (by rw [ho2 rfl]; simp) rfl (by omega) hf1 hf2
      · exact sc_num_true_true_pos D _ p _ w X Y hX hY h1 hD hXs hYs hb hxe hp0 hp1 E Es Ec (by rw [ho rfl]; simp) rfl (by omega) hf1 hf2
theorem mo_ok {m : Mo8} {r zt l : List UInt8} (hy : rdY l = some (m.y, m.mo, m.d, r)) (h1 : 0 ≤ m.h ∧ m.h ≤ 24 ∧ 0 ≤ m.mi ∧ m.mi ≤ 59 ∧ 0 ≤ m.s ∧ m.s ≤ 59) (hf : m.f.size ≤ 65536) (hz : rdZ zt = some (m.z, m.o)) : m.Ok ∧ IsDate (dyP m.y m.mo m.d) m.y m.mo m.d ∧ -1000000000 ≤ m.y ∧ m.y ≤ 1000000000 := by
  obtain ⟨⟨y0, y1⟩, ⟨m1, m2⟩, ⟨d1, d2⟩, _⟩ := rdY_bd hy
  obtain ⟨o0, o1, _⟩ := rdZ_rng8 hz
  have hb := mdP_bd m.y m.mo
  obtain ⟨a1, a2, a3, a4, a5, a6⟩ := h1
  exact ⟨⟨by omega, by omega, by omega, m2, by omega, by omega, a1, a2, a3, a4, a5, a6, hf, o0, o1⟩, ⟨m1, m2, d1, d2, rfl⟩, by omega, by omega⟩
theorem dt_own {s : List UInt8} {m : Mo8} (h : RkDT s m) {n' y mo d q : Int} (hd : IsDate n' y mo d) (q0 : 0 ≤ q) (q1 : q < 1440) (hq : n' * 1440 + q = dyP m.y m.mo m.d * 1440 + (60 * m.h + m.mi - m.o)) :
    ownE .dtm s = if (if y < 0 then -y else y) ≤ 999999999 then some (yrT y ++ [45] ++ pdP mo 2 ++ [45] ++ pdP d 2 ++ [84] ++ tmT (q / 60) (q % 60) m.s m.f.data.toList ++ znT m.z 0) else none := by
  obtain ⟨r, zt, hy, hp, ⟨ht, h0, h1, mi0, mi1, s0, s1, _⟩, hz⟩ := h
  have e : rdDT s = some ⟨dyP m.y m.mo m.d * 86400 + (m.h * 3600 + m.mi * 60 + m.s), m.f.data.toList, m.z, m.o, if m.z = true ∧ m.o = 0 then [90] else zt⟩ := by
    unfold rdDT
    rw [dt_some hy]
    dsimp only
    rw [if_pos hp, ht]
    dsimp only
    unfold inP
    rw [hz]
    rfl
  unfold ownE
  rw [e]
  show dtOw _ _ = _
  rw [sp_ut hz]
  have hsec : (utM ⟨dyP m.y m.mo m.d * 86400 + (m.h * 3600 + m.mi * 60 + m.s), m.f.data.toList, m.z, m.o, if m.z = true ∧ m.o = 0 then [90] else zt⟩).sec = n' * 86400 + (q / 60 * 3600 + q % 60 * 60 + m.s) := by
    show dyP m.y m.mo m.d * 86400 + (m.h * 3600 + m.mi * 60 + m.s) - 60 * m.o = _
    omega
  have hpart : (utM ⟨dyP m.y m.mo m.d * 86400 + (m.h * 3600 + m.mi * 60 + m.s), m.f.data.toList, m.z, m.o, if m.z = true ∧ m.o = 0 then [90] else zt⟩).part = m.f.data.toList := rfl
  rw [hsec, hpart, tmT_ck (by omega) (by omega) (by omega) (by omega) s0 (by omega), show (n' * 86400 + (q / 60 * 3600 + q % 60 * 60 + m.s)) / 86400 = n' by omega]
  unfold dtOw
  rw [dateF_eq hd, ← List.append_assoc, ← List.append_assoc]
  dsimp only
  rw [yrT_dt]
theorem day_own {s : List UInt8} {m : Mo8} (h : RkDay s m) : ownE .dat s = some (m.dtx ++ m.ztx) := by
  obtain ⟨zt, hy, hz, _⟩ := h
  obtain ⟨⟨y0, y1⟩, ⟨m1, m2⟩, ⟨d1, d2⟩, _⟩ := rdY_bd hy
  have e : rdDay s = some ⟨dyP m.y m.mo m.d * 86400, [], m.z, m.o, if m.z = true ∧ m.o = 0 then [90] else zt⟩ := by
    unfold rdDay
    rw [dt_some hy]
    dsimp only
    unfold inP
    rw [hz]
    rfl
  unfold ownE
  rw [e]
  show dtOw (dyP m.y m.mo m.d * 86400 / 86400) (if m.z = true ∧ m.o = 0 then [90] else zt) = _
  rw [znT_of hz, show dyP m.y m.mo m.d * 86400 / 86400 = dyP m.y m.mo m.d by omega]
  unfold dtOw
  rw [dateF_eq ⟨m1, m2, d1, d2, rfl⟩]
  dsimp only
  rw [if_pos (by split <;> omega), yrT_dt]
  rfl
theorem clk_own {s : List UInt8} {m : Mo8} (h : RkClk s m) : ownE .tim s = some (tmT (if m.h = 24 then 0 else m.h) m.mi m.s m.f.data.toList ++ m.ztx) := by
  obtain ⟨zt, ⟨ht, h0, h1, mi0, mi1, s0, s1, h24⟩, hz, _⟩ := h
  have e : rdClk s = some ⟨(m.h * 3600 + m.mi * 60 + m.s) % 86400, m.f.data.toList, m.z, m.o, if m.z = true ∧ m.o = 0 then [90] else zt⟩ := by
    unfold rdClk
    rw [ht]
    dsimp only
    unfold inP
    rw [hz]
    rfl
  unfold ownE
  rw [e]
  show some (ckP ((m.h * 3600 + m.mi * 60 + m.s) % 86400) m.f.data.toList ++ (if m.z = true ∧ m.o = 0 then [90] else zt)) = _
  rw [znT_of hz]
  have hh : (if m.h = 24 then 0 else m.h) < 24 := by split <;> omega
  have hh0 : 0 ≤ (if m.h = 24 then 0 else m.h) := by split <;> omega
  have hc : (m.h * 3600 + m.mi * 60 + m.s) % 86400 = 0 * 86400 + ((if m.h = 24 then 0 else m.h) * 3600 + m.mi * 60 + m.s) := by
    split
    · rename_i c
      obtain ⟨a, b, _⟩ := h24 c
      omega
    · omega
  rw [hc, tmT_ck hh0 hh mi0 (by omega) s0 (by omega)]
  rfl
theorem re_some {ok : Bool} {P : Mo8 → Prop} {F : Nat} {args : Array Value} (h : ∀ w, Calls Tryz.prog F args w (RePost ok P w)) (hk : ok = true) : ∀ w, Calls Tryz.prog F args w fun e w' => ∃ mm : Mo8, e = .returned (.tuple #[.agg mm.cells, .bool true]) ∧ Below w.heap.size w w' ∧ P mm := fun w =>
  (h w).mono fun e w' ⟨m, h1, h2, h3⟩ => ⟨m, by rw [h1, hk], h2, h3 hk⟩
theorem f_le {l p z : List UInt8} {c : Int} {F : ByteArray} (h : rdT l = some (c, F.data.toList, z)) (hl : l.length ≤ 65536) : F.size ≤ 65536 := by
  have := (rdT_bd h).2.1
  rw [Lib.size_eq]; omega
/-- The document's own. -/
theorem rown_calls {t : List UInt8} (o : Option Kd) (ho : kdOf t = o) (nm s : ByteArray) (w : World) (hs : s.size ≤ 65536) (hk : isO o s.data.toList = true) :
    Calls Tryz.prog 27 #[.agg #[.string nm, .int .i64 (lkO o), .string ⟨(loO o).toArray⟩, .string ⟨(hiO o).toArray⟩], .string s] w (OwnR (owO o s.data.toList) w) := by
  have hl : s.data.toList.length ≤ 65536 := by rw [← Lib.size_eq]; exact hs
  cases o with
  | none => exact (own_0 nm _ _ s w).mono fun e w' h => OwnR.of h rfl
  | some k =>
    cases k with
    | str => exact (own_1 nm _ _ s w).mono fun e w' h => OwnR.of h rfl
    | b64 => exact (own_10 nm _ _ s w).mono fun e w' h => OwnR.of h rfl
    | boo =>
      show Calls _ _ _ _ (OwnR (some (truP s.data.toList)) w)
      by_cases h1 : s.data.toList = [49]
      · have e : s = ⟨#[49]⟩ := by rw [← str_mk s, h1]
        have e2 : truP s.data.toList = tTrue := by unfold truP; rw [if_pos (.inl h1)]
        rw [e2]
        exact (own_2a nm _ _ s w e).mono fun e w' h => OwnR.of h rfl
      by_cases h2 : s.data.toList = tTrue
      · have e : s = ⟨#[116, 114, 117, 101]⟩ := by rw [← str_mk s, h2]; rfl
        have e2 : truP s.data.toList = tTrue := by unfold truP; rw [if_pos (.inr h2)]
        rw [e2]
        exact (own_2b nm _ _ s w e).mono fun e w' h => OwnR.of h rfl
      · have e2 : truP s.data.toList = tFalse := by unfold truP; rw [if_neg (by rintro (h | h); exact h1 h; exact h2 h)]
        rw [e2]
        exact (own_2n nm _ _ s w (st_ne8 h1) (st_ne8 h2)).mono fun e w' h => OwnR.of h rfl
    | dec =>
      obtain ⟨n, hn⟩ := Option.isSome_iff_exists.1 (show (decP s.data.toList).isSome = true from hk)
      have e : owO (some .dec) s.data.toList = some (plN n) := by show (decP s.data.toList).map plN = _; rw [hn]; rfl
      rw [e]
      have hnf := nf_dec hn
      obtain ⟨b1, b2, b3, b4⟩ := decP_bd hn
      have hp := plV_plN hnf
      obtain ⟨T, Ts, Td, Tc⟩ := rplain_let n.nan (decide (n.inf ≠ 0)) (n.below || decide (n.inf < 0)) ⟨n.dg.toArray⟩ n.pw true (by rw [sz_mk]; omega) (by omega) (by omega)
      have hb : (n.below || decide (n.inf < 0)) = n.below := by rw [hnf.inf]; simp
      exact (own_3 nm _ _ s w _ _ _ _ _ T _ 0 (fun w => (rdecimal_calls s 0 w (by omega) (by omega) (by omega)).mono fun e w' h => by
        have h1 := h.1
        rw [show decE s.data.toList 0 = some n from hn] at h1
        exact ⟨h1, h.2⟩) Tc).mono fun e w' h => OwnR.of h (by rw [Td, hb]; exact hp)
    | int lo hi =>
      obtain ⟨n, hn⟩ := witP_int (show witP s.data.toList lo hi = true from hk)
      have e : owO (some (.int lo hi)) s.data.toList = some (whN n) := by show (intP s.data.toList).map whN = _; rw [hn]; rfl
      rw [e]
      obtain ⟨hnf, hni⟩ := nf_int hn
      have hd := dec_of_int8 hn
      obtain ⟨b1, b2, b3, b4⟩ := decP_bd hd
      have hp := plV_whN hnf hni
      obtain ⟨T, Ts, Td, Tc⟩ := rplain_let n.nan (decide (n.inf ≠ 0)) (n.below || decide (n.inf < 0)) ⟨n.dg.toArray⟩ n.pw false (by rw [sz_mk]; omega) (by omega) (by omega)
      have hb : (n.below || decide (n.inf < 0)) = n.below := by rw [hnf.inf]; simp
      exact (own_4 nm _ _ s w _ _ _ _ _ T _ 0 (fun w => (rdecimal_calls s 0 w (by omega) (by omega) (by omega)).mono fun e w' h => by
        have h1 := h.1
        rw [show decE s.data.toList 0 = some n from hd] at h1
        exact ⟨h1, h.2⟩) Tc).mono fun e w' h => OwnR.of h (by rw [Td, hb]; exact hp)
    | dbl =>
      obtain ⟨n, hn⟩ := Option.isSome_iff_exists.1 (show (dblP s.data.toList).isSome = true from hk)
      have e : owO (some .dbl) s.data.toList = scN n := by show (dblP s.data.toList).bind scN = _; rw [hn]; rfl
      rw [e]
      obtain ⟨b1, b2, b3, b4⟩ := dblP_bd hn
      have hbl : n.inf ≠ 0 → n.below = false := by
        rcases nf_dbl hn with ⟨h, _⟩ | h | h | h
        · rw [h]; intro _; rfl
        · rw [h]; intro _; rfl
        · rw [h]; intro _; rfl
        · intro h2; exact absurd h.inf h2
      have hv := scV_eq _ _ _ _ _ (n := n) rfl rfl rfl rfl rfl hbl
      have hc := fun w => rscaled_calls n.nan (decide (n.inf ≠ 0)) (n.below || decide (n.inf < 0)) ⟨n.dg.toArray⟩ n.pw w (by rw [sz_mk]; omega) (by omega) (by omega)
      have hv' : scV n.nan (decide (n.inf ≠ 0)) (n.below || decide (n.inf < 0)) (⟨n.dg.toArray⟩ : ByteArray).data.toList n.pw = match scN n with | none => ([], 80) | some t => (t, 0) := hv
      rw [hv'] at hc
      refine (own_5 nm _ _ s w _ _ _ _ _ _ _ _ (fun w => (rdouble_calls s w (by omega)).mono fun e w' h => by
        have h1 := h.1
        rw [hn] at h1
        exact ⟨h1, h.2⟩) hc).mono fun e w' h => ?_
      cases hsc : scN n with
      | none => rw [hsc] at h; exact ⟨_, _, h.1, fun _ => rfl, (fun t h => by cases h), h.2⟩
      | some t => rw [hsc] at h; exact OwnR.of h rfl
    | hex =>
      have hk' : (hexP (gtP s.data.toList)).isSome = true := hk
      exact (own_9 nm _ _ s w _ fun w => rgreat_calls s w (by omega) (hexP_low hk')).mono fun e w' h => OwnR.of h rfl
    | dat =>
      have hr := re_some (fun w => read_day w s hs) (show (rdDay s.data.toList).isSome = true from hk)
      refine (own_7 nm _ _ s w (RkDay s.data.toList) (fun T c => c = 0 ∧ some T.data.toList = ownE .dat s.data.toList) hr fun mm hP w => ?_).mono fun e w' ⟨T, c, h1, ⟨h2, h3⟩, h4⟩ => ⟨T, c, h1, (fun h => absurd (h3.trans h) (by simp)), (fun t h => ⟨h2, Option.some.inj (h3.trans h)⟩), h4⟩
      have ho := day_own hP
      obtain ⟨zt, hy, hz, z1, z2, z3, z4⟩ := hP
      have hok := mo_ok hy (by rw [z1, z2, z3]; omega) (by rw [z4]; decide) hz
      exact (rmo_day mm hok.1 w).mono fun e w' ⟨T, h1, h2, h3⟩ => ⟨T, 0, h1, ⟨rfl, by rw [ho, h2]⟩, h3⟩
    | tim =>
      have hr := re_some (fun w => read_clk w s hs) (show (rdClk s.data.toList).isSome = true from hk)
      refine (own_8 nm _ _ s w (RkClk s.data.toList) (fun T c => c = 0 ∧ some T.data.toList = ownE .tim s.data.toList) hr fun mm hP w => ?_).mono fun e w' ⟨T, c, h1, ⟨h2, h3⟩, h4⟩ => ⟨T, c, h1, (fun h => absurd (h3.trans h) (by simp)), (fun t h => ⟨h2, Option.some.inj (h3.trans h)⟩), h4⟩
      have ho := clk_own hP
      obtain ⟨zt, ⟨ht, h0, h1, mi0, mi1, s0, s1, h24⟩, hz, y1, m1, d1⟩ := hP
      have hfl := f_le (p := []) ht hl
      obtain ⟨o0, o1, _⟩ := rdZ_rng8 hz
      have hok : mm.Ok := ⟨by omega, by omega, by omega, by omega, by omega, by omega, h0, h1, mi0, mi1, s0, s1, hfl, o0, o1⟩
      by_cases c : mm.h = 24
      · rw [if_pos c] at ho
        exact (rmo_clk24 mm hok w c).mono fun e w' ⟨T, h1, h2, h3⟩ => ⟨T, 0, h1, ⟨rfl, by rw [ho, h2]⟩, h3⟩
      · rw [if_neg c] at ho
        exact (rmo_clk mm hok w c).mono fun e w' ⟨T, h1, h2, h3⟩ => ⟨T, 0, h1, ⟨rfl, by rw [ho, h2]⟩, h3⟩
    | dtm =>
      have hr := re_some (fun w => read_dt w s hs) (show (rdDT s.data.toList).isSome = true from hk)
      refine (own_6 nm _ _ s w (RkDT s.data.toList) (fun T c => (ownE .dtm s.data.toList = none → c = 80) ∧ ∀ t, ownE .dtm s.data.toList = some t → c = 0 ∧ T.data.toList = t) hr fun mm hP w => ?_).mono fun e w' ⟨T, c, h1, ⟨h2, h3⟩, h4⟩ => ⟨T, c, h1, h2, h3, h4⟩
      have hP2 := hP
      obtain ⟨r, zt, hy, hp, ⟨ht, h0, h1, mi0, mi1, s0, s1, h24⟩, hz⟩ := hP2
      have hfl : mm.f.size ≤ 65536 := f_le (p := []) ht (by have := rdY_le hy; rw [List.length_drop]; omega)
      obtain ⟨hok, hd, ya, yb⟩ := mo_ok hy ⟨h0, h1, mi0, mi1, s0, s1⟩ hfl hz
      refine (rmo_dt mm _ hok hd ya yb w).mono fun e w' ⟨n', y, mo, d, q, hd', q0, q1, hq, T, c, h1, h2, h3, h4⟩ => ⟨T, c, h1, ?_, h4⟩
      have ho := dt_own hP hd' q0 q1 hq
      rw [ho]
      by_cases far : 999999999 < y ∨ y < -999999999
      · obtain ⟨_, rfl⟩ := h2 far
        rw [if_neg (by split <;> omega)]
        exact ⟨fun _ => rfl, fun t h => (by cases h)⟩
      · obtain ⟨rfl, hT⟩ := h3 far
        rw [if_pos (by split <;> omega)]
        exact ⟨fun h => (by cases h), fun t h => ⟨rfl, by rw [hT]; exact Option.some.inj h⟩⟩
end Go.Proofs.YtlhcejbimlilaaaGreatDoor
/- The document's Canonical; ValueCanons' walk. -/
namespace Go.Proofs.YtlhcejbimlilaaaGreatDoor
open Go.RowKit Go.Tk
theorem canE_owO {t s : List UInt8} (h : chkE t s = 0) : canE t s = canO (owO (kdOf t) s) := by
  have hl := (chkE_zero h).1
  unfold canE owO
  rw [if_neg (by omega)]
  cases kdOf t with
  | none => unfold canO; dsimp only; rw [if_neg (by omega)]
  | some k => rfl
set_option maxHeartbeats 2000000 in
theorem rcanonical_calls (T s : ByteArray) (w : World) (hs : s.size ≤ 9223372036854775807) : Calls Tryz.prog 16 #[.string T, .string s] w fun e w' => e = .returned (.tuple #[.string ⟨(canE T.data.toList s.data.toList).1.toArray⟩, .int .i64 (canE T.data.toList s.data.toList).2]) ∧ Below w.heap.size w w' := by
  have hl : s.data.toList.length = s.size := (Lib.size_eq s).symm
  have hc := fun w => rcheck_calls8 T s w (fun h w => hexed_T s w h) (fun h w => base64_T s w h) hs
  have hbd := chkE_bd T.data.toList s.data.toList
  by_cases hz : chkE T.data.toList s.data.toList ≠ 0
  · have e : canE T.data.toList s.data.toList = ([], chkE T.data.toList s.data.toList) := by unfold canE; rw [if_pos hz]
    rw [e]
    dsimp only
    obtain ⟨c, hcc⟩ : ∃ c, c = chkE T.data.toList s.data.toList := ⟨_, rfl⟩
    rw [← hcc] at hc hz hbd ⊢
    have hcb : (c != 0) = true := bne_iff_ne.2 hz
    have H := Lib.hid hc
    clear e hl hc hcc
    go_enter Tryz.func16, Tryz.ntmps16
    go_wp2_with (go_at_call 14; (with_reducible refine (H.out _).mono ?_); rintro e w1 ⟨rfl, hb1⟩)
    go_ret2
    exact ⟨rfl, hb1⟩
  have hz0 : chkE T.data.toList s.data.toList = 0 := by omega
  have hck := chkE_zero hz0
  rw [hl] at hck
  have hs2 := hck.1
  have hio : isO (kdOf T.data.toList) s.data.toList = true := by
    cases hk : kdOf T.data.toList with
    | none => rfl
    | some k => exact hck.2 k hk
  rw [hz0] at hc
  rw [canE_owO hz0]
  have hk := fun w => kindOf_calls T w
  have how := fun (nm : ByteArray) w => rown_calls (t := T.data.toList) (kdOf T.data.toList) rfl nm s w hs2 hio
  obtain ⟨o, ho⟩ : ∃ o, o = kdOf T.data.toList := ⟨_, rfl⟩
  rw [← ho] at hk how ⊢
  have hk2 : ∀ w, Calls Tryz.prog 25 #[.string T] w fun e w' => ∃ nm : ByteArray, e = .returned (.agg #[.string nm, .int .i64 (lkO o), .string ⟨(loO o).toArray⟩, .string ⟨(hiO o).toArray⟩]) ∧ Below w.heap.size w w' := hk
  obtain ⟨x, hx⟩ : ∃ x, x = owO o s.data.toList := ⟨_, rfl⟩
  rw [← hx] at how ⊢
  have HC := Lib.hid hc
  have HK := Lib.hid hk2
  clear hk hk2 hc ho hx hio hck hz0 hz hbd hl
  cases x with
  | none =>
    show Calls _ _ _ _ fun e w' => e = .returned (.tuple #[.string ⟨#[]⟩, .int .i64 80]) ∧ _
    have how : ∀ (nm : ByteArray) w, Calls Tryz.prog 27 #[.agg #[.string nm, .int .i64 (lkO o), .string ⟨(loO o).toArray⟩, .string ⟨(hiO o).toArray⟩], .string s] w fun e w' => ∃ U : ByteArray, e = .returned (.tuple #[.string U, .int .i64 80]) ∧ Below w.heap.size w w' := fun nm w =>
      (how nm w).mono fun e w' ⟨U, c, h1, h2, _, h4⟩ => ⟨U, by rw [h1, h2 rfl], h4⟩
    have HO := Lib.hid how
    clear how
    go_enter Tryz.func16, Tryz.ntmps16
    go_wp2_with (first | (go_at_call 14; (with_reducible refine (HC.out _).mono ?_); rintro e w1 ⟨rfl, hb1⟩) | (go_at_call 25; (with_reducible refine (HK.out _).mono ?_); rintro e w2 ⟨nm, rfl, hb2⟩) | (go_at_call 27; (with_reducible refine (HO.out _ _).mono ?_); rintro e w3 ⟨U, rfl, hb3⟩))
    go_ret2
    have q2 := hb1.trans (hb2.mono hb1.size)
    exact ⟨rfl, q2.trans (hb3.mono q2.size)⟩
  | some t =>
    have how : ∀ (nm : ByteArray) w, Calls Tryz.prog 27 #[.agg #[.string nm, .int .i64 (lkO o), .string ⟨(loO o).toArray⟩, .string ⟨(hiO o).toArray⟩], .string s] w fun e w' => e = .returned (.tuple #[.string ⟨t.toArray⟩, .int .i64 0]) ∧ Below w.heap.size w w' := fun nm w =>
      (how nm w).mono fun e w' ⟨U, c, h1, _, h3, h4⟩ => by
        obtain ⟨hc, hU⟩ := h3 t rfl
        exact ⟨by rw [h1, hc, ← hU, str_mk], h4⟩
    obtain ⟨U, hU⟩ : ∃ U : ByteArray, U = ⟨t.toArray⟩ := ⟨_, rfl⟩
    have hul : t.length = U.size := by rw [hU, sz_mk]
    unfold canO
    dsimp only
    rw [hul]
    simp only [← hU] at how
    have HO := Lib.hid how
    clear how hul
    by_cases h6 : 65536 < U.size
    · rw [if_pos h6]
      have h6' : (65536 : Int) < (U.size : Int) := by omega
      clear hU h6
      dsimp only
      go_enter Tryz.func16, Tryz.ntmps16
      go_wp2_with (first | (go_at_call 14; (with_reducible refine (HC.out _).mono ?_); rintro e w1 ⟨rfl, hb1⟩) | (go_at_call 25; (with_reducible refine (HK.out _).mono ?_); rintro e w2 ⟨nm, rfl, hb2⟩) | (go_at_call 27; (with_reducible refine (HO.out _ _).mono ?_); rintro e w3 ⟨rfl, hb3⟩))
      go_ret2
      have q2 := hb1.trans (hb2.mono hb1.size)
      exact ⟨rfl, q2.trans (hb3.mono q2.size)⟩
    · rw [if_neg h6]
      have h6' : (U.size : Int) ≤ 65536 := by omega
      dsimp only
      rw [← hU]
      clear hU h6
      go_enter Tryz.func16, Tryz.ntmps16
      go_wp2_with (first | (go_at_call 14; (with_reducible refine (HC.out _).mono ?_); rintro e w1 ⟨rfl, hb1⟩) | (go_at_call 25; (with_reducible refine (HK.out _).mono ?_); rintro e w2 ⟨nm, rfl, hb2⟩) | (go_at_call 27; (with_reducible refine (HO.out _ _).mono ?_); rintro e w3 ⟨rfl, hb3⟩))
      go_ret2
      have q2 := hb1.trans (hb2.mono hb1.size)
      exact ⟨rfl, q2.trans (hb3.mono q2.size)⟩
set_option maxHeartbeats 2000000 in
theorem canons_in (w : World) (T s : ByteArray) (hT : T.size ≤ 9223372036854775807) (hs : s.size ≤ 9223372036854775807) (hpw : Pow w) :
    Calls Tryz.prog 4 #[.string T, .string s] w fun e w' => e = .returned (.bool true) ∧ Below w.heap.size w w' := by
  have h1 := fun w h => canonical_calls T s w h hs
  have h2 := fun w => rcanonical_calls T s w hs
  obtain ⟨A, hA⟩ : ∃ A : ByteArray, A = ⟨(canE T.data.toList s.data.toList).1.toArray⟩ := ⟨_, rfl⟩
  obtain ⟨c, hc⟩ : ∃ c, c = (canE T.data.toList s.data.toList).2 := ⟨_, rfl⟩
  simp only [← hA, ← hc] at h1 h2
  have H1 := Lib.hid h1
  have H2 := Lib.hid h2
  have N := Lib.hid num_calls8
  have HP := Lib.hid hpw
  clear h1 h2 hA hc hpw
  go_enter Tryz.func4, Tryz.ntmps4
  go_wp2_with (first | (go_at_call 15; (with_reducible refine (H1.out _ HP.out).mono ?_); rintro e' w1 ⟨rfl, hb1⟩) | (go_at_call 16; (with_reducible refine (H2.out _).mono ?_); rintro e' w2 ⟨rfl, hb2⟩) | (go_at_call 12; (with_reducible refine (N.out _ _).mono ?_); rintro e' w' ⟨rfl, rfl⟩))
  go_ret
  exact ⟨rfl, hb1.trans (hb2.mono hb1.size)⟩
end Go.Proofs.YtlhcejbimlilaaaGreatDoor
