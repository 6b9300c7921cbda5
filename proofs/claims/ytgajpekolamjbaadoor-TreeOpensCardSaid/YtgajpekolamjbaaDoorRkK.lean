/- RkRf RkK, laid as one. -/
import Derived.Test.YtgajpekolamjbaaDoorRkZ
import Derived.Test.YtgajpekolamjbaaDoorRkRc
import Derived.Test.YtgajpekolamjbaaDoorRkBd
import Derived.Test.YtgajpekolamjbaaDoorRkY
set_option linter.unusedVariables false
set_option linter.unusedSimpArgs false
/- The document's told, up, Numbers, Data. -/
namespace Go.Proofs.YtgajpekolamjbaaDoor
open Go.RowKit Go.Tk
set_option maxRecDepth 100000 in
set_option maxHeartbeats 1000000 in
theorem told_calls (w : World) (a : Option Addr) (c : Nat) (l : List UInt8) (k : Nat) (h : SlI .u8 w a l.length c (nums l)) (hk : k + 4 ≤ l.length) (hb : k ≤ 1000) :
    Calls Tryd.prog 68 #[.slice a l.length c, .int .i64 (k : Nat)] w fun e w' => e = .returned (.int .i64 (f4 l k : Nat)) ∧ ∃ q, w' = w.drewN q := by
  obtain ⟨b, o, rfl, c0⟩ := byte_cell h k (by omega)
  obtain ⟨b', o', e, c1⟩ := byte_cell h (k + 1) (by omega)
  obtain ⟨rfl, rfl⟩ : b = b' ∧ o = o' := by simpa using e
  obtain ⟨b', o', e', c2⟩ := byte_cell h (k + 2) (by omega)
  obtain ⟨rfl, rfl⟩ : b = b' ∧ o = o' := by simpa using e'
  obtain ⟨b', o', e'', c3⟩ := byte_cell h (k + 3) (by omega)
  obtain ⟨rfl, rfl⟩ : b = b' ∧ o = o' := by simpa using e''
  unfold f4
  have hlen := h.le
  have h0 := UInt8.toNat_lt (l.getD k 0)
  have h1 := UInt8.toNat_lt (l.getD (k + 1) 0)
  have h2 := UInt8.toNat_lt (l.getD (k + 2) 0)
  have h3 := UInt8.toNat_lt (l.getD (k + 3) 0)
  obtain ⟨y0, hy0⟩ : ∃ y, y = (l.getD k 0).toNat := ⟨_, rfl⟩
  obtain ⟨y1, hy1⟩ : ∃ y, y = (l.getD (k + 1) 0).toNat := ⟨_, rfl⟩
  obtain ⟨y2, hy2⟩ : ∃ y, y = (l.getD (k + 2) 0).toNat := ⟨_, rfl⟩
  obtain ⟨y3, hy3⟩ : ∃ y, y = (l.getD (k + 3) 0).toNat := ⟨_, rfl⟩
  rw [← hy0] at c0 h0 ⊢
  rw [← hy1] at c1 h1 ⊢
  rw [← hy2] at c2 h2 ⊢
  rw [← hy3] at c3 h3 ⊢
  clear h e e' e'' hy0 hy1 hy2 hy3
  obtain ⟨L, hL⟩ : ∃ L, L = l.length := ⟨_, rfl⟩
  rw [← hL] at hk hlen ⊢
  clear hL
  go_enter Tryd.func68, Tryd.ntmps68
  go_wp2_with fail
  go_quiet (fail)
  go_wp2
  go_ret
  refine ⟨ret_int ?_, _, rfl⟩
  omega
set_option maxRecDepth 100000 in
set_option maxHeartbeats 1000000 in
theorem numbers_calls (w : World) (a : Option Addr) (c : Nat) (l : List UInt8) (h : SlI .u8 w a l.length c (nums l)) (hk : 8 ≤ l.length) :
    Calls Tryd.prog 60 #[.slice a l.length c] w fun e w' => e = .returned (.tuple #[.int .i64 (f4 l 0 : Nat), .int .i64 (f4 l 4 : Nat)]) ∧ ∃ q, w' = w.drewN q := by
  have h0 := fun w' => drew_ex (w0 := w) (w := w') (fun q => told_calls (w.drewN q) a c l 0 (h.drewN q) (by omega) (by omega))
  have h4 := fun w' => drew_ex (w0 := w) (w := w') (fun q => told_calls (w.drewN q) a c l 4 (h.drewN q) (by omega) (by omega))
  simp only [show ((0 : Nat) : Int) = 0 from rfl, show ((4 : Nat) : Int) = 4 from rfl] at h0 h4
  have H0 := Lib.hid h0
  have H4 := Lib.hid h4
  have HDW : ∃ q, w = w.drewN q := ⟨0, rfl⟩
  clear h h0 h4
  go_enter Tryd.func60, Tryd.ntmps60
  go_wp2_with (first
    | (go_at_call 68; (with_reducible refine (H0.out _ HDW).mono ?_); rintro e wz ⟨rfl, hd⟩; (have HDW := hd); clear hd)
    | (go_at_call 68; (with_reducible refine (H4.out _ HDW).mono ?_); rintro e wz ⟨rfl, hd⟩; (have HDW := hd); clear hd))
  go_ret2
  exact ⟨rfl, HDW⟩
theorem SlI.cut8 {w : World} {a : Option Addr} {c : Nat} {l : List UInt8} {m : Nat} (h : SlI .u8 w a l.length c (nums l)) (hm : 8 + m ≤ l.length) : ∃ ad cd, (if c = 8 then a else Option.map (fun x => x.add 8) a) = ad ∧ c - 8 = cd ∧ SlI .u8 w ad m cd (nums ((l.drop 8).take m)) := by
  have := h.cut 8 m hm
  rw [show 8 + m - 8 = m by omega, nums_cut] at this
  exact ⟨_, _, rfl, rfl, this⟩
set_option maxRecDepth 100000 in
set_option maxHeartbeats 1000000 in
theorem rdata_go (w : World) (b o L c n k G : Nat) (hn : n ≤ 67108864) (hG : G = 8 + (n + 7) / 8) (hGL : G ≤ L) (hLc : L ≤ c) (hc : c ≤ 9223372036854775807)
    (hnum : Calls Tryd.prog 60 #[.slice (some ⟨b, o, none⟩) L c] w fun e w' => e = .returned (.tuple #[.int .i64 (n : Nat), .int .i64 (k : Nat)]) ∧ ∃ q, w' = w.drewN q) :
    Calls Tryd.prog 70 #[.slice (some ⟨b, o, none⟩) L c] w fun e w' => e = .returned (.slice (if c = 8 then some ⟨b, o, none⟩ else some ⟨b, o + 8, none⟩) (G - 8) (c - 8)) ∧ ∃ q, w' = w.drewN q := by
  have hup := fun w' => rup_calls (n : Nat) 8 w' (by omega) (by omega) (by omega) (by omega)
  have hui : ((n : Int) + 8 - 1) / 8 = ((G : Int) - 8) := by omega
  simp only [hui] at hup
  have h8G : 8 ≤ G := by omega
  have hGb : G ≤ 67108864 := by omega
  have HN := Lib.hid hnum
  have HU := Lib.hid hup
  obtain ⟨b8, h8⟩ : ∃ b : Prop, (c = 8) = b := ⟨_, rfl⟩
  clear hnum hup hui hG
  rcases (show b8 = True ∨ b8 = False by by_cases h : c = 8; exact .inl (h8.symm.trans (eq_true h)); exact .inr (h8.symm.trans (eq_false h))) with rfl | rfl
  · rw [if_pos (of_eq_true h8)]
    go_enter Tryd.func70, Tryd.ntmps70
    go_wp2_with (first
      | (go_at_call 60; (with_reducible refine HN.out.mono ?_); rintro e wz ⟨rfl, q, rfl⟩)
      | (go_at_call 31; (with_reducible refine (HU.out _).mono ?_); rintro e wz ⟨rfl, rfl⟩))
    go_ret
    refine ⟨?_, _, rfl⟩
    show Ending.returned (Value.slice _ (8 + (G - 8) - 8) _) = _
    rw [show 8 + (G - 8) - 8 = G - 8 by omega]
  · rw [if_neg (of_eq_false h8)]
    go_enter Tryd.func70, Tryd.ntmps70
    go_wp2_with (first
      | (go_at_call 60; (with_reducible refine HN.out.mono ?_); rintro e wz ⟨rfl, q, rfl⟩)
      | (go_at_call 31; (with_reducible refine (HU.out _).mono ?_); rintro e wz ⟨rfl, rfl⟩))
    go_ret
    refine ⟨?_, _, rfl⟩
    show Ending.returned (Value.slice _ (8 + (G - 8) - 8) _) = _
    rw [show 8 + (G - 8) - 8 = G - 8 by omega]
/-- The data of bytes whose head says n. -/
def daB (bs : List UInt8) (n : Nat) : List UInt8 := (bs.drop 8).take ((n + 7) / 8)
theorem rdata_calls (w : World) (a : Option Addr) (c : Nat) (l : List UInt8) (h : SlI .u8 w a l.length c (nums l)) (hN : f4 l 0 ≤ 67108864) (hE : 8 + (f4 l 0 + 7) / 8 ≤ l.length) :
    Calls Tryd.prog 70 #[.slice a l.length c] w fun e w' => ∃ ad cd, e = .returned (.slice ad ((f4 l 0 + 7) / 8) cd) ∧ SlI .u8 w ad ((f4 l 0 + 7) / 8) cd (nums (daB l (f4 l 0))) ∧ ∃ q, w' = w.drewN q := by
  obtain ⟨b, o, rfl, _⟩ := h.cell 0 (by omega)
  obtain ⟨ad, cd, e1, e2, h3⟩ := SlI.cut8 h hE
  have h2 := rdata_go w b o l.length c (f4 l 0) (f4 l 4) (8 + (f4 l 0 + 7) / 8) hN rfl hE h.le h.max (numbers_calls w _ c l h (by omega))
  have e3 : (if c = 8 then (some ⟨b, o, none⟩ : Option Addr) else some ⟨b, o + 8, none⟩) = ad := by rw [← e1]; split <;> rfl
  rw [e3, e2, show 8 + (f4 l 0 + 7) / 8 - 8 = (f4 l 0 + 7) / 8 by omega] at h2
  exact h2.mono fun e w' ⟨g1, g2⟩ => ⟨ad, cd, g1, h3, g2⟩
theorem da_bt (bs : List UInt8) (n i : Nat) (hi : i < 8 * ((n + 7) / 8)) : btB (daB bs n) i = btB (datB bs) i := by
  unfold btB daB datB
  rw [List.getD_eq_getElem?_getD, List.getD_eq_getElem?_getD, List.getElem?_take, if_pos (by omega)]
theorem da_len (bs : List UInt8) (n : Nat) (h : 8 + (n + 7) / 8 ≤ bs.length) : (daB bs n).length = (n + 7) / 8 := by
  unfold daB; simp; omega
end Go.Proofs.YtgajpekolamjbaaDoor
/- Bits packed; what right bytes answer. Plain. -/
namespace Go.Tk
open Go Go.RowKit
/-- Bits as bytes, k of them set. -/
def pkB (l : List Bool) : Nat → List UInt8
  | 0 => List.replicate ((l.length + 7) / 8) 0
  | k + 1 => if l.getD k false = true then (pkB l k).set (k / 8) (UInt8.ofNat (((pkB l k).getD (k / 8) 0).toNat ||| 2 ^ (k % 8))) else pkB l k
def packB (l : List Bool) : List UInt8 := pkB l l.length
theorem pk_len (l : List Bool) : ∀ k, (pkB l k).length = (l.length + 7) / 8
  | 0 => by simp [pkB]
  | k + 1 => by
    simp only [pkB]
    split
    · rw [List.length_set, pk_len l k]
    · exact pk_len l k
theorem or_byte (y v : Nat) (hy : y < 256) (hv : v < 8) : (UInt8.ofNat (y ||| 2 ^ v)).toNat = y ||| 2 ^ v := by
  have h1 : 2 ^ v < 2 ^ 8 := Nat.pow_lt_pow_right (by decide) hv
  have h2 : y ||| 2 ^ v < 2 ^ 8 := Nat.or_lt_two_pow hy h1
  rw [UInt8.toNat_ofNat']
  exact Nat.mod_eq_of_lt h2
theorem pk_bit (l : List Bool) : ∀ k j, k ≤ l.length → btB (pkB l k) j = (decide (j < k) && l.getD j false)
  | 0, j, _ => by
    unfold btB
    simp only [pkB, List.getD_eq_getElem?_getD, List.getElem?_replicate]
    split <;> simp
  | k + 1, j, hk => by
    have ih := pk_bit l k j (by omega)
    simp only [pkB]
    by_cases hb : l.getD k false = true
    · rw [if_pos hb]
      have hlen := pk_len l k
      by_cases hq : j / 8 = k / 8
      · have e : ((pkB l k).set (k / 8) (UInt8.ofNat (((pkB l k).getD (k / 8) 0).toNat ||| 2 ^ (k % 8)))).getD (j / 8) 0 = UInt8.ofNat (((pkB l k).getD (k / 8) 0).toNat ||| 2 ^ (k % 8)) := by
          rw [hq, List.getD_eq_getElem?_getD, List.getElem?_set_self (by omega)]; rfl
        have ih' : ((pkB l k).getD (k / 8) 0).toNat.testBit (j % 8) = (decide (j < k) && l.getD j false) := by rw [← ih]; unfold btB; rw [hq]
        unfold btB
        rw [e, or_byte _ _ (UInt8.toNat_lt _) (by omega), Nat.testBit_or, ih', Nat.testBit_two_pow]
        by_cases hjk : j = k
        · subst hjk; rw [hb]; simp
        · have h8 : ¬ k % 8 = j % 8 := by omega
          have hlt : decide (j < k + 1) = decide (j < k) := by
            by_cases h : j < k
            · rw [decide_eq_true h, decide_eq_true (by omega)]
            · rw [decide_eq_false h, decide_eq_false (by omega)]
          rw [hlt, decide_eq_false h8, Bool.or_false]
      · have e : ((pkB l k).set (k / 8) (UInt8.ofNat (((pkB l k).getD (k / 8) 0).toNat ||| 2 ^ (k % 8)))).getD (j / 8) 0 = (pkB l k).getD (j / 8) 0 := by
          rw [List.getD_eq_getElem?_getD, List.getElem?_set_ne (fun h => hq h.symm), ← List.getD_eq_getElem?_getD]
        have : btB ((pkB l k).set (k / 8) (UInt8.ofNat (((pkB l k).getD (k / 8) 0).toNat ||| 2 ^ (k % 8)))) j = btB (pkB l k) j := by unfold btB; rw [e]
        rw [this, ih]
        have hlt : decide (j < k + 1) = decide (j < k) := by
          by_cases h : j < k
          · rw [decide_eq_true h, decide_eq_true (by omega)]
          · rw [decide_eq_false h, decide_eq_false (by omega)]
        rw [hlt]
    · rw [if_neg hb, ih]
      by_cases hjk : j = k
      · subst hjk
        have : l.getD j false = false := by simpa using hb
        rw [this]; simp
      · have hlt : decide (j < k + 1) = decide (j < k) := by
          by_cases h : j < k
          · rw [decide_eq_true h, decide_eq_true (by omega)]
          · rw [decide_eq_false h, decide_eq_false (by omega)]
        rw [hlt]
theorem getD_bool_out (l : List Bool) (j : Nat) (h : l.length ≤ j) : l.getD j false = false := by
  rw [List.getD_eq_getElem?_getD, List.getElem?_eq_none h]; rfl
theorem pack_len (l : List Bool) : (packB l).length = (l.length + 7) / 8 := pk_len l _
theorem pack_bt (l : List Bool) (j : Nat) : btB (packB l) j = l.getD j false := by
  unfold packB
  rw [pk_bit l _ j (Nat.le_refl _)]
  by_cases h : j < l.length
  · rw [decide_eq_true h, Bool.true_and]
  · rw [decide_eq_false h, Bool.false_and, getD_bool_out l j (by omega)]
theorem pack_pad (l : List Bool) : padB (packB l) l.length = true := by
  cases h : padB (packB l) l.length with
  | true => rfl
  | false =>
    obtain ⟨i, h1, h2, h3⟩ := pad_not (pack_len l) h
    rw [pack_bt, getD_bool_out l i h1] at h3
    cases h3
/-- Counted by a function. -/
def cF (f : Nat → Bool) : Nat → Nat
  | 0 => 0
  | i + 1 => cF f i + (if f i = true then 1 else 0)
theorem cnt_cF (d : List UInt8) (f : Nat → Bool) : ∀ i, (∀ j, j < i → btB d j = f j) → cntB d i = cF f i
  | 0, _ => rfl
  | i + 1, h => by simp only [cntB, cF]; rw [cnt_cF d f i (fun j hj => h j (by omega)), h i (by omega)]
theorem cF_congr (f g : Nat → Bool) : ∀ i, (∀ j, j < i → f j = g j) → cF f i = cF g i
  | 0, _ => rfl
  | i + 1, h => by simp only [cF]; rw [cF_congr f g i (fun j hj => h j (by omega)), h i (by omega)]
theorem cF_add (f : Nat → Bool) (n : Nat) : ∀ i, cF f (n + i) = cF f n + cF (fun j => f (n + j)) i
  | 0 => rfl
  | i + 1 => by rw [← Nat.add_assoc]; simp only [cF]; rw [cF_add f n i]; omega
theorem cnt_pack (l : List Bool) (i : Nat) : cntB (packB l) i = cF (fun j => l.getD j false) i := cnt_cF _ _ _ (fun j _ => pack_bt l j)
theorem pack_app (a b : List Bool) (i : Nat) : cntB (packB (a ++ b)) i = if i ≤ a.length then cntB (packB a) i else cntB (packB a) a.length + cntB (packB b) (i - a.length) := by
  rw [cnt_pack, cnt_pack, cnt_pack, cnt_pack]
  have h1 : ∀ j, j < a.length → (a ++ b).getD j false = a.getD j false := fun j hj => by
    rw [List.getD_eq_getElem?_getD, List.getElem?_append_left hj, ← List.getD_eq_getElem?_getD]
  have h2 : ∀ j, (a ++ b).getD (a.length + j) false = b.getD j false := fun j => by
    rw [List.getD_eq_getElem?_getD, List.getElem?_append_right (by omega), Nat.add_sub_cancel_left, ← List.getD_eq_getElem?_getD]
  split
  · exact cF_congr _ _ _ (fun j hj => h1 j (by omega))
  · obtain ⟨k, rfl⟩ : ∃ k, i = a.length + k := ⟨i - a.length, by omega⟩
    rw [cF_add, Nat.add_sub_cancel_left, cF_congr _ _ _ h1]
    congr 1
    exact cF_congr _ _ _ (fun j _ => h2 j)
theorem rank0_wh {d : List UInt8} {N : Nat} (hl : d.length = (N + 7) / 8) (hN : N ≤ 67108864) (i : Int) : rank0V (whB d N) N (cntB d N) i = ((min i.toNat N - cntB d (min i.toNat N) : Nat) : Int) := by
  unfold rank0V
  rw [rank_wh hl hN]
  have := cnt_le d (min i.toNat N)
  split
  · have : min i.toNat N = 0 := by omega
    rw [this]; rfl
  · omega
def selW (d : List UInt8) (N : Nat) (k : Int) : Int := selV (fun j => (rankV (whB d N) N (cntB d N) (j : Nat) : Nat)) N k (cntB d N)
def sel0W (d : List UInt8) (N : Nat) (k : Int) : Int := selV (fun j => rank0V (whB d N) N (cntB d N) (j : Nat)) N k ((N : Int) - (cntB d N : Nat))
theorem selW_no {d : List UInt8} {N : Nat} {k : Int} (h : k < 0 ∨ (cntB d N : Int) ≤ k) : selW d N k = -1 := by unfold selW selV; rw [if_pos h]
theorem sel0W_no {d : List UInt8} {N : Nat} {k : Int} (h : k < 0 ∨ (N : Int) - (cntB d N : Nat) ≤ k) : sel0W d N k = -1 := by unfold sel0W selV; rw [if_pos h]
theorem cnt_succ (d : List UInt8) (i : Nat) : cntB d (i + 1) = cntB d i + (if btB d i = true then 1 else 0) := rfl
theorem selW_yes {d : List UInt8} {N : Nat} (hl : d.length = (N + 7) / 8) (hN : N ≤ 67108864) (k : Nat) (hk : k < cntB d N) : ∃ v, selW d N k = (v : Nat) ∧ v < N ∧ btB d v = true ∧ cntB d v = k := by
  have hc := cnt_le d N
  have hcf : ∀ j : Nat, ((rankV (whB d N) N (cntB d N) (j : Nat) : Nat) : Int) = ((cntB d (min j N) : Nat) : Int) := fun j => by rw [rank_wh hl hN, Int.toNat_natCast]
  have hs := srch_least (fun j => (rankV (whB d N) N (cntB d N) (j : Nat) : Nat)) k (fun i j hij => by
      simp only [hcf]; have := cnt_mono d (show min i N ≤ min j N by omega); omega) N 0 (N - 1) (by omega) (by omega)
      (by simp only [hcf]; rw [show min (N - 1 + 1) N = N by omega]; omega) (fun j hj => by omega)
  have hb := srch_bd (fun j => (rankV (whB d N) N (cntB d N) (j : Nat) : Nat)) k N 0 (N - 1) (by omega)
  unfold selW selV
  rw [if_neg (by omega)]
  obtain ⟨v, hv⟩ : ∃ v, v = srchF (fun j => (rankV (whB d N) N (cntB d N) (j : Nat) : Nat)) (k : Nat) N 0 (N - 1) := ⟨_, rfl⟩
  rw [← hv] at hs hb ⊢
  simp only [hcf] at hs
  obtain ⟨h1, h2⟩ := hs
  rw [show min (v + 1) N = v + 1 by omega, cnt_succ] at h1
  have h3 : cntB d v ≤ k := by
    cases v with
    | zero => simp [cntB]
    | succ u => have := h2 u (by omega); rw [show min (u + 1) N = u + 1 by omega] at this; omega
  refine ⟨v, rfl, by omega, ?_, ?_⟩
  · cases hbv : btB d v with
    | true => rfl
    | false => rw [hbv] at h1; simp at h1; omega
  · split at h1 <;> omega
theorem selW_at {d : List UInt8} {N : Nat} (hl : d.length = (N + 7) / 8) (hN : N ≤ 67108864) (u : Nat) (hu : u < N) (hb : btB d u = true) : selW d N (cntB d u : Nat) = (u : Nat) := by
  have h1 := cnt_succ d u
  rw [if_pos hb] at h1
  have h2 := cnt_mono d (show u + 1 ≤ N by omega)
  obtain ⟨v, e, hv, hbv, hc⟩ := selW_yes hl hN (cntB d u) (by omega)
  rw [e]
  have h3 := cnt_succ d v
  rw [if_pos hbv] at h3
  by_cases hlt : u < v
  · have := cnt_mono d (show u + 1 ≤ v by omega); omega
  · by_cases hgt : v < u
    · have := cnt_mono d (show v + 1 ≤ u by omega); omega
    · omega
theorem nul_mono (d : List UInt8) {i j : Nat} (h : i ≤ j) : i - cntB d i ≤ j - cntB d j := by
  have h1 := (cnt_add d i (j - i)).2
  rw [show i + (j - i) = j by omega] at h1
  have := cnt_le d i
  have := cnt_le d j
  omega
theorem sel0W_yes {d : List UInt8} {N : Nat} (hl : d.length = (N + 7) / 8) (hN : N ≤ 67108864) (k : Nat) (hk : k < N - cntB d N) : ∃ v, sel0W d N k = (v : Nat) ∧ v < N ∧ btB d v = false ∧ v - cntB d v = k := by
  have hc := cnt_le d N
  have hcf : ∀ j : Nat, rank0V (whB d N) N (cntB d N) (j : Nat) = ((min j N - cntB d (min j N) : Nat) : Int) := fun j => by rw [rank0_wh hl hN, Int.toNat_natCast]
  have hs := srch_least (fun j => rank0V (whB d N) N (cntB d N) (j : Nat)) k (fun i j hij => by
      simp only [hcf]; have := nul_mono d (show min i N ≤ min j N by omega); omega) N 0 (N - 1) (by omega) (by omega)
      (by simp only [hcf]; rw [show min (N - 1 + 1) N = N by omega]; omega) (fun j hj => by omega)
  have hb := srch_bd (fun j => rank0V (whB d N) N (cntB d N) (j : Nat)) k N 0 (N - 1) (by omega)
  unfold sel0W selV
  rw [if_neg (by omega)]
  obtain ⟨v, hv⟩ : ∃ v, v = srchF (fun j => rank0V (whB d N) N (cntB d N) (j : Nat)) (k : Nat) N 0 (N - 1) := ⟨_, rfl⟩
  rw [← hv] at hs hb ⊢
  simp only [hcf] at hs
  obtain ⟨h1, h2⟩ := hs
  rw [show min (v + 1) N = v + 1 by omega, cnt_succ] at h1
  have hcv := cnt_le d v
  have h3 : v - cntB d v ≤ k := by
    cases v with
    | zero => simp
    | succ u => have := h2 u (by omega); rw [show min (u + 1) N = u + 1 by omega] at this; omega
  refine ⟨v, rfl, by omega, ?_, ?_⟩
  · cases hbv : btB d v with
    | false => rfl
    | true => rw [hbv] at h1; simp at h1; omega
  · split at h1 <;> omega
theorem sel0W_at {d : List UInt8} {N : Nat} (hl : d.length = (N + 7) / 8) (hN : N ≤ 67108864) (u : Nat) (hu : u < N) (hb : btB d u = false) : sel0W d N (u - cntB d u : Nat) = (u : Nat) := by
  have h1 := cnt_succ d u
  rw [hb] at h1
  simp at h1
  have hcu := cnt_le d u
  have h2 := nul_mono d (show u + 1 ≤ N by omega)
  obtain ⟨v, e, hv, hbv, hc⟩ := sel0W_yes hl hN (u - cntB d u) (by omega)
  rw [e]
  have h3 := cnt_succ d v
  rw [hbv] at h3
  simp at h3
  have hcv := cnt_le d v
  by_cases hlt : u < v
  · have := nul_mono d (show u + 1 ≤ v by omega); omega
  · by_cases hgt : v < u
    · have := nul_mono d (show v + 1 ≤ u by omega); omega
    · omega
end Go.Tk
