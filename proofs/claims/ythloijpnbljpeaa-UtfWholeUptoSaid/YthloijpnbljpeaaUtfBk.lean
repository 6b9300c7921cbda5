/- What is written is read back. Plain. -/
import Derived.Test.YthloijpnbljpeaaUtfUn
set_option linter.unusedVariables false
set_option linter.unusedSimpArgs false
namespace Go.Tk
open Go Go.RowKit
theorem dec_encB {r : Int} (hr : scalarB r = true) (t : List UInt8) : dec (encB r ++ t) = (r, (encB r).length) := by
  have h := dec_enc (encB r ++ t) r hr ⟨nums t, by rw [← nums_encB' hr]; simp [nums]⟩
  rw [h, ← nums_encB' hr, nums_len]
theorem num_dig : ∀ r : Fin 128, numF 4 (digB (r.val : Int)) 0 = some (r.val : Int) := by decide +kernel
theorem numF_app : ∀ (n : Nat) (l t : List UInt8) (acc : Int), l.length = n → numF n (l ++ t) acc = numF n l acc
  | 0, l, t, acc, h => by
    obtain rfl : l = [] := List.eq_nil_of_length_eq_zero h
    cases t <;> rfl
  | n + 1, [], t, acc, h => by simp at h
  | n + 1, b :: l, t, acc, h => by
    simp only [List.cons_append, numF]
    split
    · rfl
    · exact numF_app n l t _ (by simpa using h)
theorem numI_dig {r : Int} (h0 : 0 ≤ r) (h1 : r < 128) (t : List UInt8) : numI (digB r ++ t) 4 = r := by
  have h := num_dig ⟨r.toNat, by omega⟩
  simp only [Int.toNat_of_nonneg h0] at h
  unfold numI
  rw [numF_app 4 (digB r) t 0 rfl, h]
  have : scalarB r = true := (scalarB_iff r).2 (by omega)
  simp [this]
theorem escI_dig {r : Int} (h0 : 0 ≤ r) (h1 : r < 128) (t : List UInt8) (way : Int) : escI ([92, 117] ++ digB r ++ t) way = (r, 6) := by
  have hn := numI_dig h0 h1 t
  have e : ([92, 117] ++ digB r ++ t) = 92 :: 117 :: (digB r ++ t) := rfl
  rw [e]
  simp only [escI]
  rw [if_pos (by decide), hn, if_neg (by omega)]
theorem unF_esc {t : List UInt8} {r : Int} {n : Nat} {l : List UInt8} {x way : Int} (hl : l ≠ []) (hd : dec l = (92, 1)) (he : escI l way = (r, n)) (hn : n ≠ 0) (ht : l.drop n = t) : unF l x way = consU (encB r) (unF t (x + n) way) := by
  rw [unF_step x way hl, hd]
  simp only [Nat.one_ne_zero, if_false, if_true]
  rw [he]
  simp only
  rw [if_neg hn, ht]
theorem unF_dig {r : Int} (h0 : 0 ≤ r) (h1 : r < 128) (t : List UInt8) (x way : Int) : unF ([92, 117] ++ digB r ++ t) x way = consU (encB r) (unF t (x + 6) way) :=
  unF_esc (by simp) (dec_bs (t := 117 :: (digB r ++ t)) rfl) (escI_dig h0 h1 t way) (by decide) rfl
theorem unF_enc {r : Int} (hr : scalarB r = true) (h92 : r ≠ 92) (t : List UInt8) (x way : Int) : unF (encB r ++ t) x way = consU (encB r) (unF t (x + (encB r).length) way) := by
  have hb := (encB_len (r := r)).2
  have hne : encB r ++ t ≠ [] := fun h => by
    have := congrArg List.length h
    rw [List.length_append] at this; simp at this; simp [this] at hb
  rw [unF_step x way hne, dec_encB hr t]
  simp only
  rw [if_neg (by omega), if_neg h92, List.drop_left]
/-- A scalar as it is written is read as that scalar. -/
theorem unF_wr {r : Int} (hr : scalarB r = true) (way : Int) (t : List UInt8) (x : Int) : unF (wrB r way ++ t) x way = consU (encB r) (unF t (x + (wrB r way).length) way) := by
  have h0 := ((scalarB_iff r).1 hr).1
  by_cases hw : way = 1
  · subst hw
    cases hq : escQ r with
    | some c =>
      have e : wrB r 1 = [92, c] := by unfold wrB; rw [if_pos rfl, hq]
      have hc : escL (c.toNat : Int) = r ∧ c.toNat ≠ 117 ∧ c.toNat ≠ 85 := by
        revert hq
        unfold escQ
        repeat' split
        all_goals intro h
        all_goals first | (cases h; subst_vars; decide) | cases h
      rw [e]
      refine unF_esc (n := 2) (by simp) (dec_bs (t := c :: t) rfl) ?_ (by decide) rfl
      show (if c.toNat = 117 then _ else if c.toNat = 85 then _ else if (1 : Int) = 1 ∧ 0 ≤ escL c.toNat then (escL c.toNat, 2) else (0, 0)) = _
      rw [if_neg hc.2.1, if_neg hc.2.2, if_pos ⟨rfl, by rw [hc.1]; exact h0⟩, hc.1]
    | none =>
      by_cases h3 : r < 32 ∨ r = 127
      · have e : wrB r 1 = [92, 117] ++ digB r := by unfold wrB; rw [if_pos rfl, hq]; simp only; rw [if_pos h3]
        rw [e]
        exact unF_dig h0 (by omega) t x 1
      · have e : wrB r 1 = encB r := by unfold wrB; rw [if_pos rfl, hq]; simp only; rw [if_neg h3]
        rw [e]
        exact unF_enc hr (fun h => by subst h; revert hq; decide) t x 1
  · by_cases hb : badA r = true
    · have e : wrB r way = [92, 117] ++ digB r := by unfold wrB; rw [if_neg hw, if_pos hb]
      rw [e]
      have : r < 128 := by simp [badA] at hb; omega
      exact unF_dig h0 this t x way
    · have e : wrB r way = encB r := by unfold wrB; rw [if_neg hw, if_neg hb]
      rw [e]
      exact unF_enc hr (fun h => by subst h; exact hb (by decide)) t x way
/-- THERE AND BACK. -/
theorem un_esc : ∀ (n : Nat) (l : List UInt8) (k x way : Int), l.length ≤ n → 0 ≤ k → chkF l k = -1 → unF (escF l way) x way = (l, 0, 0)
  | 0, l, k, x, way, h, _, _ => by
    obtain rfl : l = [] := List.eq_nil_of_length_eq_zero (by omega)
    rfl
  | n + 1, l, k, x, way, h, hk, hc => by
    by_cases hl : l = []
    · subst hl; rfl
    rw [chkF_step k hl] at hc
    split at hc
    · omega
    · rename_i h0
      obtain ⟨r, m, hd⟩ : ∃ r m, dec l = (r, m) := ⟨_, _, rfl⟩
      have hr := (dec_yes hd (by rw [hd] at h0; exact h0)).1
      have htk := take_enc hd (by rw [hd] at h0; exact h0)
      rw [escF_step way h0]
      rw [hd] at h0 hc ⊢
      simp only at h0 hc ⊢
      rw [unF_wr hr, un_esc n (l.drop m) (k + m) _ way (by simp; omega) (by omega) hc]
      unfold consU
      simp only [if_true]
      rw [← htk, List.take_append_drop]
theorem chk_enc {r : Int} (hr : scalarB r = true) (t : List UInt8) (x : Int) : chkF (encB r ++ t) x = chkF t (x + (encB r).length) := by
  have hb := (encB_len (r := r)).2
  have hne : encB r ++ t ≠ [] := fun h => by
    have := congrArg List.length h
    rw [List.length_append] at this; simp at this; simp [this] at hb
  rw [chkF_step x hne, dec_encB hr t]
  simp only
  rw [if_neg (by omega), List.drop_left]
theorem dec_asc {b : UInt8} (h : b.toNat < 128) (t : List UInt8) : dec (b :: t) = ((b.toNat : Int), 1) := by
  have : dec (b :: t) = ((b.toNat : Int), (encZ b.toNat).length) := dec_enc _ _ ((scalarB_iff _).2 (by omega)) ⟨nums t, by rw [encZ1 (by omega)]; simp [nums]⟩
  rw [this, encZ1 (by omega)]; rfl
theorem chk_asc : ∀ (bs t : List UInt8) (x : Int), (∀ b ∈ bs, b.toNat < 128) → chkF (bs ++ t) x = chkF t (x + bs.length)
  | [], t, x, _ => by simp
  | b :: bs, t, x, h => by
    have hne : b :: bs ++ t ≠ [] := by simp
    rw [chkF_step x hne, List.cons_append, dec_asc (h b (by simp))]
    simp only
    rw [if_neg (by decide), List.drop_one, List.tail_cons, chk_asc bs t _ (fun c hc => h c (by simp [hc]))]
    congr 1
    simp; omega
theorem hx_asc : ∀ k : Fin 16, (hx (k.val : Int)).toNat < 128 ∧ 48 ≤ (hx (k.val : Int)).toNat ∧ (hx (k.val : Int)).toNat ≠ 92 := by decide +kernel
theorem dig_asc {r : Int} (h0 : 0 ≤ r) (h1 : r < 128) : ∀ b ∈ ([92, 117] ++ digB r : List UInt8), b.toNat < 128 := by
  have a := hx_asc ⟨(r / 16).toNat, by omega⟩
  have b := hx_asc ⟨(r % 16).toNat, by omega⟩
  simp only [Int.toNat_of_nonneg (by omega : 0 ≤ r / 16)] at a
  simp only [Int.toNat_of_nonneg (by omega : 0 ≤ r % 16)] at b
  intro c hc
  simp only [digB, List.cons_append, List.nil_append, List.mem_cons, List.not_mem_nil, or_false] at hc
  rcases hc with rfl | rfl | rfl | rfl | rfl | rfl
  all_goals first | decide | exact a.1 | exact b.1
theorem escQ_asc {r : Int} {c : UInt8} (h : escQ r = some c) : c.toNat < 128 := by
  revert h
  unfold escQ
  repeat' split
  all_goals intro h
  all_goals first | (cases h; decide) | cases h
theorem chk_wr {r : Int} (hr : scalarB r = true) (way : Int) (t : List UInt8) (x : Int) : chkF (wrB r way ++ t) x = chkF t (x + (wrB r way).length) := by
  have h0 := ((scalarB_iff r).1 hr).1
  by_cases hw : way = 1
  · subst hw
    cases hq : escQ r with
    | some c =>
      have e : wrB r 1 = [92, c] := by unfold wrB; rw [if_pos rfl, hq]
      rw [e]
      refine chk_asc _ t x fun b hb => ?_
      simp at hb
      rcases hb with rfl | rfl
      · decide
      · exact escQ_asc hq
    | none =>
      by_cases h3 : r < 32 ∨ r = 127
      · have e : wrB r 1 = [92, 117] ++ digB r := by unfold wrB; rw [if_pos rfl, hq]; simp only; rw [if_pos h3]
        rw [e]
        exact chk_asc _ t x (dig_asc h0 (by omega))
      · have e : wrB r 1 = encB r := by unfold wrB; rw [if_pos rfl, hq]; simp only; rw [if_neg h3]
        rw [e]
        exact chk_enc hr t x
  · by_cases hb : badA r = true
    · have e : wrB r way = [92, 117] ++ digB r := by unfold wrB; rw [if_neg hw, if_pos hb]
      rw [e]
      have : r < 128 := by simp [badA] at hb; omega
      exact chk_asc _ t x (dig_asc h0 this)
    · have e : wrB r way = encB r := by unfold wrB; rw [if_neg hw, if_neg hb]
      rw [e]
      exact chk_enc hr t x
/-- What is written is UTF-8. -/
theorem chk_esc : ∀ (n : Nat) (l : List UInt8) (k x way : Int), l.length ≤ n → 0 ≤ k → chkF l k = -1 → chkF (escF l way) x = -1
  | 0, l, k, x, way, h, _, _ => by
    obtain rfl : l = [] := List.eq_nil_of_length_eq_zero (by omega)
    rfl
  | n + 1, l, k, x, way, h, hk, hc => by
    by_cases hl : l = []
    · subst hl; rfl
    rw [chkF_step k hl] at hc
    split at hc
    · omega
    · rename_i h0
      obtain ⟨r, m, hd⟩ : ∃ r m, dec l = (r, m) := ⟨_, _, rfl⟩
      have hr := (dec_yes hd (by rw [hd] at h0; exact h0)).1
      rw [escF_step way h0]
      rw [hd] at h0 hc ⊢
      simp only at h0 hc ⊢
      rw [chk_wr hr]
      exact chk_esc n (l.drop m) (k + m) _ way (by simp; omega) (by omega) hc
/-- No byte below the least one, no quote behind an even number of backslashes. -/
def scanB : List UInt8 → Nat → Nat → Bool
  | [], _, _ => true
  | b :: t, sl, least => if b.toNat < least ∨ (b.toNat = 34 ∧ sl % 2 = 0) then false else scanB t (if b.toNat = 92 then sl + 1 else 0) least
theorem scan_one {b : UInt8} {sl least : Nat} (h : least ≤ b.toNat) (h34 : b.toNat ≠ 34) (t : List UInt8) : scanB (b :: t) sl least = scanB t (if b.toNat = 92 then sl + 1 else 0) least := by
  simp only [scanB]
  rw [if_neg (by omega)]
theorem scan_plain : ∀ (bs t : List UInt8) (sl least : Nat), bs ≠ [] → (∀ b ∈ bs, least ≤ b.toNat ∧ b.toNat ≠ 34 ∧ b.toNat ≠ 92) → scanB (bs ++ t) sl least = scanB t 0 least
  | [], _, _, _, h, _ => absurd rfl h
  | [b], t, sl, least, _, h => by
    obtain ⟨h1, h2, h3⟩ := h b (by simp)
    show scanB (b :: t) sl least = _
    rw [scan_one h1 h2, if_neg h3]
  | b :: c :: bs, t, sl, least, _, h => by
    obtain ⟨h1, h2, h3⟩ := h b (by simp)
    show scanB (b :: (c :: bs ++ t)) sl least = _
    rw [scan_one h1 h2, if_neg h3]
    exact scan_plain (c :: bs) t 0 least (by simp) (fun x hx => h x (by simp [hx]))
theorem encB_bytes {r : Int} (hr : scalarB r = true) {least : Nat} (hl : least ≤ 33) (h1 : (least : Int) ≤ r) (h34 : r ≠ 34) (h92 : r ≠ 92) : ∀ b ∈ encB r, least ≤ b.toNat ∧ b.toNat ≠ 34 ∧ b.toNat ≠ 92 := by
  have hs := (scalarB_iff r).1 hr
  have e := nums_encB' hr
  intro b hb
  have hm : (b.toNat : Int) ∈ encZ r := by rw [← e]; exact List.mem_map.2 ⟨b, hb, rfl⟩
  by_cases a : r < 128
  · rw [encZ1 a] at hm; simp at hm; omega
  by_cases b' : r < 2048
  · rw [encZ2 a b'] at hm; simp at hm; omega
  by_cases c : r < 65536
  · rw [encZ3 a b' c] at hm; simp at hm; omega
  · rw [encZ4 a b' c] at hm; simp at hm; omega
theorem dig_bytes {r : Int} (h0 : 0 ≤ r) (h1 : r < 128) {least : Nat} (hl : least ≤ 33) : ∀ b ∈ (117 :: digB r : List UInt8), least ≤ b.toNat ∧ b.toNat ≠ 34 ∧ b.toNat ≠ 92 := by
  have a := hx_asc ⟨(r / 16).toNat, by omega⟩
  have b := hx_asc ⟨(r % 16).toNat, by omega⟩
  simp only [Int.toNat_of_nonneg (by omega : 0 ≤ r / 16)] at a
  simp only [Int.toNat_of_nonneg (by omega : 0 ≤ r % 16)] at b
  intro c hc
  simp only [digB, List.mem_cons, List.not_mem_nil, or_false] at hc
  have e1 : (117 : UInt8).toNat = 117 := rfl
  have e2 : (48 : UInt8).toNat = 48 := rfl
  rcases hc with rfl | rfl | rfl | rfl | rfl
  all_goals omega
theorem scan_dig {r : Int} (h0 : 0 ≤ r) (h1 : r < 128) {least : Nat} (hl : least ≤ 33) (t : List UInt8) (sl : Nat) : scanB ([92, 117] ++ digB r ++ t) sl least = scanB t 0 least := by
  show scanB (92 :: ((117 :: digB r) ++ t)) sl least = _
  rw [scan_one (by show least ≤ 92; omega) (by decide)]
  exact scan_plain (117 :: digB r) t _ least (by simp) (dig_bytes h0 h1 hl)
theorem scan_enc {r : Int} (hr : scalarB r = true) {least : Nat} (hl : least ≤ 33) (h1 : (least : Int) ≤ r) (h34 : r ≠ 34) (h92 : r ≠ 92) (t : List UInt8) (sl : Nat) : scanB (encB r ++ t) sl least = scanB t 0 least :=
  scan_plain (encB r) t sl least (fun h => by have := (encB_len (r := r)).2; rw [h] at this; simp at this) (encB_bytes hr hl h1 h34 h92)
/-- A scalar as it is written: the quote stands behind an odd number of backslashes alone. -/
theorem scan_wr {r : Int} (hr : scalarB r = true) (way : Int) (least : Nat) (hw : (way = 1 ∧ least = 32) ∨ (way ≠ 1 ∧ least = 33)) (t : List UInt8) (sl : Nat) (hs : sl % 2 = 0) : ∃ sl', sl' % 2 = 0 ∧ scanB (wrB r way ++ t) sl least = scanB t sl' least := by
  have h0 := ((scalarB_iff r).1 hr).1
  rcases hw with ⟨rfl, rfl⟩ | ⟨hw, rfl⟩
  · cases hq : escQ r with
    | some c =>
      have e : wrB r 1 = [92, c] := by unfold wrB; rw [if_pos rfl, hq]
      have hc : 32 ≤ c.toNat := by
        revert hq
        unfold escQ
        repeat' split
        all_goals intro h
        all_goals first | (cases h; decide) | cases h
      rw [e]
      refine ⟨if c.toNat = 92 then sl + 1 + 1 else 0, by split <;> omega, ?_⟩
      show scanB (92 :: (c :: t)) sl 32 = _
      rw [scan_one (by decide) (by decide), if_pos (by decide)]
      simp only [scanB]
      rw [if_neg (by omega)]
    | none =>
      by_cases h3 : r < 32 ∨ r = 127
      · have e : wrB r 1 = [92, 117] ++ digB r := by unfold wrB; rw [if_pos rfl, hq]; simp only; rw [if_pos h3]
        rw [e]
        exact ⟨0, rfl, scan_dig h0 (by omega) (by decide) t sl⟩
      · have e : wrB r 1 = encB r := by unfold wrB; rw [if_pos rfl, hq]; simp only; rw [if_neg h3]
        rw [e]
        exact ⟨0, rfl, scan_enc hr (by decide) (by show (32 : Int) ≤ r; omega) (fun h => by subst h; revert hq; decide) (fun h => by subst h; revert hq; decide) t sl⟩
  · by_cases hb : badA r = true
    · have e : wrB r way = [92, 117] ++ digB r := by unfold wrB; rw [if_neg hw, if_pos hb]
      rw [e]
      have : r < 128 := by simp [badA] at hb; omega
      exact ⟨0, rfl, scan_dig h0 this (by decide) t sl⟩
    · have e : wrB r way = encB r := by unfold wrB; rw [if_neg hw, if_neg hb]
      rw [e]
      have hge : (33 : Int) ≤ r := by
        have : ¬ r ≤ 32 := fun h => hb (by simp [badA, h])
        omega
      exact ⟨0, rfl, scan_enc hr (by decide) hge (fun h => by subst h; exact hb (by decide)) (fun h => by subst h; exact hb (by decide)) t sl⟩
theorem scan_esc (way : Int) (least : Nat) (hw : (way = 1 ∧ least = 32) ∨ (way ≠ 1 ∧ least = 33)) : ∀ (n : Nat) (l : List UInt8) (k : Int) (sl : Nat), l.length ≤ n → 0 ≤ k → chkF l k = -1 → sl % 2 = 0 → scanB (escF l way) sl least = true
  | 0, l, k, sl, h, _, _, _ => by
    obtain rfl : l = [] := List.eq_nil_of_length_eq_zero (by omega)
    rfl
  | n + 1, l, k, sl, h, hk, hc, hs => by
    by_cases hl : l = []
    · subst hl; rfl
    rw [chkF_step k hl] at hc
    split at hc
    · omega
    · rename_i h0
      obtain ⟨r, m, hd⟩ : ∃ r m, dec l = (r, m) := ⟨_, _, rfl⟩
      have hr := (dec_yes hd (by rw [hd] at h0; exact h0)).1
      rw [escF_step way h0]
      rw [hd] at h0 hc ⊢
      simp only at h0 hc ⊢
      obtain ⟨sl', h1, h2⟩ := scan_wr hr way least hw (escF (l.drop m) way) sl hs
      rw [h2]
      exact scan_esc way least hw n (l.drop m) (k + m) sl' (by simp; omega) (by omega) hc h1
theorem encB_low {r : Int} (h0 : 0 ≤ r) (h : r < 128) : (encB r).length = 1 := by
  have hr : scalarB r = true := (scalarB_iff r).2 (by omega)
  have e := nums_encB' hr
  rw [encZ1 h] at e
  have := congrArg List.length e
  rw [nums_len] at this
  simpa using this
theorem wr_len {r : Int} (hr : scalarB r = true) (way : Int) : wrB r way = encB r ∨ (encB r).length < (wrB r way).length := by
  have h0 := ((scalarB_iff r).1 hr).1
  have hd : ([92, 117] ++ digB r : List UInt8).length = 6 := rfl
  by_cases hw : way = 1
  · subst hw
    cases hq : escQ r with
    | some c =>
      have e : wrB r 1 = [92, c] := by unfold wrB; rw [if_pos rfl, hq]
      have : r < 128 := by
        revert hq
        unfold escQ
        repeat' split
        all_goals intro h
        all_goals first | omega | cases h
      right
      rw [e, encB_low h0 this]; simp
    | none =>
      by_cases h3 : r < 32 ∨ r = 127
      · have e : wrB r 1 = [92, 117] ++ digB r := by unfold wrB; rw [if_pos rfl, hq]; simp only; rw [if_pos h3]
        right
        rw [e, hd, encB_low h0 (by omega)]; decide
      · left
        unfold wrB; rw [if_pos rfl, hq]; simp only; rw [if_neg h3]
  · by_cases hb : badA r = true
    · have e : wrB r way = [92, 117] ++ digB r := by unfold wrB; rw [if_neg hw, if_pos hb]
      have : r < 128 := by simp [badA] at hb; omega
      right
      rw [e, hd, encB_low h0 this]; decide
    · left
      unfold wrB; rw [if_neg hw, if_neg hb]
/-- As long as the text just if it is the text. -/
theorem esc_len : ∀ (n : Nat) (l : List UInt8) (k way : Int), l.length ≤ n → 0 ≤ k → chkF l k = -1 → l.length ≤ (escF l way).length ∧ ((escF l way).length = l.length → escF l way = l)
  | 0, l, k, way, h, _, _ => by
    obtain rfl : l = [] := List.eq_nil_of_length_eq_zero (by omega)
    exact ⟨by simp, fun _ => rfl⟩
  | n + 1, l, k, way, h, hk, hc => by
    by_cases hl : l = []
    · subst hl; exact ⟨by simp, fun _ => rfl⟩
    rw [chkF_step k hl] at hc
    split at hc
    · omega
    · rename_i h0
      obtain ⟨r, m, hd⟩ : ∃ r m, dec l = (r, m) := ⟨_, _, rfl⟩
      have hr := (dec_yes hd (by rw [hd] at h0; exact h0)).1
      have htk := take_enc hd (by rw [hd] at h0; exact h0)
      have hle := (dec_le l).2
      rw [escF_step way h0]
      rw [hd] at h0 hc hle ⊢
      simp only at h0 hc hle ⊢
      have hm : (encB r).length = m := by rw [← htk, List.length_take]; omega
      obtain ⟨i1, i2⟩ := esc_len n (l.drop m) (k + m) way (by simp; omega) (by omega) hc
      rw [List.length_drop] at i1 i2
      rw [List.length_append]
      rcases wr_len hr way with e | e
      · rw [e]
        refine ⟨by omega, fun h => ?_⟩
        rw [i2 (by omega), ← htk, List.take_append_drop]
      · exact ⟨by omega, fun h => absurd h (by omega)⟩
end Go.Tk
