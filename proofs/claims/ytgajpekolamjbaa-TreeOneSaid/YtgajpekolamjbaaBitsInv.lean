/- BitsCur8 BitsInv, laid as one. -/
import Derived.Test.YtgajpekolamjbaaBitsCur7
import Derived.Laws.BitsAllLaws
import Derived.Laws.Bits128
set_option linter.unusedVariables false
set_option linter.unusedSimpArgs false
/- Cursors: Upto, Varint. -/
namespace Go.Proofs.Ytgajpekolamjbaa
open Go.RowKit Go.Tk
theorem pkF_len : ∀ (l : List Int) (i : Nat) (n : Int), ∃ k : Nat, (pkF l i n).2.1 = k ∧ k ≤ i + l.length ∧ (k = 0 ∨ i < k) ∧ ((pkF l i n).2.2 = 0 ∨ (pkF l i n).2.2 = 10 ∨ (pkF l i n).2.2 = 11)
  | [], i, n => ⟨0, by simp [pkF], by simp, .inl rfl, by simp [pkF]⟩
  | b :: r, i, n => by
    simp only [pkF]
    split
    · exact ⟨0, by simp, by simp, .inl rfl, by simp⟩
    · split
      · exact ⟨i + 1, by simp, by simp only [List.length_cons]; omega, .inr (by omega), by simp⟩
      · obtain ⟨k, h1, h2, h3, h4⟩ := pkF_len r (i + 1) (bits .or .u64 n (IntKind.u64.wrap (b % 128 * 2 ^ (7 * i))))
        exact ⟨k, h1, by simp only [List.length_cons]; omega, by omega, h4⟩
/-- What Upto answers, and where it leaves the cursor. -/
def upS (z : List Int) (i : Nat) (e most : Int) : Int × Nat × Int :=
  if ¬ e = 0 then (0, i, e) else if ¬ (pk (z.drop i)).2.2 = 0 then (0, i, (pk (z.drop i)).2.2) else if most < (pk (z.drop i)).1 then (0, i, 11) else ((pk (z.drop i)).1, i + (pk (z.drop i)).2.1.toNat, 0)
theorem cupto_calls (w : World) (c : Nat) (a : Option Addr) (cap : Nat) (z : List Int) (i : Nat) (e most : Int) (h : CurC w c a cap z i e) (hz : ∀ x ∈ z, 0 ≤ x ∧ x < 256) :
    Calls Try.prog 113 #[.pointer (some ⟨c, 0, none⟩), .int .u64 most] w fun e' w' => e' = .returned (.int .u64 (upS z i e most).1) ∧ CurC w' c a cap z (upS z i e most).2.1 (upS z i e most).2.2 ∧ Kept (fun k => k = c) w w' := by
  have hP := peek_calls w c a cap z i e h hz
  obtain ⟨k, hk1, hk2, hk3, hk4⟩ := pkF_len (z.drop i) 0 0
  have c2 := h.c2
  have hle := h.le
  have hm := h.sl.max
  have hl := h.sl.le
  have hkl : i + k ≤ z.length := by simp at hk2; omega
  unfold upS
  change (pk (z.drop i)).2.1 = k at hk1
  change (pk (z.drop i)).2.2 = 0 ∨ (pk (z.drop i)).2.2 = 10 ∨ (pk (z.drop i)).2.2 = 11 at hk4
  generalize pk (z.drop i) = t at *
  obtain ⟨n, kk, er⟩ := t
  simp only at hk1 hk4 ⊢
  subst hk1
  clear hk2 hk3
  by_cases h0 : e = 0
  · subst h0
    rw [if_neg (by simp)]
    by_cases h1 : er = 0
    · subst h1
      rw [if_neg (by simp)]
      clear hk4
      by_cases h2 : most < n
      · rw [if_pos h2]
        have c2' : ∀ m, (w.drewN m).cell? ⟨c, 2, none⟩ = some (.int .i64 0) := fun _ => c2
        have f2' : ∀ m, (w.drewN m).frozen? ⟨c, 2, none⟩ = false := fun _ => h.fr 2
        go_enter Try.func113, Try.ntmps113
        go_wp2_with (go_at_call 117; refine hP.mono ?_; rintro e' w1 ⟨rfl, n1, rfl⟩; unfold pkV)
        go_ret
        exact ⟨rfl, (h.drewN n1).setE 11, ((Kept.refl (fun k => k = c) w).drewN n1).setCell (p := ⟨c, 2, none⟩) (.inl rfl) _⟩
      · rw [if_neg h2]
        have c1' : ∀ m, (w.drewN m).cell? ⟨c, 1, none⟩ = some (.int .i64 i) := fun _ => h.c1
        have f1' : ∀ m, (w.drewN m).frozen? ⟨c, 1, none⟩ = false := fun _ => h.fr 1
        go_enter Try.func113, Try.ntmps113
        go_wp2_with (go_at_call 117; refine hP.mono ?_; rintro e' w1 ⟨rfl, n1, rfl⟩; unfold pkV)
        go_ret
        have hS := (h.drewN n1).setI (i + k) hkl
        have hK : Kept (fun k => k = c) w ((w.drewN n1).setCell ⟨c, 1, none⟩ (.int .i64 (i + k : Nat))) := ((Kept.refl (fun k => k = c) w).drewN n1).setCell (p := ⟨c, 1, none⟩) (.inl rfl) _
        rw [show ((i + k : Nat) : Int) = (i : Int) + (k : Int) by omega] at hS hK
        exact ⟨rfl, by simpa using hS, hK⟩
    · rw [if_pos h1]
      have c2' : ∀ m, (w.drewN m).cell? ⟨c, 2, none⟩ = some (.int .i64 0) := fun _ => c2
      have f2' : ∀ m, (w.drewN m).frozen? ⟨c, 2, none⟩ = false := fun _ => h.fr 2
      clear hk4
      go_enter Try.func113, Try.ntmps113
      go_wp2_with (go_at_call 117; refine hP.mono ?_; rintro e' w1 ⟨rfl, n1, rfl⟩; unfold pkV)
      go_ret
      exact ⟨rfl, (h.drewN n1).setE er, ((Kept.refl (fun k => k = c) w).drewN n1).setCell (p := ⟨c, 2, none⟩) (.inl rfl) _⟩
  · rw [if_pos h0]
    clear hP hk4
    go_enter Try.func113, Try.ntmps113
    go_wp2
    go_ret
    exact ⟨rfl, h, Kept.refl _ _⟩
theorem cvarint_calls (w : World) (c : Nat) (a : Option Addr) (cap : Nat) (z : List Int) (i : Nat) (e : Int) (h : CurC w c a cap z i e) (hz : ∀ x ∈ z, 0 ≤ x ∧ x < 256) :
    Calls Try.prog 95 #[.pointer (some ⟨c, 0, none⟩)] w fun e' w' => e' = .returned (.int .u64 (upS z i e 18446744073709551615).1) ∧ CurC w' c a cap z (upS z i e 18446744073709551615).2.1 (upS z i e 18446744073709551615).2.2 ∧ Kept (fun k => k = c) w w' := by
  have hU := cupto_calls w c a cap z i e 18446744073709551615 h hz
  generalize upS z i e 18446744073709551615 = t at *
  go_enter Try.func95, Try.ntmps95
  go_wp2_with (go_at_call 113; refine hU.mono ?_; rintro e' w1 ⟨rfl, hC, hk⟩)
  go_ret
  exact ⟨rfl, hC, hk⟩
end Go.Proofs.Ytgajpekolamjbaa
/- Varints and fixed numbers, there and back: plain lemmas. -/
namespace Go.Proofs.Ytgajpekolamjbaa
open Go.RowKit Go.Tk
theorem u64_wrap {x : Int} (h0 : 0 ≤ x) (h1 : x < 18446744073709551616) : IntKind.u64.wrap x = x := by
  simp [IntKind.wrap, IntKind.bits, IntKind.signed]; omega
theorem u64_or_add (n m : Int) (s : Nat) (h0 : 0 ≤ n) (h1 : n < 2 ^ s) (h2 : 0 ≤ m) (h3 : m * 2 ^ s < 18446744073709551616) (hn : n < 18446744073709551616) : bits .or .u64 n (IntKind.u64.wrap (m * 2 ^ s)) = n + m * 2 ^ s := by
  have hp : (0 : Int) < 2 ^ s := Int.pow_pos (by decide)
  have hm0 : 0 ≤ m * 2 ^ s := Int.mul_nonneg h2 (Int.le_of_lt hp)
  rw [u64_wrap hm0 h3]
  obtain ⟨a, rfl⟩ : ∃ a : Nat, n = a := ⟨n.toNat, by omega⟩
  obtain ⟨b, rfl⟩ : ∃ b : Nat, m = b := ⟨m.toNat, by omega⟩
  have e : ((b : Int) * 2 ^ s) = ((b * 2 ^ s : Nat) : Int) := by simp
  rw [e] at h3 ⊢
  rw [u64_or_nat a (b * 2 ^ s) (by omega) (by omega)]
  have h1' : a < 2 ^ s := by exact_mod_cast h1
  have := Nat.shiftLeft_add_eq_or_of_lt h1' b
  rw [Nat.shiftLeft_eq] at this
  rw [Nat.or_comm, ← this]
  omega
theorem or128 (y : Int) (h0 : 0 ≤ y) (h1 : y < 256) : bits .or .u8 y 128 = y % 128 + 128 := by
  obtain ⟨a, rfl⟩ : ∃ a : Nat, y = a := ⟨y.toNat, by omega⟩
  have ha : a < 256 := by omega
  have := u8_or_nat a 128 ha (by decide)
  rw [show ((128 : Nat) : Int) = 128 by rfl] at this
  rw [this]
  have key : ∀ a : Fin 256, (a.val ||| 128) = a.val % 128 + 128 := by decide +kernel
  have := key ⟨a, ha⟩
  simp only at this
  rw [this]
  omega
theorem pw (i : Nat) (h : i ≤ 9) : i = 0 ∨ i = 1 ∨ i = 2 ∨ i = 3 ∨ i = 4 ∨ i = 5 ∨ i = 6 ∨ i = 7 ∨ i = 8 ∨ i = 9 := by omega
theorem pow7 (i : Nat) (h : i ≤ 8) : (0 : Int) < 2 ^ (7 * i) ∧ (2 : Int) ^ (7 * i) ≤ 72057594037927936 ∧ (2 : Int) ^ (7 * (i + 1)) = 128 * 2 ^ (7 * i) := by
  rcases pw i (by omega) with rfl | rfl | rfl | rfl | rfl | rfl | rfl | rfl | rfl | rfl <;> first | omega | decide
theorem pow79 (i : Nat) (h : i ≤ 9) : (0 : Int) < 2 ^ (7 * i) ∧ (2 : Int) ^ (7 * i) ≤ 9223372036854775808 := by
  rcases pw i h with rfl | rfl | rfl | rfl | rfl | rfl | rfl | rfl | rfl | rfl <;> decide
/-- What is read as a number is that number's varint. -/
theorem pk_vz : ∀ (l : List Int) (i : Nat) (n v : Int) (k : Int), (∀ x ∈ l, 0 ≤ x ∧ x < 256) → i ≤ 9 → 0 ≤ n → n < 2 ^ (7 * i) → pkF l i n = (v, k, 0) →
    ∃ (j : Nat) (u : Int), k = ((i + j : Nat) : Int) ∧ j ≤ l.length ∧ v = n + u * 2 ^ (7 * i) ∧ 0 ≤ u ∧ v < 18446744073709551616 ∧ l.take j = vz u ∧ (0 < i → u ≠ 0)
  | [], i, n, v, k, _, _, _, _, h => by simp [pkF] at h
  | b :: r, i, n, v, k, hb, hi, h0, h1, h => by
    obtain ⟨b0, b1⟩ := hb b (by simp)
    simp only [pkF] at h
    by_cases he : (i = 9 ∧ 1 < b) ∨ (0 < i ∧ b = 0)
    · rw [if_pos he] at h; simp at h
    rw [if_neg he] at h
    obtain ⟨q0, q1⟩ := pow79 i hi
    by_cases hlt : b < 128
    · rw [if_pos hlt] at h
      have eb : b % 128 = b := by omega
      have hbd : b * 2 ^ (7 * i) < 18446744073709551616 ∧ n + b * 2 ^ (7 * i) < 18446744073709551616 := by
        by_cases h9 : i = 9
        · subst h9
          have : b ≤ 1 := by omega
          simp at h1 ⊢
          omega
        · obtain ⟨p0, p1, p2⟩ := pow7 i (by omega)
          have : b * 2 ^ (7 * i) ≤ 127 * 2 ^ (7 * i) := Int.mul_le_mul_of_nonneg_right (by omega) (by omega)
          omega
      rw [eb, u64_or_add n b (7 * i) h0 h1 b0 hbd.1 (by omega)] at h
      simp only [Prod.mk.injEq] at h
      obtain ⟨rfl, rfl, _⟩ := h
      refine ⟨1, b, by simp, by simp, rfl, b0, hbd.2, ?_, fun hp hz => he (.inr ⟨hp, hz⟩)⟩
      rw [vz_last hlt, show b % 256 = b by omega]
      simp
    · rw [if_neg hlt] at h
      have h9 : i ≤ 8 := by omega
      obtain ⟨p0, p1, p2⟩ := pow7 i h9
      have hm : b % 128 * 2 ^ (7 * i) ≤ 127 * 2 ^ (7 * i) := Int.mul_le_mul_of_nonneg_right (by omega) (by omega)
      have hm0 : 0 ≤ b % 128 * 2 ^ (7 * i) := Int.mul_nonneg (by omega) (by omega)
      rw [u64_or_add n (b % 128) (7 * i) h0 h1 (by omega) (by omega) (by omega)] at h
      obtain ⟨j, u, hk, hj, hv, hu, hvb, ht, hz⟩ := pk_vz r (i + 1) _ v k (fun x hx => hb x (by simp [hx])) (by omega) (by omega) (by rw [p2]; omega) h
      have hu1 : 1 ≤ u := by have := hz (by omega); omega
      rw [p2] at hv
      have e2 : u * (128 * 2 ^ (7 * i)) = (u * 128) * 2 ^ (7 * i) := by rw [Int.mul_assoc]
      have e3 : (b % 128 + 128 * u) * 2 ^ (7 * i) = b % 128 * 2 ^ (7 * i) + (u * 128) * 2 ^ (7 * i) := by rw [Int.add_mul, Int.mul_comm 128 u]
      have hub : b % 128 + 128 * u < 18446744073709551616 := by
        have h5 : (b % 128 + 128 * u) * 1 ≤ (b % 128 + 128 * u) * 2 ^ (7 * i) := Int.mul_le_mul_of_nonneg_left (by omega) (by omega)
        omega
      refine ⟨j + 1, b % 128 + 128 * u, by rw [hk]; omega, by simp; omega, by rw [hv, e2, e3]; omega, by omega, hvb, ?_, fun _ => by omega⟩
      rw [vz_step (by omega) hub, or128 _ (by omega) (by omega)]
      rw [show (b % 128 + 128 * u) / 128 = u by omega, ← ht, show (b % 128 + 128 * u) % 256 % 128 + 128 = b by omega]
      simp
/-- A number's varint is read as that number. -/
theorem pk_of : ∀ (f : Nat) (u : Int) (i : Nat) (n : Int) (r : List Int), 0 ≤ u → u < 128 ^ (f + 1) → i ≤ 9 → 0 ≤ n → n < 2 ^ (7 * i) → n + u * 2 ^ (7 * i) < 18446744073709551616 → (0 < i → u ≠ 0) →
    pkF (vz u ++ r) i n = (n + u * 2 ^ (7 * i), ((i + (vz u).length : Nat) : Int), 0) := by
  intro f
  induction f with
  | zero =>
    intro u i n r h0 h1 hi n0 n1 hv hz
    rw [vz_last (by simpa using h1)]
    obtain ⟨q0, q1⟩ := pow79 i hi
    have hu : u < 128 := by simpa using h1
    have e1 : u % 256 = u := by omega
    have e2 : u % 128 = u := by omega
    have hq : 0 ≤ u * 2 ^ (7 * i) := Int.mul_nonneg h0 (by omega)
    rw [e1]
    simp only [List.cons_append, List.nil_append, pkF]
    rw [if_neg, if_pos hu, e2, u64_or_add n u (7 * i) n0 n1 h0 (by omega) (by omega)]
    · simp
    · rintro (⟨rfl, h⟩ | ⟨h, e⟩)
      · simp at hv; omega
      · exact hz h e
  | succ f ih =>
    intro u i n r h0 h1 hi n0 n1 hv hz
    obtain ⟨q0, q1⟩ := pow79 i hi
    have hq : 0 ≤ u * 2 ^ (7 * i) := Int.mul_nonneg h0 (by omega)
    have hq1 : u * 1 ≤ u * 2 ^ (7 * i) := Int.mul_le_mul_of_nonneg_left (by omega) (by omega)
    by_cases hu : u < 128
    · have e1 : u % 256 = u := by omega
      have e2 : u % 128 = u := by omega
      rw [vz_last hu, e1]
      simp only [List.cons_append, List.nil_append, pkF]
      rw [if_neg, if_pos hu, e2, u64_or_add n u (7 * i) n0 n1 h0 (by omega) (by omega)]
      · simp
      · rintro (⟨rfl, h⟩ | ⟨h, e⟩)
        · simp at hv; omega
        · exact hz h e
    · have h9 : i ≤ 8 := by
        rcases Nat.lt_or_ge i 9 with h | h
        · omega
        · obtain rfl : i = 9 := by omega
          simp at hv
          omega
      obtain ⟨p0, p1, p2⟩ := pow7 i h9
      have hub : u < 18446744073709551616 := by omega
      rw [vz_step (by omega) hub, or128 _ (by omega) (by omega)]
      simp only [List.cons_append, pkF]
      rw [if_neg (by rintro (⟨h, _⟩ | ⟨_, h⟩) <;> omega), if_neg (by omega)]
      have e2 : (u % 256 % 128 + 128) % 128 = u % 128 := by omega
      rw [e2]
      have hm : u % 128 * 2 ^ (7 * i) ≤ 127 * 2 ^ (7 * i) := Int.mul_le_mul_of_nonneg_right (by omega) (by omega)
      have hm0 : 0 ≤ u % 128 * 2 ^ (7 * i) := Int.mul_nonneg (by omega) (by omega)
      rw [u64_or_add n (u % 128) (7 * i) n0 n1 (by omega) (by omega) (by omega)]
      have e3 : u * 2 ^ (7 * i) = u % 128 * 2 ^ (7 * i) + u / 128 * (128 * 2 ^ (7 * i)) := by
        rw [← Int.mul_assoc, ← Int.add_mul]; congr 1; omega
      rw [ih (u / 128) (i + 1) _ r (by omega) (by rw [Int.pow_succ] at h1; omega) (by omega) (by omega) (by rw [p2]; omega) (by rw [p2]; omega) (fun _ => by omega), p2, e3]
      simp only [List.length_cons, Prod.mk.injEq, and_true]
      omega
theorem pk_back (u : Int) (r : List Int) (h0 : 0 ≤ u) (h1 : u < 18446744073709551616) : pk (vz u ++ r) = (u, ((vz u).length : Int), 0) := by
  have := pk_of 9 u 0 0 r h0 (by have : (128 : Int) ^ 10 = 1180591620717411303424 := by decide
                                 omega) (by omega) (by omega) (by decide) (by simpa using h1) (by omega)
  unfold pk
  rw [this]
  simp
/-- A varint that is cut is told to be short. -/
theorem pk_cut : ∀ (f : Nat) (u : Int) (i : Nat) (n : Int) (j : Nat), 0 ≤ u → u < 128 ^ (f + 1) → u < 18446744073709551616 → j < (vz u).length → i + f ≤ 9 → pkF ((vz u).take j) i n = (0, 0, 10) := by
  intro f
  induction f with
  | zero =>
    intro u i n j h0 h1 _ hj _
    rw [vz_last (by simpa using h1)] at hj ⊢
    obtain rfl : j = 0 := by simpa using hj
    simp [pkF]
  | succ f ih =>
    intro u i n j h0 h1 h2 hj hi
    by_cases hu : u < 128
    · rw [vz_last hu] at hj ⊢
      obtain rfl : j = 0 := by simpa using hj
      simp [pkF]
    · rw [vz_step (by omega) h2, or128 _ (by omega) (by omega)] at hj ⊢
      cases j with
      | zero => simp [pkF]
      | succ j =>
        simp only [List.take_succ_cons, pkF]
        rw [if_neg (by rintro (⟨h, _⟩ | ⟨_, h⟩) <;> omega), if_neg (by omega)]
        exact ih _ _ _ j (by omega) (by rw [Int.pow_succ] at h1; omega) (by omega) (by simpa using hj) (by omega)
theorem pk_short (u : Int) (j : Nat) (h0 : 0 ≤ u) (h1 : u < 18446744073709551616) (hj : j < (vz u).length) : pk ((vz u).take j) = (0, 0, 10) :=
  pk_cut 9 u 0 0 j h0 (by have : (128 : Int) ^ 10 = 1180591620717411303424 := by decide
                          omega) h1 hj (by omega)
theorem pow8 (k : Nat) (h : k ≤ 7) : (0 : Int) < 2 ^ (8 * k) ∧ (2 : Int) ^ (8 * k) ≤ 72057594037927936 ∧ (2 : Int) ^ (8 * (k + 1)) = 256 * 2 ^ (8 * k) := by
  rcases pw k (by omega) with rfl | rfl | rfl | rfl | rfl | rfl | rfl | rfl | rfl | rfl <;> first | omega | decide
theorem fz_low (a x : Int) (k : Nat) : ∀ j, j ≤ k → fz (a + x * 2 ^ (8 * k)) j = fz a j
  | 0, _ => rfl
  | j + 1, h => by
    simp only [fz]
    rw [fz_low a x k j (by omega)]
    congr 2
    obtain ⟨d, rfl⟩ : ∃ d, k = j + 1 + d := ⟨k - (j + 1), by omega⟩
    have e : (2 : Int) ^ (8 * (j + 1 + d)) = (256 * 2 ^ (8 * d)) * 2 ^ (8 * j) := by
      rw [show 8 * (j + 1 + d) = 8 + 8 * d + 8 * j by omega, Int.pow_add, Int.pow_add]
      simp
    have hp : (2 : Int) ^ (8 * j) ≠ 0 := Int.ne_of_gt (Int.pow_pos (by decide))
    rw [e, ← Int.mul_assoc, Int.add_mul_ediv_right _ _ hp, ← Int.mul_assoc, Int.mul_comm (x * 256), ← Int.mul_assoc, Int.mul_comm _ 256, Int.add_mul_emod_self_left]
/-- What is read as a fixed number is that number's bytes. -/
theorem fx_fz (l : List Int) (hl : ∀ x ∈ l, 0 ≤ x ∧ x < 256) : ∀ k, k ≤ l.length → k ≤ 8 → 0 ≤ fxA l k ∧ fxA l k < 2 ^ (8 * k) ∧ fz (fxA l k) k = l.take k
  | 0, _, _ => by simp [fxA, fz]
  | k + 1, h, h8 => by
    obtain ⟨a0, a1, a2⟩ := fx_fz l hl k (by omega) (by omega)
    obtain ⟨p0, p1, p2⟩ := pow8 k (by omega)
    have hx := hl (l.getD k 0) (by simp [show k < l.length by omega])
    simp only [fxA]
    generalize hxx : l.getD k 0 = x at *
    have hm : x * 2 ^ (8 * k) ≤ 255 * 2 ^ (8 * k) := Int.mul_le_mul_of_nonneg_right (by omega) (by omega)
    have hm0 : 0 ≤ x * 2 ^ (8 * k) := Int.mul_nonneg (by omega) (by omega)
    rw [u64_or_add _ x (8 * k) a0 a1 hx.1 (by omega) (by omega)]
    refine ⟨by omega, by rw [p2]; omega, ?_⟩
    simp only [fz]
    rw [fz_low _ _ k k (Nat.le_refl _), a2, Int.add_mul_ediv_right _ _ (by omega), Int.ediv_eq_zero_of_lt a0 a1, List.take_succ_eq_append_getElem (by omega)]
    have : l[k] = x := by rw [← hxx]; simp [show k < l.length by omega]
    rw [this, show (0 + x) % 256 = x by omega]
theorem fz_u8 (n : Int) : ∀ k, ∀ x ∈ fz n k, 0 ≤ x ∧ x < 256
  | 0, x, h => by simp [fz] at h
  | k + 1, x, h => by
    simp only [fz, List.mem_append, List.mem_singleton] at h
    rcases h with h | rfl
    · exact fz_u8 n k x h
    · omega
theorem fxA_app (a b : List Int) : ∀ k, k ≤ a.length → fxA (a ++ b) k = fxA a k
  | 0, _ => rfl
  | k + 1, h => by
    simp only [fxA]
    rw [fxA_app a b k (by omega)]
    congr 3
    simp [List.getElem?_append_left (show k < a.length by omega)]
/-- A number's bytes are read as that number, as far as they go. -/
theorem fz_fx (n : Int) (h0 : 0 ≤ n) : ∀ k, k ≤ 8 → fxA (fz n k) k = n % 2 ^ (8 * k)
  | 0, _ => by simp [fxA, Int.emod_one]
  | k + 1, h8 => by
    obtain ⟨p0, p1, p2⟩ := pow8 k (by omega)
    simp only [fxA, fz]
    rw [fxA_app _ _ k (by rw [fz_len]; omega), fz_fx n h0 k (by omega)]
    have e1 : (fz n k ++ [n / 2 ^ (8 * k) % 256]).getD k 0 = n / 2 ^ (8 * k) % 256 := by
      have := fz_len n k
      simp [List.getElem?_append_right (show (fz n k).length ≤ k by omega), this]
    rw [e1]
    have b0 : 0 ≤ n / 2 ^ (8 * k) % 256 ∧ n / 2 ^ (8 * k) % 256 ≤ 255 := by omega
    have c0 : 0 ≤ n % 2 ^ (8 * k) ∧ n % 2 ^ (8 * k) < 2 ^ (8 * k) := ⟨Int.emod_nonneg _ (by omega), Int.emod_lt_of_pos _ p0⟩
    have hm : n / 2 ^ (8 * k) % 256 * 2 ^ (8 * k) ≤ 255 * 2 ^ (8 * k) := Int.mul_le_mul_of_nonneg_right b0.2 (by omega)
    rw [u64_or_add _ _ (8 * k) c0.1 c0.2 b0.1 (by omega) (by omega), p2]
    have e2 := Int.emod_emod_of_dvd n (show (2 : Int) ^ (8 * k) ∣ 256 * 2 ^ (8 * k) from ⟨256, by rw [Int.mul_comm]⟩)
    have e3 : n % (256 * 2 ^ (8 * k)) = 2 ^ (8 * k) * (n / 2 ^ (8 * k) % 256) + n % 2 ^ (8 * k) := by
      rw [Int.mul_comm 256]
      have h1 := Int.mul_ediv_add_emod n (2 ^ (8 * k))
      have h2 := Int.mul_ediv_add_emod (n / 2 ^ (8 * k)) 256
      have h3 : n = (2 ^ (8 * k) * (n / 2 ^ (8 * k) % 256) + n % 2 ^ (8 * k)) + (2 ^ (8 * k) * 256) * (n / 2 ^ (8 * k) / 256) := by
        conv => lhs; rw [← h1, ← h2]
        rw [Int.mul_add, Int.mul_assoc]
        omega
      conv => lhs; rw [h3]
      rw [Int.add_mul_emod_self_left]
      refine Int.emod_eq_of_lt ?_ ?_
      · have := Int.mul_nonneg (Int.le_of_lt p0) b0.1; omega
      · have : 2 ^ (8 * k) * (n / 2 ^ (8 * k) % 256) ≤ 2 ^ (8 * k) * 255 := Int.mul_le_mul_of_nonneg_left b0.2 (by omega)
        omega
    rw [e3, Int.mul_comm]
    omega
end Go.Proofs.Ytgajpekolamjbaa
