/- The scan: begins, Feed, End, At. -/
import Derived.Test.YthloijpnbljpeaaDoorUtfSc
import Derived.Test.YthloijpnbljpeaaDoorUtfFl
import Derived.Test.YthloijpnbljpeaaDoorKept
import Derived.Laws.Concat
import Derived.Deep.QuietTactic
import Derived.BigQuiet
import Derived.Test.YthloijpnbljpeaaDoorReg
set_option linter.unusedVariables false
set_option linter.unusedSimpArgs false
namespace Go.Proofs.YthloijpnbljpeaaDoor
open Go.RowKit Go.Tk
theorem ext128 : ∀ k : Fin 4, ((⟨#[128, 128, 128]⟩ : ByteArray).extract 0 k.val).data.toList = List.replicate k.val 128 := by decide +kernel
theorem ext191 : ∀ k : Fin 4, ((⟨#[191, 191, 191]⟩ : ByteArray).extract 0 k.val).data.toList = List.replicate k.val 191 := by decide +kernel
theorem cat_data' (a b : ByteArray) : (a ++ b).data.toList = a.data.toList ++ b.data.toList := by
  rw [ByteArray.data_append]; simp
set_option maxRecDepth 100000 in
set_option maxHeartbeats 400000 in
theorem begins_calls (s : ByteArray) (w : World) (h0 : 0 < s.size) (hs : s.size ≤ 8000000) :
    Calls Tryd.prog 25 #[.string s] w fun e w' => e = .returned (.bool (bgB s.data.toList)) ∧ Below w.heap.size w w' := by
  obtain ⟨l, hl⟩ : ∃ l, l = s.data.toList := ⟨_, rfl⟩
  have hll : l.length = s.size := by rw [hl, Lib.size_eq]
  rw [← hl]
  cases hq : l with
  | nil => rw [hq] at hll; simp at hll; omega
  | cons b t =>
    have hg0 : s[0] = b := by
      have : l[0]'(by omega) = s[0] := by subst hl; rfl
      rw [← this]; simp [hq]
    have hlead := fun w => lead_calls (s[0]) w
    obtain ⟨n, hn⟩ : ∃ n, n = ldN b := ⟨_, rfl⟩
    have hn4 : n ≤ 4 := by rw [hn]; exact ldN_le b
    rw [show ldN (s[0]) = n by rw [hg0, hn]] at hlead
    have hlt : t.length + 1 = s.size := by rw [← hll, hq]; rfl
    have HLead := Lib.hid hlead
    clear hlead hg0
    by_cases hc : s.size < n
    · obtain ⟨k, hk⟩ : ∃ k, n = s.size + k := ⟨n - s.size, by omega⟩
      have hk3 : k < 4 := by omega
      have e1 := ext128 ⟨k, hk3⟩
      have e2 := ext191 ⟨k, hk3⟩
      simp only at e1 e2
      obtain ⟨x1, hx1⟩ : ∃ x, x = (⟨#[128, 128, 128]⟩ : ByteArray).extract 0 k := ⟨_, rfl⟩
      obtain ⟨x2, hx2⟩ : ∃ x, x = (⟨#[191, 191, 191]⟩ : ByteArray).extract 0 k := ⟨_, rfl⟩
      rw [← hx1] at e1
      rw [← hx2] at e2
      have z1 : x1.size = k := by have h := Lib.size_eq x1; rw [e1] at h; simpa using h
      have z2 : x2.size = k := by have h := Lib.size_eq x2; rw [e2] at h; simpa using h
      have hn1 := fun w => next_calls (s ++ x1) 0 w (by rw [ByteArray.size_append]; omega)
      have hn2 := fun w => next_calls (s ++ x2) 0 w (by rw [ByteArray.size_append]; omega)
      have hz0 : ∀ l' : List UInt8, nextI l' 0 = dec l' := fun l' => rfl
      rw [cat_data', ← hl, e1, hz0] at hn1
      rw [cat_data', ← hl, e2, hz0] at hn2
      have hbg : bgB (b :: t) = (decide ((dec (l ++ List.replicate k 128)).2 = n) || decide ((dec (l ++ List.replicate k 191)).2 = n)) := by
        have h1 : decide (t.length + 1 < n) = true := decide_eq_true (by omega)
        have h2 : n - (b :: t).length = k := by simp; omega
        unfold bgB fillB
        simp only [← hn]
        rw [h1, h2, hq]; rfl
      rw [hbg]
      obtain ⟨r1, m1, hd1⟩ : ∃ r m, dec (l ++ List.replicate k 128) = (r, m) := ⟨_, _, rfl⟩
      obtain ⟨r2, m2, hd2⟩ : ∃ r m, dec (l ++ List.replicate k 191) = (r, m) := ⟨_, _, rfl⟩
      rw [hd1] at hn1 ⊢
      rw [hd2] at hn2 ⊢
      simp only at hn1 hn2 ⊢
      have hsub : (n : Int) - (s.size : Int) = (k : Int) := by omega
      have h1' : (⟨#[128, 128, 128]⟩ : ByteArray).extract 0 k = x1 := hx1.symm
      have h2' : (⟨#[191, 191, 191]⟩ : ByteArray).extract 0 k = x2 := hx2.symm
      have HN1 := Lib.hid hn1
      have HN2 := Lib.hid hn2
      clear hx1 hx2 hn1 hn2 hz0 hbg hd1 hd2 e1 e2 hk hlt hn hl hq hll
      by_cases c1 : m1 = n
      · have t1 : ((m1 : Int) == (n : Int)) = true := by simp [c1]
        have hres : (decide (m1 = n) || decide (m2 = n)) = true := by simp [c1]
        rw [hres]
        clear c1 hres
        go_enter Tryd.func25, Tryd.ntmps25
        go_wp2_with (go_at_call 43; (with_reducible refine (HLead.out _).mono ?_); rintro e w1 ⟨rfl, rfl⟩)
        refine wp_loop_rounds 3 ?_
        rw [rounds_succ]
        go_wp2_with (go_at_call 36; (with_reducible refine (HN1.out _).mono ?_); rintro e w1 ⟨rfl, rfl⟩)
        go_ret
        exact ⟨rfl, (Below.refl _ _).alloc (Nat.le_refl _) _⟩
      have t1 : ((m1 : Int) == (n : Int)) = false := beq_false_of_ne (by omega)
      by_cases c2 : m2 = n
      · have t2 : ((m2 : Int) == (n : Int)) = true := by simp [c2]
        have hres : (decide (m1 = n) || decide (m2 = n)) = true := by simp [c2]
        rw [hres]
        clear c1 c2 hres
        go_enter Tryd.func25, Tryd.ntmps25
        go_wp2_with (go_at_call 43; (with_reducible refine (HLead.out _).mono ?_); rintro e w1 ⟨rfl, rfl⟩)
        refine wp_loop_rounds 3 ?_
        rw [rounds_succ]
        go_wp2_with (go_at_call 36; (with_reducible refine (HN1.out _).mono ?_); rintro e w1 ⟨rfl, rfl⟩)
        rw [rounds_succ]
        go_wp2_with (go_at_call 36; (with_reducible refine (HN2.out _).mono ?_); rintro e w1 ⟨rfl, rfl⟩)
        go_ret
        exact ⟨rfl, (Below.refl _ _).alloc (Nat.le_refl _) _⟩
      · have t2 : ((m2 : Int) == (n : Int)) = false := beq_false_of_ne (by omega)
        have hres : (decide (m1 = n) || decide (m2 = n)) = false := by simp [c1, c2]
        rw [hres]
        clear c1 c2 hres
        go_enter Tryd.func25, Tryd.ntmps25
        go_wp2_with (go_at_call 43; (with_reducible refine (HLead.out _).mono ?_); rintro e w1 ⟨rfl, rfl⟩)
        refine wp_loop_rounds 3 ?_
        rw [rounds_succ]
        go_wp2_with (go_at_call 36; (with_reducible refine (HN1.out _).mono ?_); rintro e w1 ⟨rfl, rfl⟩)
        rw [rounds_succ]
        go_wp2_with (go_at_call 36; (with_reducible refine (HN2.out _).mono ?_); rintro e w1 ⟨rfl, rfl⟩)
        rw [rounds_succ]
        go_wp2
        go_ret
        exact ⟨rfl, (Below.refl _ _).alloc (Nat.le_refl _) _⟩
    · have hbg : bgB (b :: t) = false := by
        have h1 : decide (t.length + 1 < n) = false := decide_eq_false (by omega)
        unfold bgB
        simp only [← hn]
        rw [h1]; rfl
      rw [hbg]
      clear hbg hlt hn hl hq hll
      go_enter Tryd.func25, Tryd.ntmps25
      go_wp2_with (go_at_call 43; (with_reducible refine (HLead.out _).mono ?_); rintro e w1 ⟨rfl, rfl⟩)
      go_ret
      exact ⟨rfl, Below.refl _ _⟩
end Go.Proofs.YthloijpnbljpeaaDoor
