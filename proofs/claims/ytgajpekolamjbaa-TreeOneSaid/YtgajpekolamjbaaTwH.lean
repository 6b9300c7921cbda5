/- TwG TwH, laid as one. -/
import Derived.Test.YtgajpekolamjbaaTpG
import Derived.Test.YtgajpekolamjbaaTxA
set_option linter.unusedVariables false
set_option linter.unusedSimpArgs false
/- asked: is each answer the document's? Len, Get, Find. -/
namespace Go.Proofs.Ytgajpekolamjbaa
open Go Go.RowKit Go.Tk
/-- The tree's place of a quad is the document's. -/
theorem fnd_eq {L : List Qd} (R : Right L) {q : Qd} {n : Nat} {f : Bool} (h : FndQ L q n f) : n = fndN L q ∧ f = (decide (fndN L q < L.length) && decide (L.getD (fndN L q) default = q)) := by
  obtain ⟨h1, h2, h3, h4, h5⟩ := h
  have hle := fndN_le L q
  have e : n = fndN L q := by
    rcases Nat.lt_trichotomy n (fndN L q) with h | h | h
    · have g1 := fndN_lt h
      have g2 := h3 n (Nat.le_refl _) (by omega)
      have : cmpQ (qAt L n) q < 0 := g1
      omega
    · exact h
    · have g1 := fndN_ge (L := L) (q := q) (by omega)
      have g2 := h2 _ h
      have : 0 ≤ cmpQ (qAt L (fndN L q)) q := g1
      omega
  refine ⟨e, ?_⟩
  rw [← e]
  cases f with
  | true =>
    obtain ⟨g1, g2⟩ := h4 rfl
    rw [decide_eq_true g1, decide_eq_true (show L.getD n default = q from g2)]; rfl
  | false =>
    by_cases g1 : n < L.length
    · have g2 := h5 rfl g1
      have g3 : ¬ L.getD n default = q := fun he => by
        have : qAt L n = q := he
        rw [this] at g2
        unfold cmpQ at g2; simp at g2
      rw [decide_eq_false g3, Bool.and_false]
    · rw [decide_eq_false g1, Bool.false_and]
set_option maxRecDepth 100000 in
set_option maxHeartbeats 4000000 in
theorem asked_len (w : World) (gd : Nat) (b : List UInt8) (a : Option Addr) (cap : Nat) (vp : Nat → Option Addr) (hT : TreeM w gd b a cap vp) (L : List Qd) (B : Blt b L) (al : Option Addr) (cl : Nat) (hs : SlQ w al L.length cl L) (N : Int) (hN : -9223372036854775808 ≤ N ∧ N ≤ 9223372036854775807) (q : Qd) (M : Int) (hM : -9223372036854775808 ≤ M ∧ M ≤ 9223372036854775807) :
    Calls Try.prog 18 #[.pointer (some ⟨gd, 0, none⟩), .slice al L.length cl, .agg #[.int .i64 0, .int .i64 N, .int .i64 q.a, .int .i64 q.b, .int .i64 q.c, .int .i64 q.d, .int .i64 M]] w fun e w' => e = .returned (.bool true) ∧ Below w.heap.size w w' := by
  obtain ⟨Mn, hMn⟩ : ∃ Mn : Nat, Mn = M.toNat := ⟨_, rfl⟩
  have hmx : max (0 : Int) M = (Mn : Nat) := by omega
  have hMn2 : Mn ≤ 9223372036854775807 := by omega
  obtain ⟨n, hn⟩ : ∃ n, n = L.length := ⟨_, rfl⟩
  have hn20 : n ≤ 1048576 := by rw [hn]; exact B.right.len
  have hcap := hs.le
  have hN3 : tN b 3 = n := by rw [hn]; have := B.n 3 (by omega); rw [posL_three B.right _ (Nat.le_refl _)] at this; exact this
  have hB0 : Below w.heap.size w (w.alloc (.cells #[.int .i64 0, .int .i64 N, .int .i64 q.a, .int .i64 q.b, .int .i64 q.c, .int .i64 q.d, .int .i64 M] 49)) := (Below.refl _ _).alloc (Nat.le_refl _) _
  have hg0 := heap_alloc_new w (.cells #[.int .i64 0, .int .i64 N, .int .i64 q.a, .int .i64 q.b, .int .i64 q.c, .int .i64 q.d, .int .i64 M] 49)
  have hz0 : w.heap.size < (w.alloc (.cells #[.int .i64 0, .int .i64 N, .int .i64 q.a, .int .i64 q.b, .int .i64 q.c, .int .i64 q.d, .int .i64 M] 49)).heap.size := by simp
  rw [← hn] at hs hcap ⊢
  have HT := Lib.hid hT
  have HS := Lib.hid hs
  have HN := Lib.hid hn
  have HN3 := Lib.hid hN3
  have HMN := Lib.hid hMn
  have HBL := Lib.hid B
  clear hT hs hn hN3 hMn B
  go_enter Try.func18, Try.ntmps18
  go_upto_region 1 with fail
  generalize w.alloc (.cells #[.int .i64 0, .int .i64 N, .int .i64 q.a, .int .i64 q.b, .int .i64 q.c, .int .i64 q.d, .int .i64 M] 49) = w0 at hB0 hg0 hz0 ⊢
  have a0 := cell_of_row w0 w.heap.size 0 _ _ _ hg0
  have a1 := cell_of_row w0 w.heap.size 1 _ _ _ hg0
  have a2 := cell_of_row w0 w.heap.size 2 _ _ _ hg0
  have a3 := cell_of_row w0 w.heap.size 3 _ _ _ hg0
  have a4 := cell_of_row w0 w.heap.size 4 _ _ _ hg0
  have a5 := cell_of_row w0 w.heap.size 5 _ _ _ hg0
  have a6 := cell_of_row w0 w.heap.size 6 _ _ _ hg0
  simp only [List.getElem?_toArray, List.getElem?_cons_zero, List.getElem?_cons_succ] at a0 a1 a2 a3 a4 a5 a6
  have HB0 := Lib.hid hB0
  have HG0 := Lib.hid hg0
  have HT0 := Lib.hid (HT.out.below hB0)
  have HS0 := Lib.hid (HS.out.keep hB0)
  have hzz := hB0.size
  clear hB0 hg0
  have hlen := tlen_calls HT0.out
  rw [HN3.out] at hlen
  have HLEN := Lib.hid hlen
  have he : ((n : Int) == (n : Int)) = true := by simp
  clear hlen
  go_wp2_with (go_at_call 22; (with_reducible refine HLEN.out.mono ?_); rintro e w2 ⟨rfl, rfl⟩)
  go_ret
  exact ⟨rfl, HB0.out⟩
set_option maxRecDepth 100000 in
set_option maxHeartbeats 4000000 in
theorem asked_find (w : World) (gd : Nat) (b : List UInt8) (a : Option Addr) (cap : Nat) (vp : Nat → Option Addr) (hT : TreeM w gd b a cap vp) (L : List Qd) (B : Blt b L) (al : Option Addr) (cl : Nat) (hs : SlQ w al L.length cl L) (N : Int) (hN : -9223372036854775808 ≤ N ∧ N ≤ 9223372036854775807) (q : Qd) (M : Int) (hM : -9223372036854775808 ≤ M ∧ M ≤ 9223372036854775807) :
    Calls Try.prog 18 #[.pointer (some ⟨gd, 0, none⟩), .slice al L.length cl, .agg #[.int .i64 2, .int .i64 N, .int .i64 q.a, .int .i64 q.b, .int .i64 q.c, .int .i64 q.d, .int .i64 M]] w fun e w' => e = .returned (.bool true) ∧ Below w.heap.size w w' := by
  obtain ⟨Mn, hMn⟩ : ∃ Mn : Nat, Mn = M.toNat := ⟨_, rfl⟩
  have hmx : max (0 : Int) M = (Mn : Nat) := by omega
  have hMn2 : Mn ≤ 9223372036854775807 := by omega
  obtain ⟨n, hn⟩ : ∃ n, n = L.length := ⟨_, rfl⟩
  have hn20 : n ≤ 1048576 := by rw [hn]; exact B.right.len
  have hcap := hs.le
  have hN3 : tN b 3 = n := by rw [hn]; have := B.n 3 (by omega); rw [posL_three B.right _ (Nat.le_refl _)] at this; exact this
  have hB0 : Below w.heap.size w (w.alloc (.cells #[.int .i64 2, .int .i64 N, .int .i64 q.a, .int .i64 q.b, .int .i64 q.c, .int .i64 q.d, .int .i64 M] 49)) := (Below.refl _ _).alloc (Nat.le_refl _) _
  have hg0 := heap_alloc_new w (.cells #[.int .i64 2, .int .i64 N, .int .i64 q.a, .int .i64 q.b, .int .i64 q.c, .int .i64 q.d, .int .i64 M] 49)
  have hz0 : w.heap.size < (w.alloc (.cells #[.int .i64 2, .int .i64 N, .int .i64 q.a, .int .i64 q.b, .int .i64 q.c, .int .i64 q.d, .int .i64 M] 49)).heap.size := by simp
  rw [← hn] at hs hcap ⊢
  have HT := Lib.hid hT
  have HS := Lib.hid hs
  have HN := Lib.hid hn
  have HN3 := Lib.hid hN3
  have HMN := Lib.hid hMn
  have HBL := Lib.hid B
  clear hT hs hn hN3 hMn B
  go_enter Try.func18, Try.ntmps18
  go_upto_region 1 with fail
  generalize w.alloc (.cells #[.int .i64 2, .int .i64 N, .int .i64 q.a, .int .i64 q.b, .int .i64 q.c, .int .i64 q.d, .int .i64 M] 49) = w0 at hB0 hg0 hz0 ⊢
  have a0 := cell_of_row w0 w.heap.size 0 _ _ _ hg0
  have a1 := cell_of_row w0 w.heap.size 1 _ _ _ hg0
  have a2 := cell_of_row w0 w.heap.size 2 _ _ _ hg0
  have a3 := cell_of_row w0 w.heap.size 3 _ _ _ hg0
  have a4 := cell_of_row w0 w.heap.size 4 _ _ _ hg0
  have a5 := cell_of_row w0 w.heap.size 5 _ _ _ hg0
  have a6 := cell_of_row w0 w.heap.size 6 _ _ _ hg0
  simp only [List.getElem?_toArray, List.getElem?_cons_zero, List.getElem?_cons_succ] at a0 a1 a2 a3 a4 a5 a6
  have HB0 := Lib.hid hB0
  have HG0 := Lib.hid hg0
  have HT0 := Lib.hid (HT.out.below hB0)
  have HS0 := Lib.hid (HS.out.keep hB0)
  have hzz := hB0.size
  clear hB0 hg0
  have hf := tfind_calls HT0.out q
  have hr := fun X hX => rfind_calls X al n cl L (HS0.out.keep (w' := X) hX) hn20 q
  have hfd := HBL.out.find q
  obtain ⟨e1, e2⟩ := fnd_eq HBL.out.right hfd
  obtain ⟨R, hR⟩ : ∃ R, R = fndN L q := ⟨_, rfl⟩
  obtain ⟨F, hF⟩ : ∃ F, F = (decide (fndN L q < L.length) && decide (L.getD (fndN L q) default = q)) := ⟨_, rfl⟩
  rw [e1, ← hR, e2, ← hF] at hf
  rw [← HN.out, ← hR] at hF
  simp only [← hR] at hr
  simp only [← hF] at hr
  have HF := Lib.hid (show Calls Try.prog 24 #[.pointer (some ⟨gd, 0, none⟩), .agg #[.int .i64 q.a, .int .i64 q.b, .int .i64 q.c, .int .i64 q.d]] w0 fun e w' => e = .returned (.tuple #[.int .i64 (R : Nat), .bool F]) ∧ Below w0.heap.size w0 w' from hf)
  have HRR := Lib.hid (show ∀ X, Below w0.heap.size w0 X → Calls Try.prog 61 #[.slice al n cl, .agg #[.int .i64 q.a, .int .i64 q.b, .int .i64 q.c, .int .i64 q.d]] X fun e w' => e = .returned (.tuple #[.int .i64 (R : Nat), .bool F]) ∧ Below X.heap.size X w' from hr)
  have he : ((R : Int) == (R : Int)) = true := by simp
  have hee : (F == F) = true := by simp
  clear hf hr hfd e1 e2 hR hF
  go_upto_region 13 with (go_at_call 24; (with_reducible refine HF.out.mono ?_); rintro e w2 ⟨rfl, hb2⟩; (have HB2 := Lib.hid hb2); clear hb2)
  have hz2 := HB2.out.size
  have b2 := (HB2.out.cell (p := ⟨w.heap.size, 2, none⟩) hz0).trans a2
  have b3 := (HB2.out.cell (p := ⟨w.heap.size, 3, none⟩) hz0).trans a3
  have b4 := (HB2.out.cell (p := ⟨w.heap.size, 4, none⟩) hz0).trans a4
  have b5 := (HB2.out.cell (p := ⟨w.heap.size, 5, none⟩) hz0).trans a5
  go_wp2_with (go_at_call 61; (with_reducible refine (HRR.out _ HB2.out).mono ?_); rintro e w3 ⟨rfl, hb3⟩; (have HB3 := Lib.hid hb3); clear hb3)
  go_ret
  exact ⟨rfl, HB0.out.trans ((HB2.out.trans (HB3.out.mono hz2)).mono hzz)⟩
set_option maxRecDepth 100000 in
set_option maxHeartbeats 4000000 in
theorem asked_get (w : World) (gd : Nat) (b : List UInt8) (a : Option Addr) (cap : Nat) (vp : Nat → Option Addr) (hT : TreeM w gd b a cap vp) (L : List Qd) (B : Blt b L) (al : Option Addr) (cl : Nat) (hs : SlQ w al L.length cl L) (N : Int) (hN : -9223372036854775808 ≤ N ∧ N ≤ 9223372036854775807) (q : Qd) (M : Int) (hM : -9223372036854775808 ≤ M ∧ M ≤ 9223372036854775807) :
    Calls Try.prog 18 #[.pointer (some ⟨gd, 0, none⟩), .slice al L.length cl, .agg #[.int .i64 1, .int .i64 N, .int .i64 q.a, .int .i64 q.b, .int .i64 q.c, .int .i64 q.d, .int .i64 M]] w fun e w' => e = .returned (.bool true) ∧ Below w.heap.size w w' := by
  obtain ⟨Mn, hMn⟩ : ∃ Mn : Nat, Mn = M.toNat := ⟨_, rfl⟩
  have hmx : max (0 : Int) M = (Mn : Nat) := by omega
  have hMn2 : Mn ≤ 9223372036854775807 := by omega
  obtain ⟨n, hn⟩ : ∃ n, n = L.length := ⟨_, rfl⟩
  have hn20 : n ≤ 1048576 := by rw [hn]; exact B.right.len
  have hcap := hs.le
  have hN3 : tN b 3 = n := by rw [hn]; have := B.n 3 (by omega); rw [posL_three B.right _ (Nat.le_refl _)] at this; exact this
  have hB0 : Below w.heap.size w (w.alloc (.cells #[.int .i64 1, .int .i64 N, .int .i64 q.a, .int .i64 q.b, .int .i64 q.c, .int .i64 q.d, .int .i64 M] 49)) := (Below.refl _ _).alloc (Nat.le_refl _) _
  have hg0 := heap_alloc_new w (.cells #[.int .i64 1, .int .i64 N, .int .i64 q.a, .int .i64 q.b, .int .i64 q.c, .int .i64 q.d, .int .i64 M] 49)
  have hz0 : w.heap.size < (w.alloc (.cells #[.int .i64 1, .int .i64 N, .int .i64 q.a, .int .i64 q.b, .int .i64 q.c, .int .i64 q.d, .int .i64 M] 49)).heap.size := by simp
  rw [← hn] at hs hcap ⊢
  have HT := Lib.hid hT
  have HS := Lib.hid hs
  have HN := Lib.hid hn
  have HN3 := Lib.hid hN3
  have HMN := Lib.hid hMn
  have HBL := Lib.hid B
  clear hT hs hn hN3 hMn B
  go_enter Try.func18, Try.ntmps18
  go_upto_region 1 with fail
  generalize w.alloc (.cells #[.int .i64 1, .int .i64 N, .int .i64 q.a, .int .i64 q.b, .int .i64 q.c, .int .i64 q.d, .int .i64 M] 49) = w0 at hB0 hg0 hz0 ⊢
  have a0 := cell_of_row w0 w.heap.size 0 _ _ _ hg0
  have a1 := cell_of_row w0 w.heap.size 1 _ _ _ hg0
  have a2 := cell_of_row w0 w.heap.size 2 _ _ _ hg0
  have a3 := cell_of_row w0 w.heap.size 3 _ _ _ hg0
  have a4 := cell_of_row w0 w.heap.size 4 _ _ _ hg0
  have a5 := cell_of_row w0 w.heap.size 5 _ _ _ hg0
  have a6 := cell_of_row w0 w.heap.size 6 _ _ _ hg0
  simp only [List.getElem?_toArray, List.getElem?_cons_zero, List.getElem?_cons_succ] at a0 a1 a2 a3 a4 a5 a6
  have HB0 := Lib.hid hB0
  have HG0 := Lib.hid hg0
  have HT0 := Lib.hid (HT.out.below hB0)
  have HS0 := Lib.hid (HS.out.keep hB0)
  have hzz := hB0.size
  clear hB0 hg0
  by_cases hin : 0 ≤ N ∧ N < (n : Int)
  · obtain ⟨t, ht⟩ : ∃ t : Nat, N = (t : Nat) := ⟨N.toNat, by omega⟩
    subst ht
    have htn : t < n := by omega
    obtain ⟨g, hg1, hg2⟩ := HBL.out.get (t := t) (by rw [← HN.out]; exact htn)
    have hget := tget_calls w0 gd b a cap vp HT0.out (t : Nat) (by omega)
    rw [hg1] at hget
    obtain ⟨x, hx⟩ : ∃ x, x = qAt L t := ⟨_, rfl⟩
    have g0 : ((g 0 : Nat) : Int) = x.a := by rw [hx]; exact hg2 0 (by omega)
    have g1 : ((g 1 : Nat) : Int) = x.b := by rw [hx]; exact hg2 1 (by omega)
    have g2 : ((g 2 : Nat) : Int) = x.c := by rw [hx]; exact hg2 2 (by omega)
    have g3 : ((g 3 : Nat) : Int) = x.d := by rw [hx]; exact hg2 3 (by omega)
    have hget2 : Calls Try.prog 23 #[.pointer (some ⟨gd, 0, none⟩), .int .i64 (t : Nat)] w0 fun e w' => Below w0.heap.size w0 w' ∧ e = .returned (.tuple #[.agg #[.int .i64 (g 0 : Nat), .int .i64 (g 1 : Nat), .int .i64 (g 2 : Nat), .int .i64 (g 3 : Nat)], .bool true]) := hget
    rw [g0, g1, g2, g3] at hget2
    have HGET := Lib.hid hget2
    have HX := Lib.hid hx
    obtain ⟨bq, oq, hab, hcq⟩ := HS0.out.cell t htn
    subst hab
    have HC := Lib.hid (show w0.rangeAt bq (oq + t * 4) (qcs x) by rw [hx]; exact hcq)
    have e1 : decide ((t : Int) < 0) = false := decide_eq_false (by omega)
    have e2 : decide ((n : Int) ≤ (t : Int)) = false := decide_eq_false (by omega)
    have e3 : decide (n ≤ t) = false := decide_eq_false (by omega)
    clear hg1 hg2 hget hget2 g0 g1 g2 g3 hx hcq
    go_upto_region 8 with (go_at_call 23; (with_reducible refine HGET.out.mono ?_); rintro e w2 ⟨hb2, rfl⟩; (have HB2 := Lib.hid hb2); clear hb2)
    have hz2 := HB2.out.size
    have hb3 := HB2.out.alloc hz2 (.cells #[.int .i64 x.a, .int .i64 x.b, .int .i64 x.c, .int .i64 x.d] 24)
    have hg3 := heap_alloc_new w2 (.cells #[.int .i64 x.a, .int .i64 x.b, .int .i64 x.c, .int .i64 x.d] 24)
    generalize w2.alloc (.cells #[.int .i64 x.a, .int .i64 x.b, .int .i64 x.c, .int .i64 x.d] 24) = w3 at hb3 hg3 ⊢
    have b1 := (hb3.cell (p := ⟨w.heap.size, 1, none⟩) hz0).trans a1
    have t0 : w3.cell? ⟨w2.heap.size, 0, none⟩ = some (.int .i64 x.a) := cell_of_row w3 w2.heap.size 0 _ _ _ hg3
    have t1 : w3.cell? ⟨w2.heap.size, 1, none⟩ = some (.int .i64 x.b) := cell_of_row w3 w2.heap.size 1 _ _ _ hg3
    have t2 : w3.cell? ⟨w2.heap.size, 2, none⟩ = some (.int .i64 x.c) := cell_of_row w3 w2.heap.size 2 _ _ _ hg3
    have t3 : w3.cell? ⟨w2.heap.size, 3, none⟩ = some (.int .i64 x.d) := cell_of_row w3 w2.heap.size 3 _ _ _ hg3
    have hk := range_keep HC.out hb3
    have y0 : w3.cell? ⟨bq, oq + t * 4, none⟩ = some (.int .i64 x.a) := qcs_at hk 0 (by omega)
    have y1 : w3.cell? ⟨bq, oq + t * 4 + 1, none⟩ = some (.int .i64 x.b) := qcs_at hk 1 (by omega)
    have y2 : w3.cell? ⟨bq, oq + t * 4 + 2, none⟩ = some (.int .i64 x.c) := qcs_at hk 2 (by omega)
    have y3 : w3.cell? ⟨bq, oq + t * 4 + 3, none⟩ = some (.int .i64 x.d) := qcs_at hk 3 (by omega)
    have heq : ∀ X, (binOp .eql 24 (.agg #[.int .i64 x.a, .int .i64 x.b, .int .i64 x.c, .int .i64 x.d]) (.agg #[.int .i64 x.a, .int .i64 x.b, .int .i64 x.c, .int .i64 x.d])).run Try.prog X = .ok (.bool true) X := fun X => by have := eqlQ X x x; rw [decide_eq_true rfl] at this; exact this
    have HB3 := Lib.hid hb3
    clear hb3 hg3 hk a0 a1 a2 a3 a4 a5 a6
    generalize w2.heap.size = g9 at t0 t1 t2 t3 ⊢
    go_wp2_with fail
    go_quiet (fail)
    go_wp2_with fail
    go_ret
    exact ⟨rfl, below_drewN (HB0.out.trans (HB3.out.mono hzz)) nq⟩
  · have hno := HBL.out.getno (i := N) (by rw [← HN.out]; omega)
    have hget := tget_calls w0 gd b a cap vp HT0.out N hN
    rw [hno] at hget
    have hget2 : Calls Try.prog 23 #[.pointer (some ⟨gd, 0, none⟩), .int .i64 N] w0 fun e w' => Below w0.heap.size w0 w' ∧ e = .returned (.tuple #[.agg #[.int .i64 0, .int .i64 0, .int .i64 0, .int .i64 0], .bool false]) := hget
    have HGET := Lib.hid hget2
    clear hget hget2 hno
    have heq : ∀ X, (binOp .eql 24 (.agg #[.int .i64 0, .int .i64 0, .int .i64 0, .int .i64 0]) (.agg #[.int .i64 0, .int .i64 0, .int .i64 0, .int .i64 0])).run Try.prog X = .ok (.bool true) X := fun X => by have := eqlQ X ⟨0, 0, 0, 0⟩ ⟨0, 0, 0, 0⟩; rw [decide_eq_true rfl] at this; exact this
    go_upto_region 8 with (go_at_call 23; (with_reducible refine HGET.out.mono ?_); rintro e w2 ⟨hb2, rfl⟩; (have HB2 := Lib.hid hb2); clear hb2)
    have hz2 := HB2.out.size
    have hb3 := HB2.out.alloc hz2 (.cells #[.int .i64 0, .int .i64 0, .int .i64 0, .int .i64 0] 24)
    have hg3 := heap_alloc_new w2 (.cells #[.int .i64 0, .int .i64 0, .int .i64 0, .int .i64 0] 24)
    generalize w2.alloc (.cells #[.int .i64 0, .int .i64 0, .int .i64 0, .int .i64 0] 24) = w3 at hb3 hg3 ⊢
    have b1 := (hb3.cell (p := ⟨w.heap.size, 1, none⟩) hz0).trans a1
    have t0 : w3.cell? ⟨w2.heap.size, 0, none⟩ = some (.int .i64 0) := cell_of_row w3 w2.heap.size 0 _ _ _ hg3
    have t1 : w3.cell? ⟨w2.heap.size, 1, none⟩ = some (.int .i64 0) := cell_of_row w3 w2.heap.size 1 _ _ _ hg3
    have t2 : w3.cell? ⟨w2.heap.size, 2, none⟩ = some (.int .i64 0) := cell_of_row w3 w2.heap.size 2 _ _ _ hg3
    have t3 : w3.cell? ⟨w2.heap.size, 3, none⟩ = some (.int .i64 0) := cell_of_row w3 w2.heap.size 3 _ _ _ hg3
    have HB3 := Lib.hid hb3
    clear hb3 hg3 a0 a1 a2 a3 a4 a5 a6
    generalize w2.heap.size = g9 at t0 t1 t2 t3 ⊢
    by_cases hneg : N < 0
    · have e1 : decide (N < 0) = true := decide_eq_true hneg
      go_wp2_with fail
      go_ret
      exact ⟨rfl, HB0.out.trans (HB3.out.mono hzz)⟩
    · have e1 : decide (N < 0) = false := decide_eq_false hneg
      have e2 : decide ((n : Int) ≤ N) = true := decide_eq_true (by omega)
      go_wp2_with fail
      go_ret
      exact ⟨rfl, HB0.out.trans (HB3.out.mono hzz)⟩
set_option maxRecDepth 100000 in
set_option maxHeartbeats 4000000 in
theorem asked_other (w : World) (gd : Nat) (b : List UInt8) (a : Option Addr) (cap : Nat) (vp : Nat → Option Addr) (hT : TreeM w gd b a cap vp) (L : List Qd) (B : Blt b L) (al : Option Addr) (cl : Nat) (hs : SlQ w al L.length cl L) (k : Int) (hk0 : (k == 0) = false) (hk1 : (k == 1) = false) (hk2 : (k == 2) = false) (hk3 : (k == 3) = false) (hk4 : (k == 4) = false) (hk5 : (k == 5) = false) (N : Int) (hN : -9223372036854775808 ≤ N ∧ N ≤ 9223372036854775807) (q : Qd) (M : Int) (hM : -9223372036854775808 ≤ M ∧ M ≤ 9223372036854775807) :
    Calls Try.prog 18 #[.pointer (some ⟨gd, 0, none⟩), .slice al L.length cl, .agg #[.int .i64 k, .int .i64 N, .int .i64 q.a, .int .i64 q.b, .int .i64 q.c, .int .i64 q.d, .int .i64 M]] w fun e w' => e = .returned (.bool true) ∧ Below w.heap.size w w' := by
  obtain ⟨Mn, hMn⟩ : ∃ Mn : Nat, Mn = M.toNat := ⟨_, rfl⟩
  have hmx : max (0 : Int) M = (Mn : Nat) := by omega
  have hMn2 : Mn ≤ 9223372036854775807 := by omega
  obtain ⟨n, hn⟩ : ∃ n, n = L.length := ⟨_, rfl⟩
  have hn20 : n ≤ 1048576 := by rw [hn]; exact B.right.len
  have hcap := hs.le
  have hN3 : tN b 3 = n := by rw [hn]; have := B.n 3 (by omega); rw [posL_three B.right _ (Nat.le_refl _)] at this; exact this
  have hB0 : Below w.heap.size w (w.alloc (.cells #[.int .i64 k, .int .i64 N, .int .i64 q.a, .int .i64 q.b, .int .i64 q.c, .int .i64 q.d, .int .i64 M] 49)) := (Below.refl _ _).alloc (Nat.le_refl _) _
  have hg0 := heap_alloc_new w (.cells #[.int .i64 k, .int .i64 N, .int .i64 q.a, .int .i64 q.b, .int .i64 q.c, .int .i64 q.d, .int .i64 M] 49)
  have hz0 : w.heap.size < (w.alloc (.cells #[.int .i64 k, .int .i64 N, .int .i64 q.a, .int .i64 q.b, .int .i64 q.c, .int .i64 q.d, .int .i64 M] 49)).heap.size := by simp
  rw [← hn] at hs hcap ⊢
  have HT := Lib.hid hT
  have HS := Lib.hid hs
  have HN := Lib.hid hn
  have HN3 := Lib.hid hN3
  have HMN := Lib.hid hMn
  have HBL := Lib.hid B
  clear hT hs hn hN3 hMn B
  go_enter Try.func18, Try.ntmps18
  go_upto_region 1 with fail
  generalize w.alloc (.cells #[.int .i64 k, .int .i64 N, .int .i64 q.a, .int .i64 q.b, .int .i64 q.c, .int .i64 q.d, .int .i64 M] 49) = w0 at hB0 hg0 hz0 ⊢
  have a0 := cell_of_row w0 w.heap.size 0 _ _ _ hg0
  have a1 := cell_of_row w0 w.heap.size 1 _ _ _ hg0
  have a2 := cell_of_row w0 w.heap.size 2 _ _ _ hg0
  have a3 := cell_of_row w0 w.heap.size 3 _ _ _ hg0
  have a4 := cell_of_row w0 w.heap.size 4 _ _ _ hg0
  have a5 := cell_of_row w0 w.heap.size 5 _ _ _ hg0
  have a6 := cell_of_row w0 w.heap.size 6 _ _ _ hg0
  simp only [List.getElem?_toArray, List.getElem?_cons_zero, List.getElem?_cons_succ] at a0 a1 a2 a3 a4 a5 a6
  have HB0 := Lib.hid hB0
  have HG0 := Lib.hid hg0
  have HT0 := Lib.hid (HT.out.below hB0)
  have HS0 := Lib.hid (HS.out.keep hB0)
  have hzz := hB0.size
  clear hB0 hg0
  go_wp2_with fail
  go_ret
  exact ⟨rfl, HB0.out⟩
end Go.Proofs.Ytgajpekolamjbaa
/- asked: is each answer the document's? Each. -/
namespace Go.Proofs.Ytgajpekolamjbaa
open Go Go.RowKit Go.Tk
theorem row_below {w w' : World} {n₀ e size k : Nat} {v : Value} {xs : List Value} (h : w.ownsRow n₀ e size v k xs) (hb : Below w.heap.size w w') : w'.ownsRow n₀ e size v k xs := by
  rcases h with ⟨a, ⟨e1, e2⟩ | ⟨g, cap, cur, e1, e2, e3, e4⟩⟩
  · exact ⟨a, .inl ⟨e1, e2⟩⟩
  · exact ⟨a, .inr ⟨g, cap, cur, e1, e2, (hb.block g (lt_of_block e3)).trans e3, e4⟩⟩
theorem row_grown {w w1 : World} {n₀ e size k : Nat} {v : Value} {xs : List Value} {tmp : Obj} (h : w.ownsRow n₀ e size v k xs) (hn : n₀ ≤ w.heap.size) (hg : (w.alloc tmp).grownBy w1 v.ownBlock) : Below n₀ w w1 := by
  refine ((Below.refl n₀ w).alloc hn tmp).grown hg (by simp; omega) fun j ej => ?_
  rcases h.2 with ⟨rfl, _⟩ | ⟨g, cap, cur, rfl, hb, _, _⟩
  · simp [Value.ownBlock] at ej
  · obtain rfl : g = j := by simpa [Value.ownBlock] using ej
    exact hb
theorem sq_W {L : List Qd} (R : Right L) {t : Nat} (ht : t < L.length) : sqC (qW L t) = [.int .i64 (t : Nat), .int .i64 (qAt L t).a, .int .i64 (qAt L t).b, .int .i64 (qAt L t).c, .int .i64 (qAt L t).d] := by
  have h : ∀ j, 0 ≤ (qAt L t).at j := fun j => (okQ_at (R.ok t ht) j).1
  have h0 : (((qAt L t).a.toNat : Nat) : Int) = (qAt L t).a := Int.toNat_of_nonneg (h 0)
  have h1 : (((qAt L t).b.toNat : Nat) : Int) = (qAt L t).b := Int.toNat_of_nonneg (h 1)
  have h2 : (((qAt L t).c.toNat : Nat) : Int) = (qAt L t).c := Int.toNat_of_nonneg (h 2)
  have h3 : (((qAt L t).d.toNat : Nat) : Int) = (qAt L t).d := Int.toNat_of_nonneg (h 3)
  show [Value.int .i64 (t : Nat), .int .i64 (((qAt L t).a.toNat : Nat) : Int), .int .i64 (((qAt L t).b.toNat : Nat) : Int), .int .i64 (((qAt L t).c.toNat : Nat) : Int), .int .i64 (((qAt L t).d.toNat : Nat) : Int)] = _
  rw [h0, h1, h2, h3]
theorem sq_snoc {L : List Qd} (R : Right L) (ts : List Nat) {t : Nat} (ht : t < L.length) : sqCs ((ts ++ [t]).map (qW L)) = sqCs (ts.map (qW L)) ++ [.int .i64 (t : Nat), .int .i64 (qAt L t).a, .int .i64 (qAt L t).b, .int .i64 (qAt L t).c, .int .i64 (qAt L t).d] := by
  rw [List.map_append, List.map_cons, List.map_nil, sqCs_snoc, sq_W R ht]
theorem seg_len (A D : Nat) : (seg A D).length = D - A := by simp [seg]
set_option maxRecDepth 100000 in
set_option maxHeartbeats 4000000 in
theorem asked_each (w : World) (gd : Nat) (b : List UInt8) (a : Option Addr) (cap : Nat) (vp : Nat → Option Addr) (hT : TreeM w gd b a cap vp) (L : List Qd) (B : Blt b L) (al : Option Addr) (cl : Nat) (hs : SlQ w al L.length cl L) (N : Int) (hN : -9223372036854775808 ≤ N ∧ N ≤ 9223372036854775807) (q : Qd) (M : Int) (hM : -9223372036854775808 ≤ M ∧ M ≤ 9223372036854775807) :
    Calls Try.prog 18 #[.pointer (some ⟨gd, 0, none⟩), .slice al L.length cl, .agg #[.int .i64 3, .int .i64 N, .int .i64 q.a, .int .i64 q.b, .int .i64 q.c, .int .i64 q.d, .int .i64 M]] w fun e w' => e = .returned (.bool true) ∧ Below w.heap.size w w' := by
  obtain ⟨Mn, hMn⟩ : ∃ Mn : Nat, Mn = M.toNat := ⟨_, rfl⟩
  have hmx : max (0 : Int) M = (Mn : Nat) := by omega
  have hMn2 : Mn ≤ 9223372036854775807 := by omega
  obtain ⟨n, hn⟩ : ∃ n, n = L.length := ⟨_, rfl⟩
  have hn20 : n ≤ 1048576 := by rw [hn]; exact B.right.len
  have hcap := hs.le
  have hN3 : tN b 3 = n := by rw [hn]; have := B.n 3 (by omega); rw [posL_three B.right _ (Nat.le_refl _)] at this; exact this
  have hB0 : Below w.heap.size w (w.alloc (.cells #[.int .i64 3, .int .i64 N, .int .i64 q.a, .int .i64 q.b, .int .i64 q.c, .int .i64 q.d, .int .i64 M] 49)) := (Below.refl _ _).alloc (Nat.le_refl _) _
  have hg0 := heap_alloc_new w (.cells #[.int .i64 3, .int .i64 N, .int .i64 q.a, .int .i64 q.b, .int .i64 q.c, .int .i64 q.d, .int .i64 M] 49)
  have hz0 : w.heap.size < (w.alloc (.cells #[.int .i64 3, .int .i64 N, .int .i64 q.a, .int .i64 q.b, .int .i64 q.c, .int .i64 q.d, .int .i64 M] 49)).heap.size := by simp
  rw [← hn] at hs hcap ⊢
  have HT := Lib.hid hT
  have HS := Lib.hid hs
  have HN := Lib.hid hn
  have HN3 := Lib.hid hN3
  have HMN := Lib.hid hMn
  have HBL := Lib.hid B
  clear hT hs hn hN3 hMn B
  go_enter Try.func18, Try.ntmps18
  go_upto_region 1 with fail
  generalize w.alloc (.cells #[.int .i64 3, .int .i64 N, .int .i64 q.a, .int .i64 q.b, .int .i64 q.c, .int .i64 q.d, .int .i64 M] 49) = w0 at hB0 hg0 hz0 ⊢
  have a0 := cell_of_row w0 w.heap.size 0 _ _ _ hg0
  have a1 := cell_of_row w0 w.heap.size 1 _ _ _ hg0
  have a2 := cell_of_row w0 w.heap.size 2 _ _ _ hg0
  have a3 := cell_of_row w0 w.heap.size 3 _ _ _ hg0
  have a4 := cell_of_row w0 w.heap.size 4 _ _ _ hg0
  have a5 := cell_of_row w0 w.heap.size 5 _ _ _ hg0
  have a6 := cell_of_row w0 w.heap.size 6 _ _ _ hg0
  simp only [List.getElem?_toArray, List.getElem?_cons_zero, List.getElem?_cons_succ] at a0 a1 a2 a3 a4 a5 a6
  have HB0 := Lib.hid hB0
  have HG0 := Lib.hid hg0
  have HT0 := Lib.hid (HT.out.below hB0)
  have HS0 := Lib.hid (HS.out.keep hB0)
  have hzz := hB0.size
  clear hB0 hg0
  obtain ⟨i0, hi, hz0', hz1, hz2⟩ := info_parts Try.infoSeen
  have HI := Lib.hid hi
  have HZ0 := Lib.hid hz0'
  have HZ1 := Lib.hid hz1
  have HZ2 := Lib.hid hz2
  clear hi hz0' hz1 hz2
  obtain ⟨f0, hf0⟩ : ∃ f0 : Nat, f0 = N.toNat := ⟨_, rfl⟩
  have hfm : max (0 : Int) N = (f0 : Nat) := by omega
  obtain ⟨G, hG⟩ : ∃ G, G = (eachT b N).take Mn := ⟨_, rfl⟩
  have hgs := take_sq HBL.out.right (ts := seg f0 n) (fun t ht => by have := seg_mem.1 ht; have := HN.out; omega) (by rw [hf0, HN.out]; exact HBL.out.each N) Mn
  have hw := twalked_calls w0 gd b a cap vp HT0.out N hN Mn hMn2 _ rfl
  rw [hgs.1, hgs.2] at hw
  obtain ⟨W, hW⟩ : ∃ W, W = ((seg f0 n).take Mn).map (qW L) := ⟨_, rfl⟩
  rw [← hW] at hw
  have hWl : W.length ≤ 1048576 := by rw [hW, List.length_map, List.length_take, seg_len]; omega
  have HW := Lib.hid hw
  have HWW := Lib.hid hW
  clear hw hgs hG hW hf0
  go_upto_region 17 with (go_at_call 26; (with_reducible refine HW.out.mono ?_); rintro e wl ⟨vg, rfl, hgr, hbl⟩; (have HGR := Lib.hid hgr); (have HBB := Lib.hid hbl); clear hgr hbl)
  have hzl := HBB.out.size
  have b1 := (HBB.out.cell (p := ⟨w.heap.size, 1, none⟩) hz0).trans a1
  have HSL := Lib.hid (HS0.out.keep HBB.out)
  clear a0 a1 a2 a3 a4 a5 a6
  go_wp2_with fail
  go_loopw [17, 8] (fun iv v wr => ∃ (i : Nat) (v' : Value), iv = .int .i64 (i : Nat) ∧ v = v' ∧ f0 ≤ i ∧ (i ≤ n ∨ i = f0) ∧ i - f0 ≤ Mn ∧ wr.ownsRow wl.heap.size 69 5 v' (i - f0) (sqCs ((seg f0 i).map (qW L))) ∧ Below wl.heap.size wl wr) (fun iv _ _ => n - (intOf iv).toNat)
  case atStart => exact ⟨f0, _, by go_num, rfl, Nat.le_refl _, .inr rfl, by omega, by rw [Nat.sub_self, seg_nil (Nat.le_refl _)]; exact World.ownsRow_nil _ _ _ _, Below.refl _ _⟩
  case round =>
    rename World => wr
    obtain ⟨i, v, rfl, rfl, hi1, hi2, hi3, hrow, hbr⟩ := hrel
    have hzr := hbr.size
    have HBR := Lib.hid hbr
    have HGW := Lib.hid (row_below HGR.out hbr)
    obtain ⟨av, cv, hv⟩ := ownsRow_slice hrow
    obtain ⟨m, hm⟩ : ∃ m, m = i - f0 := ⟨_, rfl⟩
    rw [← hm] at hv hi3 hrow
    subst hv
    have HROW := Lib.hid hrow
    have HM := Lib.hid hm
    have hmn : m ≤ 1048576 := by omega
    clear hbr hrow
    by_cases hin : i < n
    · have e1 : decide ((i : Int) < (n : Int)) = true := decide_eq_true (by omega)
      by_cases hmM : m < Mn
      · have e2 : decide ((m : Int) < (Mn : Int)) = true := decide_eq_true (by omega)
        obtain ⟨bq, oq, hab, hcq⟩ := (HSL.out.keep HBR.out).cell i hin
        subst hab
        obtain ⟨x, hx⟩ : ∃ x, x = qAt L i := ⟨_, rfl⟩
        have y0 : wr.cell? ⟨bq, oq + i * 4, none⟩ = some (.int .i64 x.a) := by rw [hx]; exact qcs_at hcq 0 (by omega)
        have y1 : wr.cell? ⟨bq, oq + i * 4 + 1, none⟩ = some (.int .i64 x.b) := by rw [hx]; exact qcs_at hcq 1 (by omega)
        have y2 : wr.cell? ⟨bq, oq + i * 4 + 2, none⟩ = some (.int .i64 x.c) := by rw [hx]; exact qcs_at hcq 2 (by omega)
        have y3 : wr.cell? ⟨bq, oq + i * 4 + 3, none⟩ = some (.int .i64 x.d) := by rw [hx]; exact qcs_at hcq 3 (by omega)
        have hsn := sq_snoc HBL.out.right (seg f0 i) (t := i) (by rw [← HN.out]; exact hin)
        rw [← hx, ← seg_one i, ← seg_app hi1 (show i ≤ i + 1 by omega)] at hsn
        have HSN := Lib.hid hsn
        have hm1 : i + 1 - f0 = m + 1 := by omega
        have HM1 := Lib.hid hm1
        clear hcq hx hsn hm1 hm
        go_wp2_with (at_builtin; (refine wpList_append_own _ rfl _ _ 63 rfl wl.heap.size 69 i0 (.agg #[.int .i64 0, .int .i64 0, .int .i64 0, .int .i64 0, .int .i64 0]) 5 40 Try.underlying63 HI.out HZ0.out HZ1.out HZ2.out rfl (by decide) _ _ _ rfl (HROW.out.alloc _) ⟨wr.heap.size, 0, none⟩ 1 1 [.int .i64 (i : Nat), .int .i64 x.a, .int .i64 x.b, .int .i64 x.c, .int .i64 x.d] rfl rfl (cells_new _ _ _) (by simp [Value.oneCell']) (by unfold maxLen; omega) (by omega) (by simp; omega) ?_; intro v' w5 hown' hgrow _; (have HR5 := Lib.hid hown'); (have HB5 := Lib.hid (row_grown HROW.out hzr hgrow)); clear hown' hgrow))
        exact ⟨⟨i + 1, v', by go_num, rfl, by omega, .inl (by omega), by rw [HM1.out]; omega, by rw [HM1.out, HSN.out]; exact HR5.out, HBR.out.trans (HB5.out.mono (by omega))⟩, by simp [intOf]; omega⟩
      · have e2 : decide ((m : Int) < (Mn : Int)) = false := decide_eq_false (by omega)
        have hfin : (seg f0 n).take Mn = seg f0 i := by
          rw [seg_app hi1 (Nat.le_of_lt hin), show Mn = (seg f0 i).length by rw [seg_len]; omega, List.take_left]
        have HR6 := Lib.hid (show wr.ownsRow wl.heap.size 69 5 (.slice av m cv) W.length (sqCs W) by rw [HWW.out, hfin, List.length_map, seg_len, ← hm]; exact HROW.out)
        have same := sameSeen_calls wr _ _ _ _ W (by omega) HGW.out HR6.out
        have HSM := Lib.hid same
        clear hfin same hm
        go_wp2_with (go_at_call 30; (with_reducible refine HSM.out.mono ?_); rintro e w6 ⟨rfl, q6, rfl⟩)
        go_ret
        exact ⟨rfl, below_drewN (HB0.out.trans ((HBB.out.trans (HBR.out.mono hzl)).mono hzz)) q6⟩
    · have e1 : decide ((i : Int) < (n : Int)) = false := decide_eq_false (by omega)
      have hfin : (seg f0 n).take Mn = seg f0 i := by
        rcases hi2 with h | h
        · obtain rfl : i = n := by omega
          exact List.take_of_length_le (by rw [seg_len]; omega)
        · subst h
          rw [seg_nil (show n ≤ i by omega), seg_nil (Nat.le_refl _), List.take_nil]
      have HR6 := Lib.hid (show wr.ownsRow wl.heap.size 69 5 (.slice av m cv) W.length (sqCs W) by rw [HWW.out, hfin, List.length_map, seg_len, ← hm]; exact HROW.out)
      have same := sameSeen_calls wr _ _ _ _ W (by omega) HGW.out HR6.out
      have HSM := Lib.hid same
      clear hfin same hm
      go_wp2_with (go_at_call 30; (with_reducible refine HSM.out.mono ?_); rintro e w6 ⟨rfl, q6, rfl⟩)
      go_ret
      exact ⟨rfl, below_drewN (HB0.out.trans ((HBB.out.trans (HBR.out.mono hzl)).mono hzz)) q6⟩
end Go.Proofs.Ytgajpekolamjbaa
