/- TrE TwF TwS TrC TrD TxA, laid as one. -/
import Derived.Test.YtgajpekolamjbaaTrQ
import Derived.Test.YtgajpekolamjbaaBitsPackC
import Derived.Test.YtgajpekolamjbaaSlB
import Derived.Test.YtgajpekolamjbaaOwnC
import Derived.Test.YtgajpekolamjbaaRkTo
import Derived.Test.YtgajpekolamjbaaTrA
import Derived.Test.YtgajpekolamjbaaOwB
set_option linter.unusedVariables false
set_option linter.unusedSimpArgs false
/- The document's Right, Compare, width, packed. -/
namespace Go.Tk
open Go Go.RowKit
theorem drewN2e (X : World) (a b : Nat) : (X.drewN a).drewN b = X.drewN (a + b) := by simp [World.drewN, Nat.add_assoc]
theorem four {k : Nat} (h : k < 4) : k = 0 ∨ k = 1 ∨ k = 2 ∨ k = 3 := by omega
theorem cmpQ_lt {p q : Qd} {k : Nat} (hk : k < 4) (he : ∀ j, j < k → p.at j = q.at j) (h : p.at k < q.at k) : cmpQ p q = -1 := by
  unfold cmpQ
  rcases four hk with rfl | rfl | rfl | rfl
  · have h : p.a < q.a := h
    rw [if_pos h]
  · have h : p.b < q.b := h
    have e0 : p.a = q.a := he 0 (by omega)
    rw [if_neg (by omega), if_neg (by omega), if_pos h]
  · have h : p.c < q.c := h
    have e0 : p.a = q.a := he 0 (by omega)
    have e1 : p.b = q.b := he 1 (by omega)
    rw [if_neg (by omega), if_neg (by omega), if_neg (by omega), if_neg (by omega), if_pos h]
  · have h : p.d < q.d := h
    have e0 : p.a = q.a := he 0 (by omega)
    have e1 : p.b = q.b := he 1 (by omega)
    have e2 : p.c = q.c := he 2 (by omega)
    rw [if_neg (by omega), if_neg (by omega), if_neg (by omega), if_neg (by omega), if_neg (by omega), if_neg (by omega), if_pos h]
theorem cmpQ_gt {p q : Qd} {k : Nat} (hk : k < 4) (he : ∀ j, j < k → p.at j = q.at j) (h : q.at k < p.at k) : cmpQ p q = 1 := by
  unfold cmpQ
  rcases four hk with rfl | rfl | rfl | rfl
  · have h : q.a < p.a := h
    rw [if_neg (by omega), if_pos h]
  · have h : q.b < p.b := h
    have e0 : p.a = q.a := he 0 (by omega)
    rw [if_neg (by omega), if_neg (by omega), if_neg (by omega), if_pos h]
  · have h : q.c < p.c := h
    have e0 : p.a = q.a := he 0 (by omega)
    have e1 : p.b = q.b := he 1 (by omega)
    rw [if_neg (by omega), if_neg (by omega), if_neg (by omega), if_neg (by omega), if_neg (by omega), if_pos h]
  · have h : q.d < p.d := h
    have e0 : p.a = q.a := he 0 (by omega)
    have e1 : p.b = q.b := he 1 (by omega)
    have e2 : p.c = q.c := he 2 (by omega)
    rw [if_neg (by omega), if_neg (by omega), if_neg (by omega), if_neg (by omega), if_neg (by omega), if_neg (by omega), if_neg (by omega), if_pos h]
theorem cmpQ_eq {p q : Qd} (he : ∀ j, j < 4 → p.at j = q.at j) : cmpQ p q = 0 := by
  unfold cmpQ
  have e0 : p.a = q.a := he 0 (by omega)
  have e1 : p.b = q.b := he 1 (by omega)
  have e2 : p.c = q.c := he 2 (by omega)
  have e3 : p.d = q.d := he 3 (by omega)
  rw [if_neg (by omega), if_neg (by omega), if_neg (by omega), if_neg (by omega), if_neg (by omega), if_neg (by omega), if_neg (by omega), if_neg (by omega)]
theorem bw_mono {a b : Int} (h0 : 0 ≤ a) (h : a ≤ b) (hb : b < 18446744073709551616) : bw a ≤ bw b := by
  unfold bw
  have h1 := lt_bitLenAux 64 b.toNat (by omega)
  have h2 : Lib.bitLenAux 64 b.toNat ≤ 64 := bitLen_le 64 _
  have := Lib.bitLen_le a.toNat (Lib.bitLenAux 64 b.toNat) h2 (by omega)
  unfold Lib.bitLen at this ⊢
  omega
theorem bw_max {a b : Int} (h0 : 0 ≤ a) (h1 : 0 ≤ b) (ha : a < 18446744073709551616) (hb : b < 18446744073709551616) : bw (max a b) = max (bw a) (bw b) := by
  rcases Int.le_total a b with h | h
  · have := bw_mono h0 h hb
    rw [Int.max_eq_right h, Int.max_eq_right this]
  · have := bw_mono h1 h ha
    rw [Int.max_eq_left h, Int.max_eq_left this]
theorem mxL_snoc (zs : List Int) (x : Int) : mxL (zs ++ [x]) = max (mxL zs) x := by simp [mxL, List.foldl_append]
theorem or_andE : ∀ y : Fin 256, ∀ v : Fin 8, bits .or .u8 (y.val : Int) (2 ^ v.val) = ((y.val ||| 2 ^ v.val : Nat) : Int) := by decide +kernel
theorem nums_setE (l : List UInt8) (i : Nat) (x : UInt8) : (nums l).set i (x.toNat : Int) = nums (l.set i x) := by simp [nums, List.map_set]
theorem nums_repE (n : Nat) : nums (List.replicate n 0) = List.replicate n 0 := by simp [nums]
theorem pow7E {k : Nat} (h : k < 8) : 2 ^ k ≤ 128 := by
  have := Nat.pow_le_pow_right (show 0 < 2 by decide) (show k ≤ 7 by omega)
  simpa using this
theorem nums_getE (l : List UInt8) (i : Nat) (h : i < l.length) : (nums l).getD i 0 = ((l.getD i 0).toNat : Nat) := by simp [nums, h]
end Go.Tk
namespace Go.Proofs.Ytgajpekolamjbaa
open Go.RowKit Go.Tk
theorem Try.okq_at (q : Qd) (k : Nat) (hk : k < 4) : okN k (q.at k) = true ↔ ((if k = 0 then 0 else 1 : Int) ≤ q.at k ∧ q.at k ≤ 4194304) := by
  rw [okN_iff]
  by_cases h : k = 0
  · subst h; simp
  · rw [if_neg h, show min k 1 = 1 by omega]; rfl
theorem qbox (w : World) (q : Qd) : (w.alloc (.cells (qcs q).toArray 24)).rangeAt w.heap.size 0 (qcs q) := by
  intro j v hv
  rw [World.cell?_alloc_at _ _ _ _ rfl]
  simpa using hv
set_option maxRecDepth 100000 in
theorem rcompare_calls (w : World) (p q : Qd) :
    Calls Try.prog 25 #[qv p, qv q] w fun e w' => e = .returned (.int .i64 (cmpQ p q)) ∧ Below w.heap.size w w' := by
  obtain ⟨w2, hw2⟩ : ∃ w2, w2 = (w.alloc (.cells (qcs p).toArray 24)).alloc (.cells (qcs q).toArray 24) := ⟨_, rfl⟩
  have hp : w2.rangeAt w.heap.size 0 (qcs p) := by
    rw [hw2]; exact range_keep (qbox w p) ((Below.refl _ _).alloc (Nat.le_refl _) _)
  have hq : w2.rangeAt (w.heap.size + 1) 0 (qcs q) := by
    rw [hw2]
    have := qbox (w.alloc (.cells (qcs p).toArray 24)) q
    rw [show (w.alloc (.cells (qcs p).toArray 24)).heap.size = w.heap.size + 1 by simp] at this
    exact this
  have hb : Below w.heap.size w w2 := by rw [hw2]; exact ((Below.refl _ w).alloc (Nat.le_refl _) _).alloc (by simp) _
  have HP := Lib.hid hp
  have HQ := Lib.hid hq
  have HB := Lib.hid hb
  go_enter Try.func25, Try.ntmps25
  go_upto_region 1 with fail
  change Code.wp _ _ _ _ ((w.alloc (.cells (qcs p).toArray 24)).alloc (.cells (qcs q).toArray 24))
  rw [← hw2]
  clear hw2 hp hq hb
  go_wp2_with fail
  go_loopw [5] (fun kv wr => ∃ (k m : Nat), kv = .int .i64 (k : Nat) ∧ k ≤ 4 ∧ (∀ j, j < k → p.at j = q.at j) ∧ wr = w2.drewN m) (fun kv _ => 4 - (intOf kv).toNat)
  case atStart => exact ⟨0, 0, rfl, Nat.zero_le _, (fun j hj => by omega), rfl⟩
  case round =>
    obtain ⟨k, m, rfl, hk, he, rfl⟩ := hrel
    have HE := Lib.hid he
    clear he
    by_cases hk4 : k < 4
    · have p1 := qcs_at HP.out k hk4
      have q1 := qcs_at HQ.out k hk4
      rw [Nat.zero_add] at p1 q1
      obtain ⟨x, hx⟩ : ∃ x, x = p.at k := ⟨_, rfl⟩
      obtain ⟨y, hy⟩ : ∃ y, y = q.at k := ⟨_, rfl⟩
      rw [← hx] at p1
      rw [← hy] at q1
      have HX := Lib.hid hx
      have HY := Lib.hid hy
      clear hx hy
      by_cases h1 : x < y
      · have e1 : decide (x < y) = true := decide_eq_true h1
        have hc := cmpQ_lt hk4 HE.out (by rw [← HX.out, ← HY.out]; exact h1)
        have HC := Lib.hid hc
        clear h1 hc
        go_wp2_with fail
        go_quiet (fail)
        go_wp2_with fail
        go_ret
        exact ⟨by rw [HC.out]; rfl, below_drewN (below_drewN HB.out _) _⟩
      · have e1 : decide (x < y) = false := decide_eq_false h1
        by_cases h2 : y < x
        · have e2 : decide (y < x) = true := decide_eq_true h2
          have hc := cmpQ_gt hk4 HE.out (by rw [← HX.out, ← HY.out]; exact h2)
          have HC := Lib.hid hc
          clear h1 h2 hc
          go_wp2_with fail
          go_quiet (fail)
          go_wp2_with fail
          go_quiet (fail)
          go_wp2_with fail
          go_ret
          exact ⟨by rw [HC.out]; rfl, below_drewN (below_drewN (below_drewN HB.out _) _) _⟩
        · have e2 : decide (y < x) = false := decide_eq_false h2
          have he2 : ∀ j, j < k + 1 → p.at j = q.at j := fun j hj => by
            by_cases e : j = k
            · subst e; rw [← HX.out, ← HY.out]; omega
            · exact HE.out j (by omega)
          have HE2 := Lib.hid he2
          clear h1 h2 he2
          go_wp2_with fail
          go_quiet (fail)
          go_wp2_with fail
          go_quiet (fail)
          go_wp2_with fail
          exact ⟨⟨k + 1, _, by go_num, by omega, HE2.out, rfl⟩, by simp [intOf]; omega⟩
    · obtain rfl : k = 4 := by omega
      have hc := cmpQ_eq HE.out
      have HC := Lib.hid hc
      clear hc
      go_wp2_with fail
      go_ret
      exact ⟨by rw [HC.out]; rfl, below_drewN HB.out _⟩
set_option maxRecDepth 100000 in
theorem rright_calls (w : World) (q : Qd) :
    Calls Try.prog 45 #[qv q] w fun e w' => e = .returned (.bool (okQ q)) ∧ Below w.heap.size w w' := by
  obtain ⟨w2, hw2⟩ : ∃ w2, w2 = w.alloc (.cells (qcs q).toArray 24) := ⟨_, rfl⟩
  have hq : w2.rangeAt w.heap.size 0 (qcs q) := by rw [hw2]; exact qbox w q
  have hb : Below w.heap.size w w2 := by rw [hw2]; exact (Below.refl _ w).alloc (Nat.le_refl _) _
  have HQ := Lib.hid hq
  have HB := Lib.hid hb
  go_enter Try.func45, Try.ntmps45
  go_upto_region 1 with fail
  change Code.wp _ _ _ _ (w.alloc (.cells (qcs q).toArray 24))
  rw [← hw2]
  clear hw2 hq hb
  go_wp2_with fail
  go_loopw [3] (fun kv wr => ∃ (k : Nat), kv = .int .i64 (k : Nat) ∧ k ≤ 4 ∧ (∀ j, j < k → okN j (q.at j) = true) ∧ wr = w2) (fun kv _ => 4 - (intOf kv).toNat)
  case atStart => exact ⟨0, rfl, Nat.zero_le _, (fun j hj => by omega), rfl⟩
  case round =>
    obtain ⟨k, rfl, hk, he, rfl⟩ := hrel
    have HE := Lib.hid he
    clear he
    by_cases hk4 : k < 4
    · have q1 := qcs_at HQ.out k hk4
      rw [Nat.zero_add] at q1
      have hok := Try.okq_at q k hk4
      obtain ⟨x, hx⟩ : ∃ x, x = q.at k := ⟨_, rfl⟩
      rw [← hx] at q1 hok
      have HX := Lib.hid hx
      clear hx
      have fin : ∀ B : Bool, okN k x = B → (B = true → ∀ j, j < k + 1 → okN j (q.at j) = true) ∧ (B = false → okQ q = false) := by
        intro B hB
        refine ⟨fun h j hj => ?_, fun h => okQ_no hk4 (by rw [← HX.out, hB, h])⟩
        by_cases e : j = k
        · subst e; rw [← HX.out, hB, h]
        · exact HE.out j (by omega)
      by_cases h0 : k = 0
      · subst h0
        rw [if_pos rfl] at hok
        by_cases h1 : x < 0
        · have e1 : decide (x < 0) = true := decide_eq_true h1
          have hf := (fin false (by cases hh : okN 0 x with
            | false => rfl
            | true => have := hok.1 hh; omega)).2 rfl
          have HF := Lib.hid hf
          clear h1 hf fin hok
          go_wp2_with fail
          go_ret
          exact ⟨by rw [HF.out]; rfl, HB.out⟩
        · have e1 : decide (x < 0) = false := decide_eq_false h1
          by_cases h2 : 4194304 < x
          · have e2 : decide (4194304 < x) = true := decide_eq_true h2
            have hf := (fin false (by cases hh : okN 0 x with
              | false => rfl
              | true => have := hok.1 hh; omega)).2 rfl
            have HF := Lib.hid hf
            clear h1 h2 hf fin hok
            go_wp2_with fail
            go_ret
            exact ⟨by rw [HF.out]; rfl, HB.out⟩
          · have e2 : decide (4194304 < x) = false := decide_eq_false h2
            have hf := (fin true (hok.2 ⟨by omega, by omega⟩)).1 rfl
            have HF := Lib.hid hf
            clear h1 h2 hf fin hok
            go_wp2_with fail
            exact ⟨⟨1, by go_num, by omega, HF.out, trivial⟩, by simp [intOf]⟩
      · have e0 : ((k : Int) == 0) = false := by simp; omega
        rw [if_neg h0] at hok
        by_cases h1 : x < 1
        · have e1 : decide (x < 1) = true := decide_eq_true h1
          have hf := (fin false (by cases hh : okN k x with
            | false => rfl
            | true => have := hok.1 hh; omega)).2 rfl
          have HF := Lib.hid hf
          clear h1 hf fin hok h0
          go_wp2_with fail
          go_ret
          exact ⟨by rw [HF.out]; rfl, HB.out⟩
        · have e1 : decide (x < 1) = false := decide_eq_false h1
          by_cases h2 : 4194304 < x
          · have e2 : decide (4194304 < x) = true := decide_eq_true h2
            have hf := (fin false (by cases hh : okN k x with
              | false => rfl
              | true => have := hok.1 hh; omega)).2 rfl
            have HF := Lib.hid hf
            clear h1 h2 hf fin hok h0
            go_wp2_with fail
            go_ret
            exact ⟨by rw [HF.out]; rfl, HB.out⟩
          · have e2 : decide (4194304 < x) = false := decide_eq_false h2
            have hf := (fin true (hok.2 ⟨by omega, by omega⟩)).1 rfl
            have HF := Lib.hid hf
            clear h1 h2 hf fin hok h0
            go_wp2_with fail
            exact ⟨⟨k + 1, by go_num, by omega, HF.out, trivial⟩, by simp [intOf]; omega⟩
    · obtain rfl : k = 4 := by omega
      have hc : okQ q = true := (okQ_split q).2 HE.out
      have HC := Lib.hid hc
      clear hc
      go_wp2_with fail
      go_ret
      exact ⟨by rw [HC.out]; rfl, HB.out⟩
theorem rwidths_calls (w : World) (a : Option Addr) (n c : Nat) (zs : List Int) (h : SlI .u64 w a n c zs) (hz : ∀ x ∈ zs, 0 ≤ x ∧ x ≤ 4194304) :
    Calls Try.prog 48 #[.slice a n c] w fun e w' => e = .returned (.int .i64 (wdL zs)) ∧ w' = w := by
  have hle := h.le
  have hmx := h.max
  have HS := Lib.hid h
  have HZ := Lib.hid hz
  clear h hz
  go_enter Try.func48, Try.ntmps48
  go_wp2
  go_loopw [3, 4] (fun nv iv wr => ∃ (i : Nat), iv = .int .i64 (i : Nat) ∧ nv = .int .i64 (wdL (zs.take i)) ∧ i ≤ n ∧ wr = w) (fun _ iv _ => n - (intOf iv).toNat)
  case atStart => exact ⟨0, rfl, by simp [wdL, mxL, bw_zero], Nat.zero_le _, rfl⟩
  case round =>
    obtain ⟨i, rfl, rfl, hi, rfl⟩ := hrel
    by_cases hlt : i < n
    · obtain ⟨b, o, rfl, hc⟩ := HS.out.cell i hlt
      have hil : i < zs.length := by rw [HS.out.len]; exact hlt
      have hx := HZ.out zs[i] (List.getElem_mem hil)
      have hgx : zs.getD i 0 = zs[i] := by simp [hil]
      have hm := mxL_range (zs := zs.take i) (M := 4194304) (fun x hx => HZ.out x (List.mem_of_mem_take hx)) (by omega)
      have hst : wdL (zs.take (i + 1)) = max (wdL (zs.take i)) (bw (zs.getD i 0)) := by
        rw [List.take_succ_eq_append_getElem hil, hgx]
        unfold wdL
        rw [mxL_snoc, bw_max hm.1 hx.1 (by omega) (by omega)]
      rw [← hgx] at hx
      obtain ⟨x, hxe⟩ : ∃ x, x = zs.getD i 0 := ⟨_, rfl⟩
      obtain ⟨m, hme⟩ : ∃ m, m = wdL (zs.take i) := ⟨_, rfl⟩
      obtain ⟨y, hye⟩ : ∃ y, y = bw x := ⟨_, rfl⟩
      rw [← hxe, ← hme, ← hye] at hst
      rw [← hxe] at hc hx
      rw [← hme]
      have HST := Lib.hid hst
      have HY := Lib.hid hye
      clear hst hgx hxe hme hye hm hil
      go_wp2_with (go_at_call 88; refine (rwidth_calls x _ (by omega) (by omega)).mono ?_; rintro e w4 ⟨rfl, rfl⟩; rw [← HY.out])
      exact ⟨⟨i + 1, by go_num, by rw [HST.out], by omega, trivial⟩, by simp [intOf]; omega⟩
    · obtain rfl : i = n := by omega
      have ht : zs.take i = zs := List.take_of_length_le (by rw [HS.out.len]; exact Nat.le_refl _)
      rw [ht]
      clear ht
      go_wp2_with fail
      go_ret
      exact ⟨rfl, rfl⟩
set_option maxRecDepth 100000 in
set_option maxHeartbeats 1000000 in
theorem rpacked_calls (w : World) (a : Option Addr) (n c : Nat) (l : List Bool) (h : SlB w a n c l) (hn : n ≤ 67108864) :
    Calls Try.prog 51 #[.slice a n c] w fun e w' => ∃ g, e = .returned (.slice (some ⟨g, 0, none⟩) ((n + 7) / 8) ((n + 7) / 8)) ∧ w.heap.size ≤ g ∧ RowI .u8 5 w' g (nums (packB l)) ∧ Below w.heap.size w w' := by
  have hln := h.len
  have H := Lib.hid h
  have HLN := Lib.hid hln
  obtain ⟨m, hm⟩ : ∃ m, m = (n + 7) / 8 := ⟨_, rfl⟩
  have HM := Lib.hid hm
  have hm2 : m ≤ 8388608 := by omega
  have hmi : ((n : Int) + 7) / 8 = (m : Int) := by omega
  rw [← hm]
  clear h hln hm
  go_enter Try.func51, Try.ntmps51
  go_wp2_with (at_make; refine wpList_mkJ rfl _ _ _ rfl 5 (.int .u8 0) 1 Try.underlying25 Try.infoU8 rfl _ _ _ _ m rfl rfl (by go_num) (by go_num) (by omega) (by omega) ?_; intro w1 hw1 hb1; have HW := Lib.hid hw1; have HB1 := Lib.hid hb1; clear hw1 hb1)
  go_loopw [4] (fun iv wr => ∃ i : Nat, iv = .int .i64 (i : Nat) ∧ i ≤ n ∧ RowI .u8 5 wr w.heap.size (nums (pkB l i)) ∧ Below w.heap.size w wr) (fun iv _ => n - (intOf iv).toNat)
  case atStart =>
    refine ⟨0, rfl, Nat.zero_le _, ?_, below_of_grown HB1.out (Nat.le_refl _) (by simp)⟩
    simp only [pkB, nums_repE]
    unfold RowI
    rw [HW.out, HLN.out, ← HM.out]
    simp
  case round =>
    obtain ⟨i, rfl, hi, hr, hb⟩ := hrel
    have HR := Lib.hid hr
    have HB := Lib.hid hb
    clear hr hb
    by_cases hin : i < n
    · obtain ⟨b, o, rfl, hc⟩ := (H.out.keep HB.out).cell i hin
      have hlen := H.out.le
      obtain ⟨B, hB⟩ : ∃ B, B = l.getD i false := ⟨_, rfl⟩
      rw [← hB] at hc
      have HBB := Lib.hid hB
      clear hB
      have hpl : (pkB l i).length = m := by rw [pk_len, HLN.out, HM.out]
      cases B with
      | false =>
        have HPL := Lib.hid hpl
        clear hpl
        go_wp2
        go_roundw
        case rel => exact ⟨i + 1, by go_num, by omega, by simp only [pkB]; rw [if_neg (by rw [← HBB.out]; decide)]; exact HR.out, HB.out⟩
        case measure => simp [intOf]; omega
      | true =>
        have hrc := HR.out.cell (i / 8) (by rw [nums_len]; omega)
        rw [nums_getE _ _ (by omega)] at hrc
        have hfz := HR.out.frozen (i / 8)
        obtain ⟨y, hy⟩ : ∃ y, y = ((pkB l i).getD (i / 8) 0).toNat := ⟨_, rfl⟩
        rw [← hy] at hrc
        have hy2 : y < 256 := by rw [hy]; exact UInt8.toNat_lt _
        have hor := or_andE ⟨y, hy2⟩ ⟨i % 8, by omega⟩
        have hob := or_byte y (i % 8) hy2 (by omega)
        simp only at hor
        have hnx : pkB l (i + 1) = (pkB l i).set (i / 8) (UInt8.ofNat (y ||| 2 ^ (i % 8))) := by
          simp only [pkB]; rw [if_pos HBB.out.symm, hy]
        obtain ⟨z, hz⟩ : ∃ z, z = UInt8.ofNat (y ||| 2 ^ (i % 8)) := ⟨_, rfl⟩
        rw [← hz] at hob hnx
        rw [← hob] at hor
        have HNX := Lib.hid hnx
        have hzb : z.toNat < 256 := UInt8.toNat_lt z
        have hrs := fun k => (HR.out.drewN k).set (i / 8) (z.toNat : Int)
        rw [nums_setE, ← hnx] at hrs
        obtain ⟨q, hq⟩ : ∃ q, q = z.toNat := ⟨_, rfl⟩
        rw [← hq] at hor hzb hrs
        have HRS := Lib.hid hrs
        have h8 : (8 : Nat) * m ≥ i + 1 := by have := HM.out; omega
        clear hnx hob hz hy hpl hq hrs
        have htm : ((i : Int) % 8).toNat = i % 8 := by omega
        have hp7 : 2 ^ (i % 8) ≤ 128 := pow7E (by omega)
        have hpz : ((2 : Int) ^ (i % 8)) = ((2 ^ (i % 8) : Nat) : Int) := by rw [Int.natCast_pow]; rfl
        have hp0 : 1 ≤ 2 ^ (i % 8) := Nat.one_le_two_pow
        have hw5 : IntKind.u8.wrap ((2 : Int) ^ (i % 8)) = (2 : Int) ^ (i % 8) := by rw [hpz, IntKind.wrap_u8]; omega
        clear hpz hp7 hp0
        go_upto_region 6 with fail
        refine wp_region_quiet_tail (fun w' => ∃ n, w' = World.drewN _ n) 10 (by kernel_rfl) (by kernel_rfl) ⟨1, rfl⟩ ?_
        simp only [List.take_succ_cons, List.take_zero, List.drop_succ_cons, List.drop_zero]
        repeat (go_big_quiet_step (fail))
        refine wpQuiet_nil ?_
        rintro _ ⟨n1, rfl⟩
        go_wp2_with fail
        go_roundw
        case rel => exact ⟨i + 1, by go_num, by omega, HRS.out _, by exact (below_drewN HB.out _).setCell (p := ⟨w.heap.size, i / 8, none⟩) (Nat.le_refl _) _⟩
        case measure => simp [intOf]; omega
    · obtain rfl : i = n := by omega
      go_wp2
      go_ret
      refine ⟨w.heap.size, rfl, Nat.le_refl _, ?_, HB.out⟩
      have := HR.out
      unfold packB
      rw [HLN.out]
      exact this
end Go.Proofs.Ytgajpekolamjbaa
/- The document's Find: the place of a quad among quads. -/
namespace Go.Tk
open Go Go.RowKit
section
variable {P : Program} {ops : Array Oper} {C : World → Prop} {Q : Act → Prop} {o : Oper} {rest : List Oper} {a : Act}
theorem wq_stepG (v : Value) (hg : Region.wanted o (yielded ops a.tmps) = true) (h : ∀ w, C w → Oper.quietAt P o a C w v) (hk : wpQuiet P ops C Q rest (a.put o.dst v)) : wpQuiet P ops C Q (o :: rest) a := by
  show if Region.wanted o (yielded ops a.tmps) then o.quiet P a C (wpQuiet P ops C Q rest) else wpQuiet P ops C Q rest (a.put o.dst undef)
  rw [if_pos hg]
  exact ⟨v, h, hk⟩
/-- A quiet walk behind a wall: the elaborator does not run it. -/
structure WQ (P : Program) (ops : Array Oper) (C : World → Prop) (Q : Act → Prop) (l : List Oper) (a : Act) : Prop where
  h : wpQuiet P ops C Q l a
theorem wq_nilD (h : Q a) : WQ P ops C Q [] a := ⟨wpQuiet_nil h⟩
theorem wq_skipD (d : Nat) (hd : o.dst = some d) (hg : Region.wanted o (yielded ops a.tmps) = false) (hk : WQ P ops C Q rest ⟨a.tmps.setIfInBounds d undef, a.defers⟩) : WQ P ops C Q (o :: rest) a := by
  refine ⟨?_⟩
  show if Region.wanted o (yielded ops a.tmps) then o.quiet P a C (wpQuiet P ops C Q rest) else wpQuiet P ops C Q rest (a.put o.dst undef)
  rw [if_neg (by rw [hg]; simp), hd]
  exact hk.h
theorem wq_valD (d : Nat) (v : Value) (hd : o.dst = some d) (hg : Region.wanted o (yielded ops a.tmps) = true) (h : ∀ w, C w → (execOp a.eval o).run P w = .ok (.value v) w) (hk : WQ P ops C Q rest ⟨a.tmps.setIfInBounds d v, a.defers⟩) : WQ P ops C Q (o :: rest) a :=
  ⟨wq_stepG v hg (fun w hw => by unfold Oper.quietAt; rw [h w hw]; exact ⟨rfl, rfl⟩) (by rw [hd]; exact hk.h)⟩
theorem wq_callD (d : Nat) (v : Value) (f : FuncId) (args : Array Value) (hd : o.dst = some d) (hg : Region.wanted o (yielded ops a.tmps) = true) (he : ∀ w, (execOp a.eval o).run P w = .ok (.enter f args) w) (hc : ∀ w, C w → Calls P f args w fun e w' => e = .returned v ∧ C w')
    (hk : WQ P ops C Q rest ⟨a.tmps.setIfInBounds d v, a.defers⟩) : WQ P ops C Q (o :: rest) a :=
  ⟨wq_stepG v hg (fun w hw => by unfold Oper.quietAt; rw [he w]; exact ⟨rfl, hc w hw⟩) (by rw [hd]; exact hk.h)⟩
theorem wq_midD (d : Nat) (hd : o.dst = some d) (hg : Region.wanted o (yielded ops a.tmps) = true) (ty : TypeId) (x : Operand) (ho : o.op = .load ty x) (b p : Nat) (hx : a.eval x = .pointer (some ⟨b, p, none⟩)) (cs : List Value) (de : TypeDesc)
    (hb : ∀ w, C w → w.rangeAt b p cs) (hu : P.underlying ty = some de) (hde : de.isRow = true) (hi : (P.info? ty).map (·.size) = some cs.length)
    (hk : WQ P ops C Q rest ⟨a.tmps.setIfInBounds d (.agg cs.toArray), a.defers⟩) : WQ P ops C Q (o :: rest) a :=
  wq_valD d _ hd hg (fun w hw => by
    unfold execOp
    simp only [ho, hx, Instr.loadAt, Instr.sureAddr, Sem.run_bind, Sem.run_pure, Result.andThen_ok, run_loadVar_mid w b p ty cs de (hb w hw) hu hde hi]) hk
end
/-- The place of a quad among others: how many stand ahead. -/
def fndN (L : List Qd) (q : Qd) : Nat := (L.takeWhile fun x => decide (cmpQ x q < 0)).length
theorem fndN_le (L : List Qd) (q : Qd) : fndN L q ≤ L.length := by
  unfold fndN
  exact (List.takeWhile_prefix _).length_le
theorem fndN_lt {L : List Qd} {q : Qd} {t : Nat} (h : t < fndN L q) : cmpQ (L.getD t default) q < 0 := by
  have key : ∀ (M : List Qd) (t : Nat), t < (M.takeWhile fun x => decide (cmpQ x q < 0)).length → cmpQ (M.getD t default) q < 0 := by
    intro M
    induction M with
    | nil => intro t h; simp at h
    | cons x M ih =>
      intro t h
      by_cases hx : cmpQ x q < 0
      · rw [List.takeWhile_cons_of_pos (by exact decide_eq_true hx)] at h
        cases t with
        | zero => simpa using hx
        | succ t => have := ih t (by simpa using h); simpa using this
      · rw [List.takeWhile_cons_of_neg (by simpa using hx)] at h
        simp at h
  exact key L t h
theorem fndN_ge {L : List Qd} {q : Qd} (h : fndN L q < L.length) : 0 ≤ cmpQ (L.getD (fndN L q) default) q := by
  have key : ∀ (M : List Qd), (M.takeWhile fun x => decide (cmpQ x q < 0)).length < M.length → 0 ≤ cmpQ (M.getD (M.takeWhile fun x => decide (cmpQ x q < 0)).length default) q := by
    intro M
    induction M with
    | nil => intro h; simp at h
    | cons x t ih =>
      intro h
      by_cases hx : cmpQ x q < 0
      · rw [List.takeWhile_cons_of_pos (by exact decide_eq_true hx)] at h ⊢
        simp only [List.length_cons] at h ⊢
        have := ih (by omega)
        simpa using this
      · rw [List.takeWhile_cons_of_neg (by simpa using hx)] at h ⊢
        simp only [List.length_nil, List.getD_cons_zero]
        omega
  exact key L h
end Go.Tk
namespace Go.Proofs.Ytgajpekolamjbaa
open Go Go.RowKit Go.Tk
set_option maxRecDepth 100000 in
set_option maxHeartbeats 2000000 in
theorem rfind_calls (w : World) (a : Option Addr) (n c : Nat) (L : List Qd) (h : SlQ w a n c L) (hn : n ≤ 1048576) (q : Qd) :
    Calls Try.prog 61 #[.slice a n c, .agg (qcs q).toArray] w fun e w' => e = .returned (.tuple #[.int .i64 (fndN L q : Nat), .bool (decide (fndN L q < n) && decide (L.getD (fndN L q) default = q))]) ∧ Below w.heap.size w w' := by
  have hB0 : Below w.heap.size w (w.alloc (.cells (qcs q).toArray 24)) := (Below.refl _ _).alloc (Nat.le_refl _) _
  have hq0 : (w.alloc (.cells (qcs q).toArray 24)).rangeAt w.heap.size 0 (qcs q) := qbox w q
  have hz0 : w.heap.size < (w.alloc (.cells (qcs q).toArray 24)).heap.size := by simp
  obtain ⟨R, hR⟩ : ∃ R, R = fndN L q := ⟨_, rfl⟩
  have hRn : R ≤ n := by rw [hR, ← h.len]; exact fndN_le L q
  have SZ := Lib.hid Try.sizeIds
  have hcap := h.le
  rw [← hR]
  have HR := Lib.hid hR
  have HS := Lib.hid h
  clear hR h
  go_enter Try.func61, Try.ntmps61
  go_upto_region 1 with fail
  generalize w.alloc (.cells (qcs q).toArray 24) = w0 at hB0 hq0 hz0 ⊢
  have HB0 := Lib.hid hB0
  have HQ0 := Lib.hid hq0
  have hz := hB0.size
  clear hB0 hq0
  go_wp2_with fail
  go_loopw [6] (fun iv wr => ∃ i : Nat, iv = .int .i64 (i : Nat) ∧ i ≤ R ∧ Below w0.heap.size w0 wr) (fun iv _ => n - (intOf iv).toNat)
  case atStart => exact ⟨0, rfl, Nat.zero_le _, Below.refl _ _⟩
  case round =>
    rename World => wr
    obtain ⟨i, rfl, hi, hbr⟩ := hrel
    have HBR := Lib.hid hbr
    have hzr := hbr.size
    clear hbr
    by_cases hin : i < n
    · have e1 : decide ((i : Int) < (n : Int)) = true := decide_eq_true (by omega)
      obtain ⟨bq, oq, hab, hcq⟩ := HS.out.cell i hin
      subst hab
      have HC := Lib.hid (range_keep hcq (HB0.out.trans (HBR.out.mono hz)))
      clear hcq
      obtain ⟨x, hx⟩ : ∃ x, x = L.getD i default := ⟨_, rfl⟩
      rw [← hx] at HC
      obtain ⟨cv, hcv⟩ : ∃ cv, cv = cmpQ x q := ⟨_, rfl⟩
      have HX := Lib.hid hx
      have HCV := Lib.hid hcv
      clear hx hcv
      have HQR := Lib.hid (range_keep HQ0.out HBR.out)
      go_upto_region 2 with fail
      refine wp_region_quiet_all (fun w' => Below wr.heap.size wr w') (by kernel_rfl) (by kernel_rfl) (below_drewN (Below.refl _ _) 1) ?_
      refine WQ.h ?_
      refine wq_valD 7 (.int .i64 (i : Nat)) rfl rfl (fun w' _ => by simp [go_sem]) ?_
      simp only [List.setIfInBounds_toArray, List.set_cons_succ, List.set_cons_zero]
      refine wq_valD 8 (.slice (some ⟨bq, oq, none⟩) n c) rfl rfl (fun w' _ => by simp [go_sem]) ?_
      simp only [List.setIfInBounds_toArray, List.set_cons_succ, List.set_cons_zero]
      refine wq_valD 9 (.int .i64 (n : Nat)) rfl rfl (fun w' _ => by simp [go_sem]) ?_
      simp only [List.setIfInBounds_toArray, List.set_cons_succ, List.set_cons_zero]
      refine wq_valD 10 (.bool true) rfl rfl (fun w' _ => by simp [go_sem, e1]; omega) ?_
      simp only [List.setIfInBounds_toArray, List.set_cons_succ, List.set_cons_zero]
      refine wq_valD 11 (.bool true) rfl rfl (fun w' _ => by simp [go_sem]) ?_
      simp only [List.setIfInBounds_toArray, List.set_cons_succ, List.set_cons_zero]
      refine wq_valD 12 (.slice (some ⟨bq, oq, none⟩) n c) rfl rfl (fun w' _ => by simp [go_sem]) ?_
      simp only [List.setIfInBounds_toArray, List.set_cons_succ, List.set_cons_zero]
      refine wq_valD 13 (.int .i64 (i : Nat)) rfl rfl (fun w' _ => by simp [go_sem]) ?_
      simp only [List.setIfInBounds_toArray, List.set_cons_succ, List.set_cons_zero]
      refine wq_valD 14 (.pointer (some ⟨bq, oq + i * 4, none⟩)) rfl rfl (fun w' _ => by simp [go_sem, hin]) ?_
      simp only [List.setIfInBounds_toArray, List.set_cons_succ, List.set_cons_zero]
      refine wq_midD 15 rfl rfl 24 (.tmp 14) rfl bq (oq + i * 4) (by simp [go_sem]) (qcs x) _ (fun w' h => range_keep HC.out h) Try.underlying24 rfl SZ.out ?_
      simp only [List.setIfInBounds_toArray, List.set_cons_succ, List.set_cons_zero]
      refine wq_midD 16 rfl rfl 24 (.tmp 3) rfl w.heap.size 0 (by simp [go_sem]) (qcs q) _ (fun w' h => range_keep HQR.out h) Try.underlying24 rfl SZ.out ?_
      simp only [List.setIfInBounds_toArray, List.set_cons_succ, List.set_cons_zero]
      refine wq_callD 17 (.int .i64 cv) 25 #[qv x, qv q] rfl rfl (fun w' => by simp [go_sem, qv, qcs]) (fun w' h => by rw [HCV.out]; exact (rcompare_calls w' x q).mono fun e w2 ⟨h1, h2⟩ => ⟨h1, h.trans (h2.mono h.size)⟩) ?_
      simp only [List.setIfInBounds_toArray, List.set_cons_succ, List.set_cons_zero]
      refine wq_valD 18 (.bool (decide (cv < 0))) rfl rfl (fun w' _ => by simp [go_sem]) ?_
      simp only [List.setIfInBounds_toArray, List.set_cons_succ, List.set_cons_zero]
      refine wq_valD 19 (.bool (decide (cv < 0))) rfl rfl (fun w' _ => by simp [go_sem]) ?_
      simp only [List.setIfInBounds_toArray, List.set_cons_succ, List.set_cons_zero]
      refine wq_nilD ?_
      intro w2 hb2
      have HB2 := Lib.hid (HBR.out.trans (hb2.mono hzr))
      have HBW := Lib.hid hb2
      clear hb2
      by_cases hcv0 : cv < 0
      · have e2 : decide (cv < 0) = true := decide_eq_true hcv0
        have hlt : i < R := by
          refine Decidable.byContradiction fun hn' => ?_
          have e3 : i = R := by omega
          have := fndN_ge (L := L) (q := q) (by rw [← HR.out, HS.out.len]; omega)
          rw [← HR.out, ← e3, ← HX.out, ← HCV.out] at this
          omega
        have HLT := Lib.hid hlt
        clear hlt
        go_wp2_with fail
        exact ⟨⟨i + 1, by go_num, by have := HLT.out; omega, HB2.out⟩, by simp [intOf]; omega⟩
      · have e2 : decide (cv < 0) = false := decide_eq_false hcv0
        have hiR : i = R := by
          refine Decidable.byContradiction fun hn' => ?_
          have := fndN_lt (L := L) (q := q) (t := i) (by rw [← HR.out]; omega)
          rw [← HX.out, ← HCV.out] at this
          exact hcv0 this
        have HIR := Lib.hid hiR
        clear hiR
        have HC2 := Lib.hid (range_keep HC.out (show Below wr.heap.size wr w2 from HBW.out))
        have HQ2 := Lib.hid (range_keep HQ0.out HB2.out)
        go_upto_region 4 with fail
        have hz2 := HB2.out.size
        refine wp_region_quiet_all (fun w' => Below _ w2 w') (by kernel_rfl) (by kernel_rfl) (below_drewN (Below.refl w2.heap.size w2) 1) ?_
        refine WQ.h ?_
        refine wq_valD 22 (.int .i64 (i : Nat)) rfl rfl (fun w' _ => by simp [go_sem]) ?_
        simp only [List.setIfInBounds_toArray, List.set_cons_succ, List.set_cons_zero]
        refine wq_valD 23 (.int .i64 (i : Nat)) rfl rfl (fun w' _ => by simp [go_sem]) ?_
        simp only [List.setIfInBounds_toArray, List.set_cons_succ, List.set_cons_zero]
        refine wq_valD 24 (.slice (some ⟨bq, oq, none⟩) n c) rfl rfl (fun w' _ => by simp [go_sem]) ?_
        simp only [List.setIfInBounds_toArray, List.set_cons_succ, List.set_cons_zero]
        refine wq_valD 25 (.int .i64 (n : Nat)) rfl rfl (fun w' _ => by simp [go_sem]) ?_
        simp only [List.setIfInBounds_toArray, List.set_cons_succ, List.set_cons_zero]
        refine wq_valD 26 (.bool true) rfl rfl (fun w' _ => by simp [go_sem, e1]; omega) ?_
        simp only [List.setIfInBounds_toArray, List.set_cons_succ, List.set_cons_zero]
        refine wq_valD 27 (.bool true) rfl rfl (fun w' _ => by simp [go_sem]) ?_
        simp only [List.setIfInBounds_toArray, List.set_cons_succ, List.set_cons_zero]
        refine wq_valD 28 (.slice (some ⟨bq, oq, none⟩) n c) rfl rfl (fun w' _ => by simp [go_sem]) ?_
        simp only [List.setIfInBounds_toArray, List.set_cons_succ, List.set_cons_zero]
        refine wq_valD 29 (.int .i64 (i : Nat)) rfl rfl (fun w' _ => by simp [go_sem]) ?_
        simp only [List.setIfInBounds_toArray, List.set_cons_succ, List.set_cons_zero]
        refine wq_valD 30 (.pointer (some ⟨bq, oq + i * 4, none⟩)) rfl rfl (fun w' _ => by simp [go_sem, hin]) ?_
        simp only [List.setIfInBounds_toArray, List.set_cons_succ, List.set_cons_zero]
        refine wq_midD 31 rfl rfl 24 (.tmp 30) rfl bq (oq + i * 4) (by simp [go_sem]) (qcs x) _ (fun w' h => range_keep HC2.out h) Try.underlying24 rfl SZ.out ?_
        simp only [List.setIfInBounds_toArray, List.set_cons_succ, List.set_cons_zero]
        refine wq_midD 32 rfl rfl 24 (.tmp 3) rfl w.heap.size 0 (by simp [go_sem]) (qcs q) _ (fun w' h => range_keep HQ2.out h) Try.underlying24 rfl SZ.out ?_
        simp only [List.setIfInBounds_toArray, List.set_cons_succ, List.set_cons_zero]
        refine wq_valD 33 (.bool (decide (x = q))) rfl rfl (fun w' _ => by simp [go_sem, eqlQ]) ?_
        simp only [List.setIfInBounds_toArray, List.set_cons_succ, List.set_cons_zero]
        refine wq_valD 34 (.bool (decide (x = q))) rfl rfl (fun w' _ => by simp [go_sem]) ?_
        simp only [List.setIfInBounds_toArray, List.set_cons_succ, List.set_cons_zero]
        refine wq_valD 4 (.int .i64 (i : Nat)) rfl rfl (fun w' _ => by simp [go_sem]) ?_
        simp only [List.setIfInBounds_toArray, List.set_cons_succ, List.set_cons_zero]
        refine wq_valD 5 (.bool (decide (x = q))) rfl rfl (fun w' _ => by simp [go_sem]) ?_
        simp only [List.setIfInBounds_toArray, List.set_cons_succ, List.set_cons_zero]
        refine wq_nilD ?_
        intro w3 hb3
        have HB3 := Lib.hid (HB2.out.trans (hb3.mono hz2))
        clear hb3
        go_wp2_with fail
        go_ret2
        have e3 : decide (R < n) = true := decide_eq_true (by have := HIR.out; omega)
        rw [e3, Bool.true_and, ← HIR.out, HIR.out, HR.out, ← HR.out]
        rw [HX.out, HIR.out]
        exact ⟨rfl, HB0.out.trans (HB3.out.mono hz)⟩
    · have hiR : i = R := by omega
      have HIR := Lib.hid hiR
      have hnR : decide (R < n) = false := decide_eq_false (by omega)
      have HNR := Lib.hid hnR
      clear hiR hnR
      go_upto_region 2 with fail
      refine wp_region_quiet_all (fun w' => Below wr.heap.size wr w') (by kernel_rfl) (by kernel_rfl) (below_drewN (Below.refl _ _) 1) ?_
      refine WQ.h ?_
      refine wq_valD 7 (.int .i64 (i : Nat)) rfl rfl (fun w' _ => by simp [go_sem]) ?_
      simp only [List.setIfInBounds_toArray, List.set_cons_succ, List.set_cons_zero]
      refine wq_valD 8 (.slice a n c) rfl rfl (fun w' _ => by simp [go_sem]) ?_
      simp only [List.setIfInBounds_toArray, List.set_cons_succ, List.set_cons_zero]
      refine wq_valD 9 (.int .i64 (n : Nat)) rfl rfl (fun w' _ => by simp [go_sem]) ?_
      simp only [List.setIfInBounds_toArray, List.set_cons_succ, List.set_cons_zero]
      refine wq_valD 10 (.bool false) rfl rfl (fun w' _ => by simp [go_sem]; omega) ?_
      simp only [List.setIfInBounds_toArray, List.set_cons_succ, List.set_cons_zero]
      refine wq_valD 11 (.bool false) rfl rfl (fun w' _ => by simp [go_sem]) ?_
      simp only [List.setIfInBounds_toArray, List.set_cons_succ, List.set_cons_zero]
      refine wq_skipD 12 rfl rfl ?_
      simp only [List.setIfInBounds_toArray, List.set_cons_succ, List.set_cons_zero]
      refine wq_skipD 13 rfl rfl ?_
      simp only [List.setIfInBounds_toArray, List.set_cons_succ, List.set_cons_zero]
      refine wq_skipD 14 rfl rfl ?_
      simp only [List.setIfInBounds_toArray, List.set_cons_succ, List.set_cons_zero]
      refine wq_skipD 15 rfl rfl ?_
      simp only [List.setIfInBounds_toArray, List.set_cons_succ, List.set_cons_zero]
      refine wq_skipD 16 rfl rfl ?_
      simp only [List.setIfInBounds_toArray, List.set_cons_succ, List.set_cons_zero]
      refine wq_skipD 17 rfl rfl ?_
      simp only [List.setIfInBounds_toArray, List.set_cons_succ, List.set_cons_zero]
      refine wq_skipD 18 rfl rfl ?_
      simp only [List.setIfInBounds_toArray, List.set_cons_succ, List.set_cons_zero]
      refine wq_valD 19 (.bool false) rfl rfl (fun w' _ => by simp [go_sem]) ?_
      simp only [List.setIfInBounds_toArray, List.set_cons_succ, List.set_cons_zero]
      refine wq_nilD ?_
      intro w2 hb2
      have HB2 := Lib.hid (HBR.out.trans (hb2.mono hzr))
      clear hb2
      go_upto_region 4 with fail
      have hz2 := HB2.out.size
      refine wp_region_quiet_all (fun w' => Below _ w2 w') (by kernel_rfl) (by kernel_rfl) (below_drewN (Below.refl w2.heap.size w2) 1) ?_
      refine WQ.h ?_
      refine wq_valD 22 (.int .i64 (i : Nat)) rfl rfl (fun w' _ => by simp [go_sem]) ?_
      simp only [List.setIfInBounds_toArray, List.set_cons_succ, List.set_cons_zero]
      refine wq_valD 23 (.int .i64 (i : Nat)) rfl rfl (fun w' _ => by simp [go_sem]) ?_
      simp only [List.setIfInBounds_toArray, List.set_cons_succ, List.set_cons_zero]
      refine wq_valD 24 (.slice a n c) rfl rfl (fun w' _ => by simp [go_sem]) ?_
      simp only [List.setIfInBounds_toArray, List.set_cons_succ, List.set_cons_zero]
      refine wq_valD 25 (.int .i64 (n : Nat)) rfl rfl (fun w' _ => by simp [go_sem]) ?_
      simp only [List.setIfInBounds_toArray, List.set_cons_succ, List.set_cons_zero]
      refine wq_valD 26 (.bool false) rfl rfl (fun w' _ => by simp [go_sem]; omega) ?_
      simp only [List.setIfInBounds_toArray, List.set_cons_succ, List.set_cons_zero]
      refine wq_valD 27 (.bool false) rfl rfl (fun w' _ => by simp [go_sem]) ?_
      simp only [List.setIfInBounds_toArray, List.set_cons_succ, List.set_cons_zero]
      refine wq_skipD 28 rfl rfl ?_
      simp only [List.setIfInBounds_toArray, List.set_cons_succ, List.set_cons_zero]
      refine wq_skipD 29 rfl rfl ?_
      simp only [List.setIfInBounds_toArray, List.set_cons_succ, List.set_cons_zero]
      refine wq_skipD 30 rfl rfl ?_
      simp only [List.setIfInBounds_toArray, List.set_cons_succ, List.set_cons_zero]
      refine wq_skipD 31 rfl rfl ?_
      simp only [List.setIfInBounds_toArray, List.set_cons_succ, List.set_cons_zero]
      refine wq_skipD 32 rfl rfl ?_
      simp only [List.setIfInBounds_toArray, List.set_cons_succ, List.set_cons_zero]
      refine wq_skipD 33 rfl rfl ?_
      simp only [List.setIfInBounds_toArray, List.set_cons_succ, List.set_cons_zero]
      refine wq_valD 34 (.bool false) rfl rfl (fun w' _ => by simp [go_sem]) ?_
      simp only [List.setIfInBounds_toArray, List.set_cons_succ, List.set_cons_zero]
      refine wq_valD 4 (.int .i64 (i : Nat)) rfl rfl (fun w' _ => by simp [go_sem]) ?_
      simp only [List.setIfInBounds_toArray, List.set_cons_succ, List.set_cons_zero]
      refine wq_valD 5 (.bool false) rfl rfl (fun w' _ => by simp [go_sem]) ?_
      simp only [List.setIfInBounds_toArray, List.set_cons_succ, List.set_cons_zero]
      refine wq_nilD ?_
      intro w3 hb3
      have HB3 := Lib.hid (HB2.out.trans (hb3.mono hz2))
      clear hb3
      go_wp2_with fail
      go_ret2
      rw [HNR.out, HIR.out, Bool.false_and]
      exact ⟨rfl, HB0.out.trans (HB3.out.mono hz)⟩
end Go.Proofs.Ytgajpekolamjbaa
/- rising: the quads that are right and rise. -/
namespace Go.Tk
open Go Go.RowKit
/-- One quad more, if it is right and stands behind the last one. -/
def risS (acc : List Qd) (x : Qd) : List Qd := if okQ x = true ∧ (acc.length = 0 ∨ cmpQ (acc.getD (acc.length - 1) default) x < 0) then acc ++ [x] else acc
def risN (L : List Qd) : Nat → List Qd
  | 0 => []
  | i + 1 => risS (risN L i) (L.getD i default)
def risL (L : List Qd) : List Qd := risN L L.length
theorem risN_len (L : List Qd) : ∀ i, (risN L i).length ≤ i
  | 0 => Nat.le_refl _
  | i + 1 => by
    have := risN_len L i
    simp only [risN, risS]
    split
    · simp; omega
    · omega
/-- What holds of quads that are right and rise. -/
def RisP (M : List Qd) : Prop := (∀ i, i < M.length → okQ (M.getD i default) = true) ∧ ∀ i, 0 < i → i < M.length → cmpQ (M.getD (i - 1) default) (M.getD i default) < 0
theorem risS_ok {M : List Qd} (h : RisP M) (x : Qd) : RisP (risS M x) := by
  unfold risS
  split
  · rename_i hx
    refine ⟨fun i hi => ?_, fun i h0 hi => ?_⟩
    · rw [List.length_append, List.length_singleton] at hi
      by_cases e : i < M.length
      · rw [show (M ++ [x]).getD i default = M.getD i default by simp [List.getD_eq_getElem?_getD, List.getElem?_append_left e]]; exact h.1 i e
      · obtain rfl : i = M.length := by omega
        rw [show (M ++ [x]).getD M.length default = x by simp]; exact hx.1
    · rw [List.length_append, List.length_singleton] at hi
      by_cases e : i < M.length
      · rw [show (M ++ [x]).getD i default = M.getD i default by simp [List.getD_eq_getElem?_getD, List.getElem?_append_left e], show (M ++ [x]).getD (i - 1) default = M.getD (i - 1) default by simp [List.getD_eq_getElem?_getD, List.getElem?_append_left (show i - 1 < M.length by omega)]]
        exact h.2 i h0 e
      · obtain rfl : i = M.length := by omega
        rw [show (M ++ [x]).getD M.length default = x by simp, show (M ++ [x]).getD (M.length - 1) default = M.getD (M.length - 1) default by simp [List.getD_eq_getElem?_getD, List.getElem?_append_left (show M.length - 1 < M.length by omega)]]
        exact hx.2.resolve_left (by omega)
  · exact h
theorem risN_ok (L : List Qd) : ∀ i, RisP (risN L i)
  | 0 => ⟨fun i h => by simp [risN] at h, fun i _ h => by simp [risN] at h⟩
  | i + 1 => risS_ok (risN_ok L i) _
theorem ris_right {L : List Qd} (h : (risL L).length ≤ 1048576) : Right (risL L) := ⟨h, (risN_ok L _).1, (risN_ok L _).2⟩
theorem slQ_oneR {e : TypeId} (w : World) (q : Qd) : SlQ (w.alloc (.cells (qcs q).toArray e)) (some ⟨w.heap.size, 0, none⟩) 1 1 [q] :=
  ⟨rfl, Nat.le_refl _, by omega, fun i hi => ⟨w.heap.size, 0, rfl, fun j v hv => by
    obtain rfl : i = 0 := by omega
    rw [World.cell?_alloc_at _ _ _ _ rfl]
    simpa using hv⟩⟩
theorem wrap64_nat (x : Nat) (h : x < 9223372036854775808) : wrap64 (x : Int) = (x : Int) := by unfold wrap64; omega
end Go.Tk
namespace Go.Proofs.Ytgajpekolamjbaa
open Go Go.RowKit Go.Tk
set_option maxRecDepth 100000 in
set_option maxHeartbeats 4000000 in
theorem rising_calls (w : World) (a : Option Addr) (n c : Nat) (L : List Qd) (h : SlQ w a n c L) (hn : n ≤ 4398046510976) :
    Calls Try.prog 14 #[.slice a n c] w fun e w' => ∃ v, e = .returned v ∧ OwQ 24 w.heap.size w' v (risL L) ∧ Below w.heap.size w w' := by
  have hcap := h.le
  have SZ := Lib.hid Try.sizeIds
  obtain ⟨R, hR⟩ : ∃ R, R = risL L := ⟨_, rfl⟩
  rw [← hR]
  have HR := Lib.hid (show R = risN L n by rw [hR, ← h.len]; rfl)
  have HS := Lib.hid h
  clear hR h
  go_enter Try.func14, Try.ntmps14
  go_wp2_with fail
  go_loopw [4, 3] (fun iv v wr => ∃ (i : Nat) (v' : Value), iv = .int .i64 (i : Nat) ∧ v = v' ∧ i ≤ n ∧ OwQ 24 w.heap.size wr v' (risN L i) ∧ Below w.heap.size w wr) (fun iv _ _ => n - (intOf iv).toNat)
  case atStart => exact ⟨0, _, rfl, rfl, Nat.zero_le _, OwQ.nil _ _ _, Below.refl _ _⟩
  case round =>
    rename World => wr
    obtain ⟨i, v, rfl, rfl, hi, how, hbr⟩ := hrel
    have HBR := Lib.hid hbr
    have hzr := hbr.size
    have hlen := risN_len L i
    clear hbr
    by_cases hin : i < n
    rotate_left
    · have hie : i = n := by omega
      have HO := Lib.hid (show OwQ 24 w.heap.size wr _ R by rw [HR.out, ← hie]; exact how)
      clear how
      go_wp2_with fail
      go_ret
      exact ⟨_, rfl, HO.out, HBR.out⟩
    · have e1 : decide ((i : Int) < (n : Int)) = true := decide_eq_true (by omega)
      obtain ⟨bq, oq, hab, hcq⟩ := (HS.out.keep HBR.out).cell i hin
      subst hab
      obtain ⟨x, hx⟩ : ∃ x, x = L.getD i default := ⟨_, rfl⟩
      rw [← hx] at hcq
      have HC := Lib.hid hcq
      have HX := Lib.hid hx
      obtain ⟨m, hm⟩ : ∃ m, m = (risN L i).length := ⟨_, rfl⟩
      obtain ⟨av, cv, hv, hsv, hnv⟩ := how.sl
      subst hv
      rw [← hm] at hsv
      have HOW := Lib.hid how
      have HM := Lib.hid hm
      have HSV := Lib.hid hsv
      have hmi : m ≤ i := by omega
      have hnx : risN L (i + 1) = risS (risN L i) x := by rw [hx]; rfl
      rw [← hm]
      rw [← hm] at hlen
      clear hcq hx how hm hsv hnv
      cases hok : okQ x with
      | false =>
        have HOK := Lib.hid hok
        have HNX := Lib.hid (show risN L (i + 1) = risN L i by rw [hnx]; unfold risS; rw [if_neg (by rw [hok]; simp)])
        clear hok hnx
        go_upto_region 5 with fail
        refine wp_region_quiet_all (fun w' => Below wr.heap.size wr w') (by kernel_rfl) (by kernel_rfl) (below_drewN (Below.refl _ _) 1) ?_
        refine WQ.h ?_
        refine wq_valD 11 (.slice (some ⟨bq, oq, none⟩) n c) rfl rfl (fun w' h => by simp [go_sem]) ?_
        simp only [List.setIfInBounds_toArray, List.set_cons_succ, List.set_cons_zero]
        refine wq_valD 12 (.int .i64 (i : Nat)) rfl rfl (fun w' h => by simp [go_sem]) ?_
        simp only [List.setIfInBounds_toArray, List.set_cons_succ, List.set_cons_zero]
        refine wq_valD 13 (.pointer (some ⟨bq, oq + i * 4, none⟩)) rfl rfl (fun w' h => by simp [go_sem, hin]) ?_
        simp only [List.setIfInBounds_toArray, List.set_cons_succ, List.set_cons_zero]
        refine wq_midD 14 rfl rfl 24 (.tmp 13) rfl bq (oq + i * 4) (by simp [go_sem]) (qcs x) _ (fun w' h => range_keep HC.out h) Try.underlying24 rfl SZ.out ?_
        simp only [List.setIfInBounds_toArray, List.set_cons_succ, List.set_cons_zero]
        refine wq_callD 15 (.bool false) 45 #[qv x] rfl rfl (fun w' => by simp [go_sem, qv, qcs]) (fun w' h => by rw [← HOK.out]; exact (rright_calls w' x).mono fun e w2 ⟨h1, h2⟩ => ⟨h1, h.trans (h2.mono h.size)⟩) ?_
        simp only [List.setIfInBounds_toArray, List.set_cons_succ, List.set_cons_zero]
        refine wq_valD 16 (.bool false) rfl rfl (fun w' h => by simp [go_sem]) ?_
        simp only [List.setIfInBounds_toArray, List.set_cons_succ, List.set_cons_zero]
        refine wq_skipD 17 rfl rfl ?_
        simp only [List.setIfInBounds_toArray, List.set_cons_succ, List.set_cons_zero]
        refine wq_skipD 18 rfl rfl ?_
        simp only [List.setIfInBounds_toArray, List.set_cons_succ, List.set_cons_zero]
        refine wq_skipD 19 rfl rfl ?_
        simp only [List.setIfInBounds_toArray, List.set_cons_succ, List.set_cons_zero]
        refine wq_skipD 20 rfl rfl ?_
        simp only [List.setIfInBounds_toArray, List.set_cons_succ, List.set_cons_zero]
        refine wq_skipD 21 rfl rfl ?_
        simp only [List.setIfInBounds_toArray, List.set_cons_succ, List.set_cons_zero]
        refine wq_skipD 22 rfl rfl ?_
        simp only [List.setIfInBounds_toArray, List.set_cons_succ, List.set_cons_zero]
        refine wq_skipD 23 rfl rfl ?_
        simp only [List.setIfInBounds_toArray, List.set_cons_succ, List.set_cons_zero]
        refine wq_skipD 24 rfl rfl ?_
        simp only [List.setIfInBounds_toArray, List.set_cons_succ, List.set_cons_zero]
        refine wq_skipD 25 rfl rfl ?_
        simp only [List.setIfInBounds_toArray, List.set_cons_succ, List.set_cons_zero]
        refine wq_skipD 26 rfl rfl ?_
        simp only [List.setIfInBounds_toArray, List.set_cons_succ, List.set_cons_zero]
        refine wq_skipD 27 rfl rfl ?_
        simp only [List.setIfInBounds_toArray, List.set_cons_succ, List.set_cons_zero]
        refine wq_skipD 28 rfl rfl ?_
        simp only [List.setIfInBounds_toArray, List.set_cons_succ, List.set_cons_zero]
        refine wq_skipD 29 rfl rfl ?_
        simp only [List.setIfInBounds_toArray, List.set_cons_succ, List.set_cons_zero]
        refine wq_skipD 30 rfl rfl ?_
        simp only [List.setIfInBounds_toArray, List.set_cons_succ, List.set_cons_zero]
        refine wq_skipD 31 rfl rfl ?_
        simp only [List.setIfInBounds_toArray, List.set_cons_succ, List.set_cons_zero]
        refine wq_skipD 32 rfl rfl ?_
        simp only [List.setIfInBounds_toArray, List.set_cons_succ, List.set_cons_zero]
        refine wq_skipD 33 rfl rfl ?_
        simp only [List.setIfInBounds_toArray, List.set_cons_succ, List.set_cons_zero]
        refine wq_valD 34 (.bool false) rfl rfl (fun w' h => by simp [go_sem]) ?_
        simp only [List.setIfInBounds_toArray, List.set_cons_succ, List.set_cons_zero]
        refine wq_nilD ?_
        intro w2 hb2
        have hB2 := HBR.out.trans (hb2.mono hzr)
        have HB2 := Lib.hid hB2
        have OW2 := Lib.hid (HOW.out.stay hb2)
        have HS2 := Lib.hid (HS.out.keep hB2)
        clear hb2 hB2
        go_wp2_with fail
        exact ⟨⟨i + 1, _, by go_num, rfl, by omega, by rw [HNX.out]; have := OW2.out; rw [← HM.out] at this; exact this, HB2.out⟩, by simp [intOf]; omega⟩
      | true =>
        have HOK := Lib.hid hok
        by_cases hm0 : m = 0
        · have HNX := Lib.hid (show risN L (i + 1) = risN L i ++ [x] by rw [hnx]; unfold risS; rw [if_pos ⟨hok, .inl (by rw [← HM.out]; exact hm0)⟩])
          subst hm0
          clear hok hnx
          go_upto_region 5 with fail
          refine wp_region_quiet_all (fun w' => Below wr.heap.size wr w') (by kernel_rfl) (by kernel_rfl) (below_drewN (Below.refl _ _) 1) ?_
          refine WQ.h ?_
          refine wq_valD 11 (.slice (some ⟨bq, oq, none⟩) n c) rfl rfl (fun w' h => by simp [go_sem]) ?_
          simp only [List.setIfInBounds_toArray, List.set_cons_succ, List.set_cons_zero]
          refine wq_valD 12 (.int .i64 (i : Nat)) rfl rfl (fun w' h => by simp [go_sem]) ?_
          simp only [List.setIfInBounds_toArray, List.set_cons_succ, List.set_cons_zero]
          refine wq_valD 13 (.pointer (some ⟨bq, oq + i * 4, none⟩)) rfl rfl (fun w' h => by simp [go_sem, hin]) ?_
          simp only [List.setIfInBounds_toArray, List.set_cons_succ, List.set_cons_zero]
          refine wq_midD 14 rfl rfl 24 (.tmp 13) rfl bq (oq + i * 4) (by simp [go_sem]) (qcs x) _ (fun w' h => range_keep HC.out h) Try.underlying24 rfl SZ.out ?_
          simp only [List.setIfInBounds_toArray, List.set_cons_succ, List.set_cons_zero]
          refine wq_callD 15 (.bool true) 45 #[qv x] rfl rfl (fun w' => by simp [go_sem, qv, qcs]) (fun w' h => by rw [← HOK.out]; exact (rright_calls w' x).mono fun e w2 ⟨h1, h2⟩ => ⟨h1, h.trans (h2.mono h.size)⟩) ?_
          simp only [List.setIfInBounds_toArray, List.set_cons_succ, List.set_cons_zero]
          refine wq_valD 16 (.bool true) rfl rfl (fun w' h => by simp [go_sem]) ?_
          simp only [List.setIfInBounds_toArray, List.set_cons_succ, List.set_cons_zero]
          refine wq_valD 17 (.slice av 0 cv) rfl rfl (fun w' h => by simp [go_sem]) ?_
          simp only [List.setIfInBounds_toArray, List.set_cons_succ, List.set_cons_zero]
          refine wq_valD 18 (.int .i64 0) rfl rfl (fun w' h => by simp [go_sem]) ?_
          simp only [List.setIfInBounds_toArray, List.set_cons_succ, List.set_cons_zero]
          refine wq_valD 19 (.bool true) rfl rfl (fun w' h => by simp [go_sem]) ?_
          simp only [List.setIfInBounds_toArray, List.set_cons_succ, List.set_cons_zero]
          refine wq_valD 20 (.bool true) rfl rfl (fun w' h => by simp [go_sem]) ?_
          simp only [List.setIfInBounds_toArray, List.set_cons_succ, List.set_cons_zero]
          refine wq_skipD 21 rfl rfl ?_
          simp only [List.setIfInBounds_toArray, List.set_cons_succ, List.set_cons_zero]
          refine wq_skipD 22 rfl rfl ?_
          simp only [List.setIfInBounds_toArray, List.set_cons_succ, List.set_cons_zero]
          refine wq_skipD 23 rfl rfl ?_
          simp only [List.setIfInBounds_toArray, List.set_cons_succ, List.set_cons_zero]
          refine wq_skipD 24 rfl rfl ?_
          simp only [List.setIfInBounds_toArray, List.set_cons_succ, List.set_cons_zero]
          refine wq_skipD 25 rfl rfl ?_
          simp only [List.setIfInBounds_toArray, List.set_cons_succ, List.set_cons_zero]
          refine wq_skipD 26 rfl rfl ?_
          simp only [List.setIfInBounds_toArray, List.set_cons_succ, List.set_cons_zero]
          refine wq_skipD 27 rfl rfl ?_
          simp only [List.setIfInBounds_toArray, List.set_cons_succ, List.set_cons_zero]
          refine wq_skipD 28 rfl rfl ?_
          simp only [List.setIfInBounds_toArray, List.set_cons_succ, List.set_cons_zero]
          refine wq_skipD 29 rfl rfl ?_
          simp only [List.setIfInBounds_toArray, List.set_cons_succ, List.set_cons_zero]
          refine wq_skipD 30 rfl rfl ?_
          simp only [List.setIfInBounds_toArray, List.set_cons_succ, List.set_cons_zero]
          refine wq_skipD 31 rfl rfl ?_
          simp only [List.setIfInBounds_toArray, List.set_cons_succ, List.set_cons_zero]
          refine wq_skipD 32 rfl rfl ?_
          simp only [List.setIfInBounds_toArray, List.set_cons_succ, List.set_cons_zero]
          refine wq_valD 33 (.bool true) rfl rfl (fun w' h => by simp [go_sem]) ?_
          simp only [List.setIfInBounds_toArray, List.set_cons_succ, List.set_cons_zero]
          refine wq_valD 34 (.bool true) rfl rfl (fun w' h => by simp [go_sem]) ?_
          simp only [List.setIfInBounds_toArray, List.set_cons_succ, List.set_cons_zero]
          refine wq_nilD ?_
          intro w2 hb2
          have hB2 := HBR.out.trans (hb2.mono hzr)
          have HB2 := Lib.hid hB2
          have OW2 := Lib.hid (HOW.out.stay hb2)
          have HS2 := Lib.hid (HS.out.keep hB2)
          clear hb2 hB2
          have owm := OW2.out
          rw [← HM.out] at owm
          have OWM := Lib.hid owm
          have hl2 := risN_len L i
          clear owm
          obtain ⟨bq2, oq2, hab2, hcq2⟩ := HS2.out.cell i hin
          obtain ⟨rfl, rfl⟩ : bq = bq2 ∧ oq = oq2 := by simpa using hab2
          have hw2 := hcq2
          rw [← HX.out] at hw2
          have HC2 := Lib.hid hw2
          clear hab2 hcq2 hw2
          have hz2 := HB2.out.size
          have x0 : w2.cell? ⟨bq, oq + i * 4, none⟩ = some (.int .i64 x.a) := qcs_at HC2.out 0 (by omega)
          have x1 : w2.cell? ⟨bq, oq + i * 4 + 1, none⟩ = some (.int .i64 x.b) := qcs_at HC2.out 1 (by omega)
          have x2 : w2.cell? ⟨bq, oq + i * 4 + 2, none⟩ = some (.int .i64 x.c) := qcs_at HC2.out 2 (by omega)
          have x3 : w2.cell? ⟨bq, oq + i * 4 + 3, none⟩ = some (.int .i64 x.d) := qcs_at HC2.out 3 (by omega)
          go_wp2_with (at_builtin; (refine wpList_appQ rfl (.tmp 35) (.tmp 40) _ rfl w.heap.size 24 _ Try.underlying22 infoIds rfl _ (risN L i) rfl (OWM.out.alloc _) _ _ _ [x] rfl (slQ_oneR w2 x) (fun e => by cases e) (by simp; omega) (by simp; omega) ?_; intro v3 w3 ow3 hg3 st3; (have OW3 := Lib.hid ow3); (have HB3 := Lib.hid ((HB2.out.alloc hz2 (.cells (qcs x).toArray 24)).trans (below_of_grown hg3 (by simp; omega) (fun k hk => (OWM.out.lt k hk).1)))); clear ow3 hg3 st3))
          exact ⟨⟨i + 1, v3, by go_num, rfl, by omega, by rw [HNX.out]; exact OW3.out, HB3.out⟩, by simp [intOf]; omega⟩
        · obtain ⟨m1, hm1'⟩ : ∃ m1, m1 = m - 1 := ⟨_, rfl⟩
          have hm1 : (m : Int) - 1 = (m1 : Nat) := by omega
          have hm2 : m1 < 9223372036854775808 := by omega
          have hm3 : m1 < m := by omega
          obtain ⟨ba, oa, hab, hca⟩ := HSV.out.cell m1 hm3
          subst hab
          obtain ⟨y, hy⟩ : ∃ y, y = (risN L i).getD m1 default := ⟨_, rfl⟩
          rw [← hy] at hca
          have HD := Lib.hid hca
          obtain ⟨cc, hcc⟩ : ∃ cc, cc = cmpQ y x := ⟨_, rfl⟩
          have HCC := Lib.hid hcc
          have hst : risN L (i + 1) = if cc < 0 then risN L i ++ [x] else risN L i := by
            rw [hnx]; unfold risS
            rw [← HM.out, ← hm1', ← hy, ← hcc, hok]
            by_cases hc0 : cc < 0
            · rw [if_pos hc0, if_pos ⟨rfl, .inr hc0⟩]
            · rw [if_neg hc0, if_neg (by rintro ⟨_, h | h⟩; · exact hm0 h
                                         · exact hc0 h)]
          have HST := Lib.hid hst
          clear hok hnx hca hy hcc hst hm1'
          go_upto_region 5 with fail
          refine wp_region_quiet_all (fun w' => Below wr.heap.size wr w') (by kernel_rfl) (by kernel_rfl) (below_drewN (Below.refl _ _) 1) ?_
          refine WQ.h ?_
          refine wq_valD 11 (.slice (some ⟨bq, oq, none⟩) n c) rfl rfl (fun w' h => by simp [go_sem]) ?_
          simp only [List.setIfInBounds_toArray, List.set_cons_succ, List.set_cons_zero]
          refine wq_valD 12 (.int .i64 (i : Nat)) rfl rfl (fun w' h => by simp [go_sem]) ?_
          simp only [List.setIfInBounds_toArray, List.set_cons_succ, List.set_cons_zero]
          refine wq_valD 13 (.pointer (some ⟨bq, oq + i * 4, none⟩)) rfl rfl (fun w' h => by simp [go_sem, hin]) ?_
          simp only [List.setIfInBounds_toArray, List.set_cons_succ, List.set_cons_zero]
          refine wq_midD 14 rfl rfl 24 (.tmp 13) rfl bq (oq + i * 4) (by simp [go_sem]) (qcs x) _ (fun w' h => range_keep HC.out h) Try.underlying24 rfl SZ.out ?_
          simp only [List.setIfInBounds_toArray, List.set_cons_succ, List.set_cons_zero]
          refine wq_callD 15 (.bool true) 45 #[qv x] rfl rfl (fun w' => by simp [go_sem, qv, qcs]) (fun w' h => by rw [← HOK.out]; exact (rright_calls w' x).mono fun e w2 ⟨h1, h2⟩ => ⟨h1, h.trans (h2.mono h.size)⟩) ?_
          simp only [List.setIfInBounds_toArray, List.set_cons_succ, List.set_cons_zero]
          refine wq_valD 16 (.bool true) rfl rfl (fun w' h => by simp [go_sem]) ?_
          simp only [List.setIfInBounds_toArray, List.set_cons_succ, List.set_cons_zero]
          refine wq_valD 17 (.slice (some ⟨ba, oa, none⟩) m cv) rfl rfl (fun w' h => by simp [go_sem]) ?_
          simp only [List.setIfInBounds_toArray, List.set_cons_succ, List.set_cons_zero]
          refine wq_valD 18 (.int .i64 (m : Nat)) rfl rfl (fun w' h => by simp [go_sem]) ?_
          simp only [List.setIfInBounds_toArray, List.set_cons_succ, List.set_cons_zero]
          refine wq_valD 19 (.bool false) rfl rfl (fun w' h => by simp [go_sem]; omega) ?_
          simp only [List.setIfInBounds_toArray, List.set_cons_succ, List.set_cons_zero]
          refine wq_valD 20 (.bool false) rfl rfl (fun w' h => by simp [go_sem]) ?_
          simp only [List.setIfInBounds_toArray, List.set_cons_succ, List.set_cons_zero]
          refine wq_valD 21 (.slice (some ⟨ba, oa, none⟩) m cv) rfl rfl (fun w' h => by simp [go_sem]) ?_
          simp only [List.setIfInBounds_toArray, List.set_cons_succ, List.set_cons_zero]
          refine wq_valD 22 (.slice (some ⟨ba, oa, none⟩) m cv) rfl rfl (fun w' h => by simp [go_sem]) ?_
          simp only [List.setIfInBounds_toArray, List.set_cons_succ, List.set_cons_zero]
          refine wq_valD 23 (.int .i64 (m : Nat)) rfl rfl (fun w' h => by simp [go_sem]) ?_
          simp only [List.setIfInBounds_toArray, List.set_cons_succ, List.set_cons_zero]
          refine wq_valD 24 (.int .i64 (m1 : Nat)) rfl rfl (fun w' h => by simp [go_sem, hm1]; rw [IntKind.wrap_i64]; omega) ?_
          simp only [List.setIfInBounds_toArray, List.set_cons_succ, List.set_cons_zero]
          refine wq_valD 25 (.pointer (some ⟨ba, oa + m1 * 4, none⟩)) rfl rfl (fun w' h => by simp [go_sem, hm3]) ?_
          simp only [List.setIfInBounds_toArray, List.set_cons_succ, List.set_cons_zero]
          refine wq_midD 26 rfl rfl 24 (.tmp 25) rfl ba (oa + m1 * 4) (by simp [go_sem]) (qcs y) _ (fun w' h => range_keep HD.out h) Try.underlying24 rfl SZ.out ?_
          simp only [List.setIfInBounds_toArray, List.set_cons_succ, List.set_cons_zero]
          refine wq_valD 27 (.slice (some ⟨bq, oq, none⟩) n c) rfl rfl (fun w' h => by simp [go_sem]) ?_
          simp only [List.setIfInBounds_toArray, List.set_cons_succ, List.set_cons_zero]
          refine wq_valD 28 (.int .i64 (i : Nat)) rfl rfl (fun w' h => by simp [go_sem]) ?_
          simp only [List.setIfInBounds_toArray, List.set_cons_succ, List.set_cons_zero]
          refine wq_valD 29 (.pointer (some ⟨bq, oq + i * 4, none⟩)) rfl rfl (fun w' h => by simp [go_sem, hin]) ?_
          simp only [List.setIfInBounds_toArray, List.set_cons_succ, List.set_cons_zero]
          refine wq_midD 30 rfl rfl 24 (.tmp 29) rfl bq (oq + i * 4) (by simp [go_sem]) (qcs x) _ (fun w' h => range_keep HC.out h) Try.underlying24 rfl SZ.out ?_
          simp only [List.setIfInBounds_toArray, List.set_cons_succ, List.set_cons_zero]
          refine wq_callD 31 (.int .i64 cc) 25 #[qv y, qv x] rfl rfl (fun w' => by simp [go_sem, qv, qcs]) (fun w' h => by rw [HCC.out]; exact (rcompare_calls w' y x).mono fun e w2 ⟨h1, h2⟩ => ⟨h1, h.trans (h2.mono h.size)⟩) ?_
          simp only [List.setIfInBounds_toArray, List.set_cons_succ, List.set_cons_zero]
          refine wq_valD 32 (.bool (decide (cc < 0))) rfl rfl (fun w' h => by simp [go_sem]) ?_
          simp only [List.setIfInBounds_toArray, List.set_cons_succ, List.set_cons_zero]
          refine wq_valD 33 (.bool (decide (cc < 0))) rfl rfl (fun w' h => by simp [go_sem]) ?_
          simp only [List.setIfInBounds_toArray, List.set_cons_succ, List.set_cons_zero]
          refine wq_valD 34 (.bool (decide (cc < 0))) rfl rfl (fun w' h => by simp [go_sem]) ?_
          simp only [List.setIfInBounds_toArray, List.set_cons_succ, List.set_cons_zero]
          refine wq_nilD ?_
          intro w2 hb2
          have hB2 := HBR.out.trans (hb2.mono hzr)
          have HB2 := Lib.hid hB2
          have OW2 := Lib.hid (HOW.out.stay hb2)
          have HS2 := Lib.hid (HS.out.keep hB2)
          clear hb2 hB2
          by_cases hc0 : cc < 0
          · have e2 : decide (cc < 0) = true := decide_eq_true hc0
            have HNX := Lib.hid (show risN L (i + 1) = risN L i ++ [x] by rw [HST.out]; exact if_pos hc0)
            have owm := OW2.out
            rw [← HM.out] at owm
            have OWM := Lib.hid owm
            have hl2 := risN_len L i
            clear owm
            obtain ⟨bq2, oq2, hab2, hcq2⟩ := HS2.out.cell i hin
            obtain ⟨rfl, rfl⟩ : bq = bq2 ∧ oq = oq2 := by simpa using hab2
            have hw2 := hcq2
            rw [← HX.out] at hw2
            have HC2 := Lib.hid hw2
            clear hab2 hcq2 hw2
            have hz2 := HB2.out.size
            have x0 : w2.cell? ⟨bq, oq + i * 4, none⟩ = some (.int .i64 x.a) := qcs_at HC2.out 0 (by omega)
            have x1 : w2.cell? ⟨bq, oq + i * 4 + 1, none⟩ = some (.int .i64 x.b) := qcs_at HC2.out 1 (by omega)
            have x2 : w2.cell? ⟨bq, oq + i * 4 + 2, none⟩ = some (.int .i64 x.c) := qcs_at HC2.out 2 (by omega)
            have x3 : w2.cell? ⟨bq, oq + i * 4 + 3, none⟩ = some (.int .i64 x.d) := qcs_at HC2.out 3 (by omega)
            go_wp2_with (at_builtin; (refine wpList_appQ rfl (.tmp 35) (.tmp 40) _ rfl w.heap.size 24 _ Try.underlying22 infoIds rfl _ (risN L i) rfl (OWM.out.alloc _) _ _ _ [x] rfl (slQ_oneR w2 x) (fun e => by cases e) (by simp; omega) (by simp; omega) ?_; intro v3 w3 ow3 hg3 st3; (have OW3 := Lib.hid ow3); (have HB3 := Lib.hid ((HB2.out.alloc hz2 (.cells (qcs x).toArray 24)).trans (below_of_grown hg3 (by simp; omega) (fun k hk => (OWM.out.lt k hk).1)))); clear ow3 hg3 st3))
            exact ⟨⟨i + 1, v3, by go_num, rfl, by omega, by rw [HNX.out]; exact OW3.out, HB3.out⟩, by simp [intOf]; omega⟩
          · have e2 : decide (cc < 0) = false := decide_eq_false hc0
            have HNX := Lib.hid (show risN L (i + 1) = risN L i by rw [HST.out]; exact if_neg hc0)
            go_wp2_with fail
            exact ⟨⟨i + 1, _, by go_num, rfl, by omega, by rw [HNX.out]; have := OW2.out; rw [← HM.out] at this; exact this, HB2.out⟩, by simp [intOf]; omega⟩
end Go.Proofs.Ytgajpekolamjbaa
/- A level while it is built: put, close. -/
namespace Go.Tk
open Go Go.RowKit
/-- What lies in the eight slices: numbers, and bits as bytes; or bools. -/
def cP (N : Nat → List Int) (B : Nat → List Bool) (i : Nat) : List Value := if i % 2 = 0 then (N (i / 2)).map (Value.int .u64) else (nums (packB (B (i / 2)))).map (Value.int .u8)
def cD (N : Nat → List Int) (B : Nat → List Bool) (i : Nat) : List Value := if i % 2 = 0 then (N (i / 2)).map (Value.int .u64) else (B (i / 2)).map Value.bool
theorem cP_even (N : Nat → List Int) (B : Nat → List Bool) (j : Nat) : cP N B (2 * j) = (N j).map (Value.int .u64) := by unfold cP; rw [if_pos (by omega), show 2 * j / 2 = j by omega]
theorem cP_odd (N : Nat → List Int) (B : Nat → List Bool) (j : Nat) : cP N B (2 * j + 1) = (nums (packB (B j))).map (Value.int .u8) := by unfold cP; rw [if_neg (by omega), show (2 * j + 1) / 2 = j by omega]
theorem cP_num (N : Nat → List Int) (B : Nat → List Bool) (j : Nat) (x : List Int) : cP (uPd N j x) B = uPd (cP N B) (2 * j) (x.map (Value.int .u64)) := by
  funext i
  by_cases e : i = 2 * j
  · subst e; rw [uPd_same, cP_even, uPd_same]
  · rw [uPd_other _ _ e]
    unfold cP
    by_cases h2 : i % 2 = 0
    · rw [if_pos h2, if_pos h2, uPd_other _ _ (by omega)]
    · rw [if_neg h2, if_neg h2]
theorem cP_bit (N : Nat → List Int) (B : Nat → List Bool) (j : Nat) (x : List Bool) : cP N (uPd B j x) = uPd (cP N B) (2 * j + 1) ((nums (packB x)).map (Value.int .u8)) := by
  funext i
  by_cases e : i = 2 * j + 1
  · subst e; rw [uPd_same, cP_odd, uPd_same]
  · rw [uPd_other _ _ e]
    unfold cP
    by_cases h2 : i % 2 = 0
    · rw [if_pos h2, if_pos h2]
    · rw [if_neg h2, if_neg h2, uPd_other _ _ (by omega)]
theorem cD_even (N : Nat → List Int) (B : Nat → List Bool) (j : Nat) : cD N B (2 * j) = (N j).map (Value.int .u64) := by unfold cD; rw [if_pos (by omega), show 2 * j / 2 = j by omega]
theorem cD_odd (N : Nat → List Int) (B : Nat → List Bool) (j : Nat) : cD N B (2 * j + 1) = (B j).map Value.bool := by unfold cD; rw [if_neg (by omega), show (2 * j + 1) / 2 = j by omega]
theorem cD_num (N : Nat → List Int) (B : Nat → List Bool) (j : Nat) (x : List Int) : cD (uPd N j x) B = uPd (cD N B) (2 * j) (x.map (Value.int .u64)) := by
  funext i
  by_cases e : i = 2 * j
  · subst e; rw [uPd_same, cD_even, uPd_same]
  · rw [uPd_other _ _ e]
    unfold cD
    by_cases h2 : i % 2 = 0
    · rw [if_pos h2, if_pos h2, uPd_other _ _ (by omega)]
    · rw [if_neg h2, if_neg h2]
theorem cD_bit (N : Nat → List Int) (B : Nat → List Bool) (j : Nat) (x : List Bool) : cD N (uPd B j x) = uPd (cD N B) (2 * j + 1) (x.map Value.bool) := by
  funext i
  by_cases e : i = 2 * j + 1
  · subst e; rw [uPd_same, cD_odd, uPd_same]
  · rw [uPd_other _ _ e]
    unfold cD
    by_cases h2 : i % 2 = 0
    · rw [if_pos h2, if_pos h2]
    · rw [if_neg h2, if_neg h2, uPd_other _ _ (by omega)]
end Go.Tk
namespace Go.Proofs.Ytgajpekolamjbaa
open Go.RowKit Go.Tk
def eP (i : Nat) : TypeId := if i % 2 = 0 then 61 else 5
def eD (i : Nat) : TypeId := if i % 2 = 0 then 61 else 4
theorem eP_even (j : Nat) : eP (2 * j) = 61 := by unfold eP; rw [if_pos (by omega)]
theorem eP_odd (j : Nat) : eP (2 * j + 1) = 5 := by unfold eP; rw [if_neg (by omega)]
theorem eD_even (j : Nat) : eD (2 * j) = 61 := by unfold eD; rw [if_pos (by omega)]
theorem eD_odd (j : Nat) : eD (2 * j + 1) = 4 := by unfold eD; rw [if_neg (by omega)]
/-- The program's rows; the document's. -/
abbrev RowsP (n0 : Nat) (w : World) (b : Nat) (vs : Nat → Value) (N : Nat → List Int) (B : Nat → List Bool) : Prop := R8 n0 84 eP w b vs (cP N B)
abbrev RowsD (n0 : Nat) (w : World) (b : Nat) (vs : Nat → Value) (N : Nat → List Int) (B : Nat → List Bool) : Prop := R8 n0 96 eD w b vs (cD N B)
section
variable {n0 : Nat} {w : World} {b : Nat} {vs : Nat → Value} {N : Nat → List Int} {B : Nat → List Bool}
theorem RowsP.num (h : RowsP n0 w b vs N B) {j : Nat} (hj : j < 4) : Ow .u64 61 n0 w (vs (2 * j)) (N j) := by
  have := h.own (2 * j) (by omega)
  rw [eP_even, cP_even, List.length_map] at this
  exact this
theorem RowsP.bit (h : RowsP n0 w b vs N B) {j : Nat} (hj : j < 4) : Ow .u8 5 n0 w (vs (2 * j + 1)) (nums (packB (B j))) := by
  have := h.own (2 * j + 1) (by omega)
  rw [eP_odd, cP_odd, List.length_map] at this
  exact this
theorem RowsP.appN (h : RowsP n0 w b vs N B) {j : Nat} (hj : j < 4) {w1 : World} {v' : Value} {x : List Int} (ho : Ow .u64 61 n0 w1 v' x) (hg : w.grownBy w1 (vs (2 * j)).ownBlock) (hs : OwnStep w (vs (2 * j)) v') :
    RowsP n0 (w1.setCell ⟨b, 2 * j, none⟩ v') b (uPd vs (2 * j) v') (uPd N j x) B := by
  have := h.app (i := 2 * j) (by omega) (v' := v') (cs := x.map (Value.int .u64)) (by rw [eP_even, List.length_map]; exact ho) hg hs
  rw [← cP_num] at this
  exact this
theorem RowsP.appB (h : RowsP n0 w b vs N B) {j : Nat} (hj : j < 4) {w1 : World} {v' : Value} {x : List Bool} (ho : Ow .u8 5 n0 w1 v' (nums (packB x))) (hg : w.grownBy w1 (vs (2 * j + 1)).ownBlock) (hs : OwnStep w (vs (2 * j + 1)) v') :
    RowsP n0 (w1.setCell ⟨b, 2 * j + 1, none⟩ v') b (uPd vs (2 * j + 1) v') N (uPd B j x) := by
  have := h.app (i := 2 * j + 1) (by omega) (v' := v') (cs := (nums (packB x)).map (Value.int .u8)) (by rw [eP_odd, List.length_map]; exact ho) hg hs
  rw [← cP_bit] at this
  exact this
end
set_option maxRecDepth 100000 in
set_option maxHeartbeats 1000000 in
theorem rput_calls (w : World) (n0 b : Nat) (vs : Nat → Value) (N : Nat → List Int) (B : Nat → List Bool) (h : RowsP n0 w b vs N B) (j : Nat) (hj : j < 4) (hl : (B j).length = (N j).length) (hm : (N j).length ≤ 2000000) (p : Nat) (hp : p = 2 * j) (x : Int) (h0 : 0 ≤ x) (h1 : x ≤ 4194304) :
    Calls Try.prog 73 #[.pointer (some ⟨b, p, none⟩), .int .i64 x] w fun e w' => e = .returned (.tuple #[]) ∧ (∃ vs', RowsP n0 w' b vs' (uPd N j (N j ++ [x])) (uPd B j (B j ++ [false])) ∧ OffK b w w' vs vs') ∧ Below n0 w w' := by
  have hn0 : n0 ≤ w.heap.size := by have := h.lt; have := h.new; omega
  have ho := h.num hj
  obtain ⟨na, nc, hv, hs, _⟩ := ho.sl
  have hb := h.bit hj
  obtain ⟨ba, bc, hv2, hs2, _⟩ := hb.sl
  have hbl : (nums (packB (B j))).length = ((N j).length + 7) / 8 := by rw [nums_len, pack_len, hl]
  rw [hbl] at hv2
  have c0 : w.cell? ⟨b, p, none⟩ = some (.slice na (N j).length nc) := by rw [hp, h.cell (by omega), hv]
  have c1 : w.cell? ⟨b, p + 1, none⟩ = some (.slice ba (((N j).length + 7) / 8) bc) := by rw [hp, h.cell (by omega), hv2]
  have hput := pack_put (B j)
  rw [hl] at hput
  rw [hv] at ho
  rw [hv2] at hb
  obtain ⟨m, hmm⟩ : ∃ m, m = (N j).length := ⟨_, rfl⟩
  rw [← hmm] at hm c0 c1 hput hbl ho hb hv hv2
  have HH := Lib.hid h
  have HO := Lib.hid ho
  have HB := Lib.hid hb
  have HV := Lib.hid hv
  have HV2 := Lib.hid hv2
  have HPUT := Lib.hid hput
  have HBL := Lib.hid hbl
  have HM := Lib.hid hmm
  have HP := Lib.hid hp
  have hxw : IntKind.u64.wrap x = x := by rw [IntKind.wrap_u64]; omega
  clear h ho hb hs hs2 hv hv2 hl hput hbl hmm hp
  -- the second half
  have fin : ∀ (w2 : World) (vs2 : Nat → Value) (B2 : Nat → List Bool), RowsP n0 w2 b vs2 N B2 → OffK b w w2 vs vs2 → vs2 (2 * j) = .slice na m nc → Below n0 w w2 → B2 = uPd B j (B j ++ [false]) →
      ∀ w3 v3, Ow .u64 61 n0 w3 v3 (N j ++ [x]) → (w2.alloc (.cells #[.int .u64 x] 61)).grownBy w3 (Value.slice na m nc).ownBlock → OwnStep (w2.alloc (.cells #[.int .u64 x] 61)) (.slice na m nc) v3 →
      (∃ u, w3.cell? ⟨b, p, none⟩ = some u) ∧ w3.frozen? ⟨b, p, none⟩ = false ∧ (∃ vs', RowsP n0 (w3.setCell ⟨b, p, none⟩ v3) b vs' (uPd N j (N j ++ [x])) (uPd B j (B j ++ [false])) ∧ OffK b w (w3.setCell ⟨b, p, none⟩ v3) vs vs') ∧ Below n0 w (w3.setCell ⟨b, p, none⟩ v3) := by
    intro w2 vs2 B2 h2 hof2 hv2 hb2 hB2 w3 v3 ow3 hg3 st3
    have ha := h2.alloc (.cells #[.int .u64 x] 61)
    rw [← hv2] at hg3 st3
    have hne : b ≠ b ∨ True := .inr trivial
    have hblk : w3.heap[b]? = (w2.alloc (.cells #[.int .u64 x] 61)).heap[b]? := hg3.block b ha.lt (fun e => ha.ne (2 * j) (by omega) e.symm)
    have hc : w3.cell? ⟨b, p, none⟩ = some (vs2 (2 * j)) := by rw [HP.out]; exact (World.cell?_of_block hblk).trans (ha.cell (by omega))
    have hf : w3.frozen? ⟨b, p, none⟩ = false := frozen_of_row w3 b p _ _ (hblk.trans ha.blk)
    have hz := hb2.size
    have hbn := HH.out.new
    refine ⟨⟨_, hc⟩, hf, ⟨uPd vs2 (2 * j) v3, ?_, ?_⟩, ?_⟩
    · have := RowsP.appN ha hj ow3 hg3 st3
      rw [HP.out, ← hB2]; exact this
    · rw [HP.out]; exact (hof2.trans (OffK.below ((Below.refl _ w2).alloc (Nat.le_refl _) _) vs2)).trans (OffK.app ha (by omega) hg3 st3)
    · exact ((hb2.alloc (by omega) _).grown hg3 (by simp; omega) (fun k hk => (ha.own_lt (i := 2 * j) (by omega) k hk).1)).setCell hbn _
  have FIN := Lib.hid fin
  clear fin
  by_cases h8 : m % 8 = 0
  · have e8 : ((m : Int) % 8 == 0) = true := by simp; omega
    have hnx : nums (packB (B j ++ [false])) = nums (packB (B j)) ++ [0] := by rw [HPUT.out, if_pos h8, nums_append]; rfl
    have hmid : ∀ w1 v1, Ow .u8 5 n0 w1 v1 (nums (packB (B j)) ++ [0]) → (w.alloc (.cells #[.int .u8 0] 5)).grownBy w1 (Value.slice ba ((m + 7) / 8) bc).ownBlock → OwnStep (w.alloc (.cells #[.int .u8 0] 5)) (.slice ba ((m + 7) / 8) bc) v1 →
        (∃ u, w1.cell? ⟨b, p + 1, none⟩ = some u) ∧ w1.frozen? ⟨b, p + 1, none⟩ = false ∧ (∃ vs2, RowsP n0 (w1.setCell ⟨b, p + 1, none⟩ v1) b vs2 N (uPd B j (B j ++ [false])) ∧ OffK b w (w1.setCell ⟨b, p + 1, none⟩ v1) vs vs2 ∧ vs2 (2 * j) = .slice na m nc) ∧ Below n0 w (w1.setCell ⟨b, p + 1, none⟩ v1) := by
      intro w1 v1 ow1 hg1 st1
      have ha := HH.out.alloc (.cells #[.int .u8 0] 5)
      rw [← HV2.out] at hg1 st1
      have hblk : w1.heap[b]? = (w.alloc (.cells #[.int .u8 0] 5)).heap[b]? := hg1.block b ha.lt (fun e => ha.ne (2 * j + 1) (by omega) e.symm)
      have hc : w1.cell? ⟨b, p + 1, none⟩ = some (vs (2 * j + 1)) := by rw [HP.out]; exact (World.cell?_of_block hblk).trans (ha.cell (by omega))
      have hf : w1.frozen? ⟨b, p + 1, none⟩ = false := frozen_of_row w1 b (p + 1) _ _ (hblk.trans ha.blk)
      refine ⟨⟨_, hc⟩, hf, ⟨uPd vs (2 * j + 1) v1, ?_, ?_, ?_⟩, ?_⟩
      · have := RowsP.appB ha hj (x := B j ++ [false]) (by rw [hnx]; exact ow1) hg1 st1
        rw [HP.out]; exact this
      · rw [HP.out]; exact (OffK.below ((Below.refl _ w).alloc (Nat.le_refl _) _) vs).trans (OffK.app ha (by omega) hg1 st1)
      · rw [uPd_other _ _ (by omega), HV.out]
      · exact (((Below.refl n0 w).alloc hn0 _).grown hg1 (by simp; omega) (fun k hk => (ha.own_lt (i := 2 * j + 1) (by omega) k hk).1)).setCell HH.out.new _
    have HMID := Lib.hid hmid
    clear h8 hnx hmid
    go_enter Try.func73, Try.ntmps73
    go_upto_region 2 with (at_builtin; (refine wpList_appJ rfl (.tmp 15) (.tmp 16) _ rfl .u8 n0 5 _ 1 Try.underlying25 Try.infoU8 rfl _ _ rfl (HB.out.alloc _) _ 1 1 _ rfl (SlI.one _ _ _ _) (by simp) (by have := HBL.out; omega) (by have := HBL.out; omega) (by simp; omega) ?_; intro v1 w1 ow1 hg1 st1; obtain ⟨⟨u1, hc1⟩, hf1, hr1, hb1⟩ := HMID.out w1 v1 ow1 hg1 st1; obtain ⟨a1, k1, hv1, _, _⟩ := ow1.sl; obtain ⟨l1, hl1⟩ : ∃ l1, l1 = (nums (packB (B j)) ++ [0]).length := ⟨_, rfl⟩; rw [← hl1] at hv1; subst hv1; clear hl1; (have HR1 := Lib.hid hr1); (have HB1 := Lib.hid hb1); clear ow1 hg1 st1 hr1 hb1))
    obtain ⟨vs2, hr2, hof2, hv2⟩ := HR1.out
    generalize hw2 : w1.setCell ⟨b, p + 1, none⟩ _ = w2
    rw [hw2] at hr2 hof2 HB1
    have hz2 := HB1.out.size
    have cc0 : w2.cell? ⟨b, p, none⟩ = some (.slice na m nc) := by rw [HP.out, hr2.cell (by omega), hv2]
    have ho2 := RowsP.num hr2 hj
    rw [hv2] at ho2
    have HO2 := Lib.hid ho2
    have FIN2 := Lib.hid (FIN.out w2 vs2 _ hr2 hof2 hv2 HB1.out rfl)
    clear hw2 hr2 hof2 hv2 HR1 c0 c1 hc1 hf1 ho2
    go_wp2_with (at_builtin; (refine wpList_appJ rfl (.tmp 24) (.tmp 27) _ rfl .u64 n0 61 _ 8 Try.underlying81 Try.infoU64 rfl _ _ rfl (HO2.out.alloc _) _ 1 1 _ rfl (SlI.one _ _ _ _) (by simp) (by have := HM.out; omega) (by have := HM.out; omega) (by simp; omega) ?_; intro v3 w3 ow3 hg3 st3; obtain ⟨⟨u3, hc3⟩, hf3, hr3, hb3⟩ := FIN2.out w3 v3 ow3 hg3 st3; obtain ⟨a3, k3, hv3, _, _⟩ := ow3.sl; obtain ⟨l3, hl3⟩ : ∃ l3, l3 = (N j ++ [x]).length := ⟨_, rfl⟩; rw [← hl3] at hv3; subst hv3; clear hl3; (have HR3 := Lib.hid hr3); (have HB3 := Lib.hid hb3); clear ow3 hg3 st3 hr3 hb3))
    go_end0
    exact ⟨rfl, HR3.out, HB3.out⟩
  · have e8 : ((m : Int) % 8 == 0) = false := by rw [beq_eq_false_iff_ne]; omega
    have hnx : packB (B j ++ [false]) = packB (B j) := by rw [HPUT.out, if_neg h8]
    have hr2 : RowsP n0 w b vs N (uPd B j (B j ++ [false])) := by
      have : cP N (uPd B j (B j ++ [false])) = cP N B := by
        rw [cP_bit, hnx]
        funext i
        by_cases e : i = 2 * j + 1
        · subst e; rw [uPd_same, cP_odd]
        · rw [uPd_other _ _ e]
      show R8 n0 _ _ w b vs (cP N (uPd B j (B j ++ [false])))
      rw [this]; exact HH.out
    have FIN2 := Lib.hid (FIN.out w vs _ hr2 (OffK.refl _ _ _) HV.out (Below.refl _ _) rfl)
    clear h8 hnx hr2
    go_enter Try.func73, Try.ntmps73
    go_wp2_with (at_builtin; (refine wpList_appJ rfl (.tmp 24) (.tmp 27) _ rfl .u64 n0 61 _ 8 Try.underlying81 Try.infoU64 rfl _ _ rfl (HO.out.alloc _) _ 1 1 _ rfl (SlI.one _ _ _ _) (by simp) (by have := HM.out; omega) (by have := HM.out; omega) (by simp; omega) ?_; intro v3 w3 ow3 hg3 st3; obtain ⟨⟨u3, hc3⟩, hf3, hr3, hb3⟩ := FIN2.out w3 v3 ow3 hg3 st3; obtain ⟨a3, k3, hv3, _, _⟩ := ow3.sl; obtain ⟨l3, hl3⟩ : ∃ l3, l3 = (N j ++ [x]).length := ⟨_, rfl⟩; rw [← hl3] at hv3; subst hv3; clear hl3; (have HR3 := Lib.hid hr3); (have HB3 := Lib.hid hb3); clear ow3 hg3 st3 hr3 hb3))
    go_end0
    exact ⟨rfl, HR3.out, HB3.out⟩
theorem uPd_self {α : Type} (f : Nat → α) (i : Nat) : uPd f i (f i) = f := by
  funext k
  by_cases e : k = i
  · subst e; rw [uPd_same]
  · rw [uPd_other _ _ e]
theorem clB_nil : clB [] = [] := rfl
theorem or_and18 : ∀ y : Fin 256, ∀ v : Fin 8, bits .or .u8 (y.val : Int) (2 ^ v.val) = ((y.val ||| 2 ^ v.val : Nat) : Int) := by decide +kernel
theorem nums_set18 (l : List UInt8) (i : Nat) (x : UInt8) : (nums l).set i (x.toNat : Int) = nums (l.set i x) := by simp [nums, List.map_set]
theorem pow7b {k : Nat} (h : k < 8) : 2 ^ k ≤ 128 := by
  have := Nat.pow_le_pow_right (show 0 < 2 by decide) (show k ≤ 7 by omega)
  simpa using this
set_option maxRecDepth 100000 in
set_option maxHeartbeats 1000000 in
theorem tclose_calls (w : World) (n0 b : Nat) (vs : Nat → Value) (N : Nat → List Int) (B : Nat → List Bool) (h : RowsP n0 w b vs N B) (j : Nat) (hj : j < 4) (hl : (B j).length = (N j).length) (hm : (N j).length ≤ 2000000) (p : Nat) (hp : p = 2 * j) :
    Calls Try.prog 72 #[.pointer (some ⟨b, p, none⟩)] w fun e w' => e = .returned (.tuple #[]) ∧ RowsP n0 w' b vs N (uPd B j (clB (B j))) ∧ OffK b w w' vs vs ∧ Below n0 w w' := by
  have ho := h.num hj
  obtain ⟨na, nc, hv, hs, _⟩ := ho.sl
  have c0 : w.cell? ⟨b, p, none⟩ = some (.slice na (N j).length nc) := by rw [hp, h.cell (by omega), hv]
  have c1 : w.cell? ⟨b, p + 1, none⟩ = some (vs (2 * j + 1)) := by rw [hp, h.cell (by omega)]
  obtain ⟨m, hmm⟩ : ∃ m, m = (N j).length := ⟨_, rfl⟩
  rw [← hmm] at hm c0 hl
  have HH := Lib.hid h
  have HP := Lib.hid hp
  have HL := Lib.hid hl
  clear ho hv hs hmm hp h
  by_cases h0 : m = 0
  · have hB : B j = [] := List.eq_nil_of_length_eq_zero (by rw [HL.out]; exact h0)
    have hc : uPd B j (clB (B j)) = B := by
      have : clB (B j) = B j := by rw [hB]; exact clB_nil
      rw [this, uPd_self]
    have HC := Lib.hid hc
    subst h0
    clear hB hc hl
    go_enter Try.func72, Try.ntmps72
    go_wp2
    go_end0
    exact ⟨rfl, by rw [HC.out]; exact HH.out, OffK.refl _ _ _, Below.refl _ _⟩
  · obtain ⟨i, hi⟩ : ∃ i : Nat, m = i + 1 := ⟨m - 1, by omega⟩
    subst hi
    have hpl : (packB (B j)).length = (i + 8) / 8 := by rw [pack_len, HL.out]
    have hcl : (cP N B (2 * j + 1)).length = (i + 8) / 8 := by rw [cP_odd, List.length_map, nums_len, hpl]
    obtain ⟨g, gc, hv, hle, hmx, hcell, hfz, hset, hng⟩ := HH.out.at (i := 2 * j + 1) (by omega) (k := i / 8) (by rw [hcl]; omega)
    rw [hcl] at hv hle
    rw [hv] at c1
    have hcl2 := pack_cl (l := B j) (by rw [HL.out]; omega)
    rw [HL.out, Nat.add_sub_cancel] at hcl2
    obtain ⟨y, hy⟩ : ∃ y, y = ((packB (B j)).getD (i / 8) 0).toNat := ⟨_, rfl⟩
    rw [← hy] at hcl2
    have hy2 : y < 256 := by rw [hy]; exact UInt8.toNat_lt _
    have hcy : w.cell? ⟨g, i / 8, none⟩ = some (.int .u8 (y : Nat)) := by
      rw [hcell, cP_odd, hy]
      have hlt : i / 8 < (packB (B j)).length := by rw [hpl]; omega
      simp [nums, hlt]
    have hor := or_and18 ⟨y, hy2⟩ ⟨i % 8, by omega⟩
    have hob := or_byte y (i % 8) hy2 (by omega)
    simp only at hor
    obtain ⟨z, hz⟩ : ∃ z, z = UInt8.ofNat (y ||| 2 ^ (i % 8)) := ⟨_, rfl⟩
    rw [← hz] at hob hcl2
    rw [← hob] at hor
    have hzb : z.toNat < 256 := UInt8.toNat_lt z
    have hfin : ∀ k, RowsP n0 ((w.drewN k).setCell ⟨g, i / 8, none⟩ (.int .u8 (z.toNat : Nat))) b vs N (uPd B j (clB (B j))) := fun k => by
      have h1 := (HH.out.drewN k).at (i := 2 * j + 1) (by omega) (k := i / 8) (by rw [hcl]; omega)
      obtain ⟨g', gc', hv', _, _, _, _, hset', _⟩ := h1
      rw [hv] at hv'
      have hgg : g' = g := by injection hv' with e; injection e with e; injection e with e; exact e.symm
      subst hgg
      have := hset' (.int .u8 (z.toNat : Nat))
      have e : (cP N B (2 * j + 1)).set (i / 8) (.int .u8 (z.toNat : Nat)) = (nums (packB (clB (B j)))).map (Value.int .u8) := by
        rw [cP_odd, hcl2, ← nums_set18, List.map_set]
      rw [e, ← cP_bit] at this
      exact this
    obtain ⟨q, hq⟩ : ∃ q, q = z.toNat := ⟨_, rfl⟩
    rw [← hq] at hor hzb hfin
    obtain ⟨l8, hl8⟩ : ∃ l8, l8 = (i + 8) / 8 := ⟨_, rfl⟩
    rw [← hl8] at hle c1
    have h8 : i / 8 < l8 := by omega
    have HFIN := Lib.hid hfin
    have HNG := Lib.hid hng
    have hoff : ∀ k x, OffK b w ((w.drewN k).setCell ⟨g, i / 8, none⟩ x) vs vs := fun k x => (OffK.below (below_drewN (Below.refl _ w) k) vs).trans (OffK.at (i := 2 * j + 1) (by omega) hv x)
    have HOFF := Lib.hid hoff
    clear hoff
    clear hcell hset hcl hcl2 hpl hob hz hy hq hfin hv hng hl8 h0 hl
    have hi7 : IntKind.i64.wrap (i : Int) = (i : Int) := by rw [IntKind.wrap_i64]; omega
    have hi6 : ((i + 1 : Nat) : Int) - 1 = (i : Int) := by omega
    have hi0 : decide ((0 : Int) ≤ (i : Int)) = true := decide_eq_true (by omega)
    have htm : ((i : Int) % 8).toNat = i % 8 := by omega
    have hp7 : 2 ^ (i % 8) ≤ 128 := pow7b (by omega)
    have hpz : ((2 : Int) ^ (i % 8)) = ((2 ^ (i % 8) : Nat) : Int) := by rw [Int.natCast_pow]; rfl
    have hp0 : 1 ≤ 2 ^ (i % 8) := Nat.one_le_two_pow
    have hw5 : IntKind.u8.wrap ((2 : Int) ^ (i % 8)) = (2 : Int) ^ (i % 8) := by rw [hpz, IntKind.wrap_u8]; omega
    clear hpz hp7 hp0
    go_enter Try.func72, Try.ntmps72
    go_upto_region 2 with fail
    refine wp_region_quiet_tail (fun w' => ∃ n, w' = World.drewN _ n) 13 (by kernel_rfl) (by kernel_rfl) ⟨1, rfl⟩ ?_
    simp only [List.take_succ_cons, List.take_zero, List.drop_succ_cons, List.drop_zero]
    repeat (go_big_quiet_step (fail))
    refine wpQuiet_nil ?_
    rintro _ ⟨n1, rfl⟩
    go_wp2_with fail
    go_end0
    exact ⟨rfl, HFIN.out _, HOFF.out _ _, (below_drewN (Below.refl _ _) _).setCell (p := ⟨g, i / 8, none⟩) HNG.out _⟩
end Go.Proofs.Ytgajpekolamjbaa
/- rows: the levels of quads that rise. -/
namespace Go.Tk
open Go Go.RowKit
/-- Levels of which some are closed; in which some have a number more. -/
def clF (L : List Qd) (i k j : Nat) (m : Nat) : List Bool := if k < m ∧ m < j then clB (levB L m i) else levB L m i
def puN (L : List Qd) (i k j : Nat) (m : Nat) : List Int := if k ≤ m ∧ m < j then levN L m i ++ [(L.getD i default).at m] else levN L m i
def puB (L : List Qd) (i k j : Nat) (m : Nat) : List Bool := if k ≤ m ∧ m < j then clF L i k 4 m ++ [false] else clF L i k 4 m
theorem clF_at (L : List Qd) (i k j : Nat) : clF L i k j j = levB L j i := by unfold clF; rw [if_neg (by omega)]
theorem clF_step (L : List Qd) (i k j : Nat) (h : k < j) : uPd (clF L i k j) j (clB (levB L j i)) = clF L i k (j + 1) := by
  funext m
  by_cases e : m = j
  · subst e; rw [uPd_same]; unfold clF; rw [if_pos (by omega)]
  · rw [uPd_other _ _ e]
    unfold clF
    by_cases h2 : k < m ∧ m < j
    · rw [if_pos h2, if_pos (by omega)]
    · rw [if_neg h2, if_neg (by omega)]
theorem clF_zero (L : List Qd) (i k : Nat) : clF L i k (k + 1) = fun m => levB L m i := by funext m; unfold clF; rw [if_neg (by omega)]
theorem clF_len (L : List Qd) (i k j m : Nat) : (clF L i k j m).length = (levN L m i).length := by
  unfold clF; split
  · rw [clB_len, levB_len]
  · rw [levB_len]
theorem puN_at (L : List Qd) (i k j : Nat) : puN L i k j j = levN L j i := by unfold puN; rw [if_neg (by omega)]
theorem puB_at (L : List Qd) (i k j : Nat) : puB L i k j j = clF L i k 4 j := by unfold puB; rw [if_neg (by omega)]
theorem puN_step (L : List Qd) (i k j : Nat) (h : k ≤ j) : uPd (puN L i k j) j (levN L j i ++ [(L.getD i default).at j]) = puN L i k (j + 1) := by
  funext m
  by_cases e : m = j
  · subst e; rw [uPd_same]; unfold puN; rw [if_pos (by omega)]
  · rw [uPd_other _ _ e]
    unfold puN
    by_cases h2 : k ≤ m ∧ m < j
    · rw [if_pos h2, if_pos (by omega)]
    · rw [if_neg h2, if_neg (by omega)]
theorem puB_step (L : List Qd) (i k j : Nat) (h : k ≤ j) : uPd (puB L i k j) j (clF L i k 4 j ++ [false]) = puB L i k (j + 1) := by
  funext m
  by_cases e : m = j
  · subst e; rw [uPd_same]; unfold puB; rw [if_pos (by omega)]
  · rw [uPd_other _ _ e]
    unfold puB
    by_cases h2 : k ≤ m ∧ m < j
    · rw [if_pos h2, if_pos (by omega)]
    · rw [if_neg h2, if_neg (by omega)]
theorem puN_zero (L : List Qd) (i k : Nat) : puN L i k k = fun m => levN L m i := by funext m; unfold puN; rw [if_neg (by omega)]
theorem puB_zero (L : List Qd) (i k : Nat) : puB L i k k = clF L i k 4 := by funext m; unfold puB; rw [if_neg (by omega)]
theorem puN_end (L : List Qd) (i m : Nat) (h : m < 4) : levN L m (i + 1) = puN L i (fK L i) 4 m := by
  simp only [levN]; unfold puN
  by_cases h2 : fK L i ≤ m
  · rw [if_pos h2, if_pos (by omega)]
  · rw [if_neg h2, if_neg (by omega)]
theorem puB_end (L : List Qd) (i m : Nat) (h : m < 4) : levB L m (i + 1) = puB L i (fK L i) 4 m := by
  simp only [levB]; unfold puB clF
  by_cases h1 : fK L i < m
  · rw [if_pos h1, if_pos (by omega), if_pos (by omega)]
  · by_cases h2 : fK L i = m
    · rw [if_neg h1, if_pos h2, if_pos (by omega), if_neg (by omega)]
    · rw [if_neg h1, if_neg h2, if_neg (by omega), if_neg (by omega)]
/-- Which entries of the levels are the last ones, at the end. -/
def endB (L : List Qd) (j : Nat) : List Bool := if j = 0 then levB L 0 L.length else lastB L j
theorem endB_is (L : List Qd) (m : Nat) (h : m < 4) : endB L m = clF L L.length 0 4 m := by
  unfold endB lastB clF
  by_cases h0 : m = 0
  · subst h0; rw [if_pos rfl, if_neg (by omega)]
  · rw [if_neg h0, if_pos (by omega)]
theorem R8.mono {n0 n1 : Nat} {T : TypeId} {E : Nat → TypeId} {w : World} {b : Nat} {vs : Nat → Value} {C : Nat → List Value} (h : R8 n0 T E w b vs C) (hn : n1 ≤ n0) : R8 n1 T E w b vs C :=
  ⟨h.blk, Nat.le_trans hn h.new, fun i hi => ownsRow_mono (h.own i hi) hn, h.ap, h.ne⟩
theorem Kept.setRow (w : World) (g : Nat) (cs : Array Value) : Kept (fun k => k = g) w (w.setRow g cs) := ⟨rfl, rfl, rfl, by simp, fun k _ h => setRow_other w g k cs h⟩
theorem drewN2b (X : World) (a b : Nat) : (X.drewN a).drewN b = X.drewN (a + b) := by simp [World.drewN, Nat.add_assoc]
theorem owns_slice {w : World} {base : Nat} {e : TypeId} {v : Value} {n : Nat} {xs : List Value} (h : w.ownsRow base e 1 v n xs) : v.oneCell' = true := by
  rcases h.2 with ⟨rfl, _⟩ | ⟨g, cap, cur, rfl, _⟩ <;> rfl
theorem R8.ones {n0 : Nat} {T : TypeId} {E : Nat → TypeId} {w : World} {b : Nat} {vs : Nat → Value} {C : Nat → List Value} (h : R8 n0 T E w b vs C) : (#[vs 0, vs 1, vs 2, vs 3, vs 4, vs 5, vs 6, vs 7] : Array Value).all (·.oneCell') = true := by
  have := fun i (hi : i < 8) => owns_slice (h.own i hi)
  simp [this 0 (by omega), this 1 (by omega), this 2 (by omega), this 3 (by omega), this 4 (by omega), this 5 (by omega), this 6 (by omega), this 7 (by omega)]
/-- Eight slices, none of them there. -/
def nil8 : Array Value := #[.slice none 0 0, .slice none 0 0, .slice none 0 0, .slice none 0 0, .slice none 0 0, .slice none 0 0, .slice none 0 0, .slice none 0 0]
theorem R8.start {n0 : Nat} {T : TypeId} {E : Nat → TypeId} {w : World} {b : Nat} (h : w.heap[b]? = some (.cells nil8 T (0, 0))) (hb : n0 ≤ b) {C : Nat → List Value} (hc : ∀ i, i < 8 → C i = []) : R8 n0 T E w b (fun _ => .slice none 0 0) C :=
  ⟨h, hb, fun i hi => by rw [hc i hi]; exact World.ownsRow_nil w n0 (E i) 1, fun i j _ _ _ => Apart.nil 0 0 _, fun i _ e => by simp [Value.ownBlock] at e⟩
end Go.Tk
namespace Go.Proofs.Ytgajpekolamjbaa
open Go.RowKit Go.Tk
theorem Try.size8 : (Try.prog.info? 84).map (·.size) = some 8 := by kernel_rfl
theorem RowsP.to {n0 : Nat} {w : World} {b : Nat} {vs : Nat → Value} {N N' : Nat → List Int} {B B' : Nat → List Bool} (h : RowsP n0 w b vs N B) (h1 : ∀ m, m < 4 → N' m = N m) (h2 : ∀ m, m < 4 → B' m = B m) : RowsP n0 w b vs N' B' :=
  R8.congr h fun i hi => by unfold cP; rw [h1 _ (by omega), h2 _ (by omega)]
set_option maxRecDepth 100000 in
set_option maxHeartbeats 2000000 in
theorem trows_calls (w : World) (a : Option Addr) (n c : Nat) (L : List Qd) (h : SlQ w a n c L) (hR : Right L) :
    Calls Try.prog 36 #[.slice a n c] w fun e w' => ∃ vs : Nat → Value, e = .returned (.agg #[vs 0, vs 1, vs 2, vs 3, vs 4, vs 5, vs 6, vs 7]) ∧ (∃ b, RowsP w.heap.size w' b vs (fun j => levN L j n) (endB L)) ∧ Below w.heap.size w w' := by
  have hle := h.le
  have hmx := h.max
  have hn20 : n ≤ 1048576 := by rw [← h.len]; exact hR.len
  have HS := Lib.hid h
  have HL := Lib.hid h.len
  have HR := Lib.hid hR
  have SZ := Lib.hid Try.sizeIds
  have S8 := Lib.hid Try.size8
  have lev := fun j i (hi : i ≤ n) => levN_len L j i
  have LEV := Lib.hid lev
  clear h hR lev
  go_enter Try.func36, Try.ntmps36
  go_upto_region 2 with fail
  obtain ⟨w2, hw2⟩ : ∃ w2, w2 = (w.alloc (.cells nil8 84)).alloc (.cells nil8 84) := ⟨_, rfl⟩
  have hz2 : w2.heap.size = w.heap.size + 2 := by rw [hw2]; simp
  have hb2 : Below w.heap.size w w2 := by rw [hw2]; exact ((Below.refl _ w).alloc (Nat.le_refl _) _).alloc (by simp) _
  have hres : w2.heap[w.heap.size]? = some (.cells nil8 84 (0, 0)) := by rw [hw2]; show ((w.heap.push _).push _)[w.heap.size]? = _; rw [Array.getElem?_push, if_neg (by simp), Array.getElem?_push, if_pos rfl]
  have hst : RowsP (w.heap.size + 1) w2 (w.heap.size + 1) (fun _ => .slice none 0 0) (fun j => levN L j 0) (fun j => levB L j 0) := by
    refine R8.start ?_ (Nat.le_refl _) (fun i _ => ?_)
    · rw [hw2]; show ((w.heap.push _).push _)[w.heap.size + 1]? = _; rw [Array.getElem?_push, if_pos (by simp)]
    · unfold cP; simp only [levN, levB]; split <;> rfl
  change Code.wp _ _ _ _ ((w.alloc (.cells nil8 84)).alloc (.cells nil8 84))
  rw [← hw2]
  have HB2 := Lib.hid hb2
  have HRES := Lib.hid hres
  have HST := Lib.hid hst
  clear hw2 hb2 hres hst
  go_wp2_with fail
  go_loopw [12] (fun iv wr => ∃ (i : Nat) (vs : Nat → Value), iv = .int .i64 (i : Nat) ∧ i ≤ n ∧ RowsP (w.heap.size + 1) wr (w.heap.size + 1) vs (fun j => levN L j i) (fun j => levB L j i) ∧ Below (w.heap.size + 1) w2 wr) (fun iv _ => n - (intOf iv).toNat)
  case atStart => exact ⟨0, _, rfl, Nat.zero_le _, HST.out, Below.refl _ _⟩
  case round =>
    obtain ⟨i, vs, rfl, hi, hrow, hbw⟩ := hrel
    have hzw := hbw.size
    have HROW := Lib.hid hrow
    have HB := Lib.hid hbw
    clear hrow hbw
    by_cases hlt : i < n
    · obtain ⟨b, o, rfl, hr⟩ := (HS.out.keep (HB2.out.trans (HB.out.mono (by omega : w.heap.size ≤ w.heap.size + 1)))).cell i hlt
      obtain ⟨q, hq⟩ : ∃ q, q = L.getD i default := ⟨_, rfl⟩
      rw [← hq] at hr
      have HQ := Lib.hid hq
      have HRQ := Lib.hid hr
      obtain ⟨kN, hkN⟩ : ∃ kN, kN = fK L i := ⟨_, rfl⟩
      have hk4 : kN < 4 := by rw [hkN]; exact HR.out.fK_lt (by rw [HL.out]; exact hlt)
      have HK := Lib.hid hkN
      have hokq := okQ_at (HR.out.ok i (by rw [HL.out]; exact hlt))
      rw [← hq] at hokq
      have HOK := Lib.hid hokq
      clear hq hr hkN hokq
      go_upto_region 5 with (first
        | (refine wpList_load_mid rfl 24 (.tmp 15) rfl b (o + i * 4) rfl (qcs q) _ HRQ.out Try.underlying24 rfl SZ.out ?_)
        | (refine wpList_store_new rfl 24 (.tmp 5) (.tmp 16) rfl #[.int .i64 0, .int .i64 0, .int .i64 0, .int .i64 0] (qcs q).toArray rfl rfl SZ.out rfl (qcs_one q) ?_)
        | fail)
      obtain ⟨w3, hw3⟩ : ∃ w3, w3 = wr.alloc (.cells (qcs q).toArray 24) := ⟨_, rfl⟩
      have hrow3 := HROW.out.alloc (.cells (qcs q).toArray 24)
      have hb3 := HB.out.alloc (by omega) (.cells (qcs q).toArray 24)
      have hz3 : w3.heap.size = wr.heap.size + 1 := by rw [hw3]; simp
      have hq3 : w3.rangeAt wr.heap.size 0 (qcs q) := by
        rw [hw3]
        intro j v hv
        rw [World.cell?_alloc_at _ _ _ _ rfl]
        simpa using hv
      rw [← hw3] at hrow3 hb3
      rw [← hw3]
      obtain ⟨gq, hgq⟩ : ∃ gq, gq = wr.heap.size := ⟨_, rfl⟩
      have hgo : gq ≠ w.heap.size + 1 ∧ ∀ i, i < 8 → (vs i).ownBlock ≠ some gq := by
        refine ⟨by have := HROW.out.lt; omega, fun i hi e => ?_⟩
        have := (HROW.out.own_lt hi gq e).2
        omega
      have HGO := Lib.hid hgo
      clear hgo
      rw [← hgq] at hq3 hz3 ⊢
      have HROW3 := Lib.hid hrow3
      have HB3 := Lib.hid hb3
      have HQ3 := Lib.hid hq3
      clear hw3 hrow3 hb3 hq3 hgq HROW HB HRQ
      go_upto_if 18 with fail
      go_cut [6] from 18 to 31 (fun s6 wx => s6 = .int .i64 (kN : Nat) ∧ ∃ m, wx = w3.drewN m)
      case first =>
        by_cases h0 : i = 0
        · have e0 : decide (0 < i) = false := decide_eq_false (by omega)
          have hk0 : kN = 0 := by rw [HK.out]; unfold fK; rw [if_pos h0]
          subst hk0
          clear h0
          rw [e0]
          go_wp2_with fail
          go_meet
          exact ⟨rfl, 0, rfl⟩
        · have e0 : decide (0 < i) = true := decide_eq_true (by omega)
          obtain ⟨b', o', he', hr0⟩ := ((HS.out.keep (HB2.out.trans (HB3.out.mono (by omega : w.heap.size ≤ w.heap.size + 1)))).cell (i - 1) (by omega))
          have hea : (⟨b, o, none⟩ : Addr) = ⟨b', o', none⟩ := Option.some.inj he'
          injection hea with e1 e2
          subst e1 e2
          obtain ⟨p, hp⟩ : ∃ p, p = L.getD (i - 1) default := ⟨_, rfl⟩
          rw [← hp] at hr0
          have hkk : kN = fk p q := by rw [HK.out]; unfold fK; rw [if_neg h0, ← hp, ← HQ.out]
          obtain ⟨i1, hi1⟩ : ∃ i1 : Nat, i1 = i - 1 := ⟨_, rfl⟩
          rw [← hi1] at hr0
          have hi5 : (i : Int) - 1 = (i1 : Int) := by omega
          have hi6 : i1 < n := by omega
          have hi7 : IntKind.i64.wrap (i1 : Int) = (i1 : Int) := by rw [IntKind.wrap_i64]; omega
          have HKK := Lib.hid hkk
          have HR0 := Lib.hid hr0
          clear hp hkk hr0 hi1 h0 he'
          rw [e0]
          go_wp2_with fail
          go_loopw [6] (fun kv wx => ∃ (k m : Nat), kv = .int .i64 (k : Nat) ∧ k ≤ kN ∧ wx = w3.drewN m) (fun kv _ => 5 - (intOf kv).toNat)
          case atStart => exact ⟨0, 0, rfl, Nat.zero_le _, rfl⟩
          case round =>
            obtain ⟨k, m, rfl, hk, rfl⟩ := hrel
            have hk5 : k < 4 := by omega
            have q1 := qcs_at HQ3.out k hk5
            rw [Nat.zero_add] at q1
            have p1 := qcs_at HR0.out k hk5
            by_cases hkl : k < kN
            · have heq : p.at k = q.at k := fk_eq (by rw [← HKK.out]; exact hkl)
              rw [heq] at p1
              obtain ⟨x, hx⟩ : ∃ x, x = q.at k := ⟨_, rfl⟩
              rw [← hx] at p1 q1
              clear hx heq
              go_wp2_with fail
              go_quiet (fail)
              go_wp2_with fail
              refine ⟨⟨k + 1, _, by go_num, by omega, rfl⟩, by simp [intOf]; omega⟩
            · obtain rfl : k = kN := by omega
              have hne : p.at k ≠ q.at k := by have := fk_ne (p := p) (q := q) (by rw [← HKK.out]; exact hk5); rw [← HKK.out] at this; exact this
              have e1 : (q.at k == p.at k) = false := by simp; exact fun e => hne e.symm
              obtain ⟨x, hx⟩ : ∃ x, x = q.at k := ⟨_, rfl⟩
              obtain ⟨y, hy⟩ : ∃ y, y = p.at k := ⟨_, rfl⟩
              rw [← hx] at q1 e1
              rw [← hy] at p1 e1
              clear hx hy hne
              go_wp2_with fail
              go_quiet (fail)
              go_wp2_with fail
              go_meet
              exact ⟨rfl, _, drewN2b _ _ _⟩
      case rest =>
        obtain ⟨rfl, m6, rfl⟩ := hcut
        have hrow4 := HROW3.out.drewN m6
        have hb4 : Below (w.heap.size + 1) w2 (w3.drewN m6) := below_drewN HB3.out m6
        have hq4 : (w3.drewN m6).rangeAt gq 0 (qcs q) := fun j v hv => HQ3.out j v hv
        generalize w3.drewN m6 = w4 at hrow4 hb4 hq4 ⊢
        have hz4 := hb4.size
        have hrow5 : RowsP (w.heap.size + 1) w4 (w.heap.size + 1) vs (fun j => levN L j i) (clF L i kN (kN + 1)) := by rw [clF_zero]; exact hrow4
        have HROW5 := Lib.hid hrow5
        have HB4 := Lib.hid hb4
        have HQ4 := Lib.hid hq4
        have hgq4 : gq < w4.heap.size := block_lt_of_cell (hq4 0 _ rfl)
        clear hrow4 hb4 hq4 hrow5 HROW3 HB3 HQ3
        go_wp2_with fail
        go_loopw [7] (fun jv wx => ∃ (j : Nat), jv = .int .i64 (j : Nat) ∧ kN + 1 ≤ j ∧ j ≤ 4 ∧ RowsP (w.heap.size + 1) wx (w.heap.size + 1) vs (fun j => levN L j i) (clF L i kN j) ∧ OffK (w.heap.size + 1) w4 wx vs vs ∧ Below (w.heap.size + 1) w4 wx) (fun jv _ => 4 - (intOf jv).toNat)
        case atStart => exact ⟨kN + 1, by go_num, Nat.le_refl _, by omega, HROW5.out, OffK.refl _ _ _, Below.refl _ _⟩
        case round =>
          rename World => wx
          obtain ⟨j, rfl, hj1, hj4, hrx, hkx, hbx⟩ := hrel
          have HRX := Lib.hid hrx
          have HKX := Lib.hid hkx
          have HBX := Lib.hid hbx
          clear hrx hkx hbx
          by_cases hlj : j < 4
          · have hlb : (clF L i kN j j).length = (levN L j i).length := clF_len L i kN j j
            have hln : (levN L j i).length ≤ 2000000 := by have := LEV.out j i hi; omega
            have hcc := fun p hp => tclose_calls _ _ _ _ _ _ HRX.out j hlj hlb hln p hp
            rw [clF_at, clF_step L i kN j (by omega)] at hcc
            have HCC := Lib.hid hcc
            clear hlb hln hcc
            go_wp2_with (go_at_call 72; refine (HCC.out _ (by omega)).mono ?_; rintro e wy ⟨rfl, hry, hoy, hby⟩; (have HRY := Lib.hid hry); (have HOY := Lib.hid hoy); (have HBY := Lib.hid hby); clear hry hoy hby)
            exact ⟨⟨j + 1, by go_num, by omega, by omega, HRY.out, HKX.out.trans HOY.out, HBX.out.trans HBY.out⟩, by simp [intOf]; omega⟩
          · have hrx4 := HRX.out
            have hj44 : j = 4 := by omega
            rw [hj44] at hrx4
            clear hj44
            have hq5 := HKX.out.range HQ4.out hgq4 HGO.out.1 HGO.out.2
            have hgo5 := HKX.out.2 gq hgq4 HGO.out.1 HGO.out.2
            have hz5 := HKX.out.1
            have hb5 := HB4.out.trans HBX.out
            have hrow5 : RowsP (w.heap.size + 1) wx (w.heap.size + 1) vs (puN L i kN kN) (puB L i kN kN) := by rw [puN_zero, puB_zero]; exact hrx4
            have HQ5 := Lib.hid hq5
            have HGO5 := Lib.hid hgo5.2
            have HB5 := Lib.hid hb5
            have HROW6 := Lib.hid hrow5
            have hgq5 : gq < wx.heap.size := by omega
            clear hq5 hgo5 hb5 hrow5 hrx4 HRX HKX HBX HQ4 HROW5 HB4
            generalize wx = w5 at *
            go_wp2_with fail
            go_loopw [8] (fun jv wx => ∃ (j : Nat) (vx : Nat → Value), jv = .int .i64 (j : Nat) ∧ kN ≤ j ∧ j ≤ 4 ∧ RowsP (w.heap.size + 1) wx (w.heap.size + 1) vx (puN L i kN j) (puB L i kN j) ∧ OffK (w.heap.size + 1) w5 wx vs vx ∧ Below (w.heap.size + 1) w5 wx) (fun jv _ => 4 - (intOf jv).toNat)
            case atStart => exact ⟨kN, vs, by go_num, Nat.le_refl _, by omega, HROW6.out, OffK.refl _ _ _, Below.refl _ _⟩
            case round =>
              rename World => wx
              obtain ⟨j, vx, rfl, hj1, hj4, hrx, hkx, hbx⟩ := hrel
              have HRX := Lib.hid hrx
              have HKX := Lib.hid hkx
              have HBX := Lib.hid hbx
              clear hrx hkx hbx
              by_cases hlj : j < 4
              · have qj := qcs_at (HKX.out.range HQ5.out hgq5 HGO.out.1 HGO5.out) j hlj
                rw [Nat.zero_add] at qj
                have hlb : (puB L i kN j j).length = (puN L i kN j j).length := by rw [puB_at, puN_at, clF_len]
                have hln : (puN L i kN j j).length ≤ 2000000 := by rw [puN_at]; have := LEV.out j i hi; omega
                obtain ⟨x, hx⟩ : ∃ x, x = q.at j := ⟨_, rfl⟩
                have hx0 := (HOK.out j).1
                have hx1 := (HOK.out j).2
                rw [← hx] at qj hx0 hx1
                have hcc := fun m p hp => rput_calls _ _ _ _ _ _ (HRX.out.drewN m) j hlj hlb hln p hp x hx0 hx1
                rw [puN_at, puB_at, hx, HQ.out, puN_step L i kN j hj1, puB_step L i kN j hj1, ← HQ.out, ← hx] at hcc
                have HCC := Lib.hid hcc
                clear hlb hln hcc hx
                go_upto_region 16 with fail
                refine wp_region_quiet_tail (fun w' => ∃ n, w' = World.drewN wx n) 5 (by kernel_rfl) (by kernel_rfl) ⟨1, rfl⟩ ?_
                simp only [List.take_succ_cons, List.take_zero, List.drop_succ_cons, List.drop_zero]
                repeat (go_big_quiet_step (fail))
                refine wpQuiet_nil ?_
                rintro _ ⟨n1, rfl⟩
                go_wp2_with (go_at_call 73; refine (HCC.out _ _ (by omega)).mono ?_; rintro e wy ⟨rfl, ⟨vy, hry, hoy⟩, hby⟩; (have HRY := Lib.hid hry); (have HOY := Lib.hid hoy); (have HBY := Lib.hid hby); clear hry hoy hby)
                go_roundw
                case rel => exact ⟨j + 1, vy, by go_num, by omega, by omega, HRY.out, HKX.out.trans ((OffK.below (below_drewN (Below.refl _ wx) n1) vx).trans HOY.out), (below_drewN HBX.out n1).trans HBY.out⟩
                case measure => simp [intOf]; omega
              · obtain rfl : j = 4 := by omega
                have hrow7 : RowsP (w.heap.size + 1) wx (w.heap.size + 1) vx (fun j => levN L j (i + 1)) (fun j => levB L j (i + 1)) := RowsP.to HRX.out (fun m hm => by rw [HK.out]; exact puN_end L i m hm) (fun m hm => by rw [HK.out]; exact puB_end L i m hm)
                have hb7 := HB5.out.trans HBX.out
                have HROW7 := Lib.hid hrow7
                have HB7 := Lib.hid hb7
                clear hrow7 hb7
                go_wp2_with fail
                exact ⟨⟨i + 1, vx, by go_num, by omega, HROW7.out, HB7.out⟩, by simp [intOf]; omega⟩
    · obtain rfl : i = n := by omega
      have hin : L.length = i := HL.out
      have hrow2 : RowsP (w.heap.size + 1) wr (w.heap.size + 1) vs (fun j => levN L j i) (clF L i 0 1) := by rw [clF_zero]; exact HROW.out
      have HROW2 := Lib.hid hrow2
      clear hrow2
      rename World => w5
      go_wp2_with fail
      go_loopw [9] (fun jv wx => ∃ (j : Nat), jv = .int .i64 (j : Nat) ∧ 1 ≤ j ∧ j ≤ 4 ∧ RowsP (w.heap.size + 1) wx (w.heap.size + 1) vs (fun j => levN L j i) (clF L i 0 j) ∧ Below (w.heap.size + 1) w5 wx) (fun jv _ => 4 - (intOf jv).toNat)
      case atStart => exact ⟨1, rfl, Nat.le_refl _, by omega, HROW2.out, Below.refl _ _⟩
      case round =>
        rename World => wx
        obtain ⟨j, rfl, hj1, hj4, hrx, hbx⟩ := hrel
        have HRX := Lib.hid hrx
        have HBX := Lib.hid hbx
        clear hrx hbx
        by_cases hlj : j < 4
        · have hlb : (clF L i 0 j j).length = (levN L j i).length := clF_len L i 0 j j
          have hln : (levN L j i).length ≤ 2000000 := by have := LEV.out j i hi; omega
          have hcc := fun p hp => tclose_calls _ _ _ _ _ _ HRX.out j hlj hlb hln p hp
          rw [clF_at, clF_step L i 0 j (by omega)] at hcc
          have HCC := Lib.hid hcc
          clear hlb hln hcc
          go_wp2_with (go_at_call 72; refine (HCC.out _ (by omega)).mono ?_; rintro e wy ⟨rfl, hry, hoy, hby⟩; (have HRY := Lib.hid hry); (have HBY := Lib.hid hby); clear hry hoy hby)
          exact ⟨⟨j + 1, by go_num, by omega, by omega, HRY.out, HBX.out.trans HBY.out⟩, by simp [intOf]; omega⟩
        · obtain rfl : j = 4 := by omega
          have hrow3 : RowsP (w.heap.size + 1) wx (w.heap.size + 1) vs (fun j => levN L j i) (endB L) := RowsP.to HRX.out (fun m hm => rfl) (fun m hm => by rw [endB_is L m hm, hin])
          have hblk := hrow3.blk
          have hones := hrow3.ones
          have hb8 := HB.out.trans HBX.out
          have hres8 : wx.heap[w.heap.size]? = some (.cells nil8 84 (0, 0)) := (hb8.block _ (by omega)).trans HRES.out
          have HROW3 := Lib.hid hrow3
          have HBLK := Lib.hid hblk
          have HONES := Lib.hid hones
          have HB8 := Lib.hid hb8
          have HRES8 := Lib.hid hres8
          clear hrow3 hblk hones hb8 hres8 HRX HBX HROW2 HROW HB
          go_wp2_with (first
            | (refine wpList_load_row rfl 84 (.tmp 3) rfl (w.heap.size + 1) rfl _ _ _ _ HBLK.out Try.underlying84 rfl S8.out ?_)
            | (refine wpList_store_row rfl 84 (.tmp 2) (.tmp 60) rfl w.heap.size _ rfl rfl _ _ HRES8.out S8.out rfl HONES.out ?_)
            | fail)
          refine bodyPost_ret (results_cell_row rfl _ _ w.heap.size _ _ _ _ rfl (setRow_heap wx w.heap.size _ _ _ _ HRES8.out) Try.underlying84 rfl S8.out) rfl ⟨vs, rfl, ⟨w.heap.size + 1, ?_⟩, ?_⟩
          · exact (HROW3.out.mono (by omega : w.heap.size ≤ w.heap.size + 1)).kept (Kept.setRow wx w.heap.size _) (by omega) (fun i hi g hg e => by have := (HROW3.out.own_lt hi g hg).1; omega)
          · exact below_setRow (HB2.out.trans (HB8.out.mono (by omega))) (Nat.le_refl _) _
end Go.Proofs.Ytgajpekolamjbaa
/- Plain: places of two quads among quads that rise. -/
namespace Go.Tk
open Go Go.RowKit
theorem cmp_neg (p q : Qd) : cmpQ p q < 0 ↔ p.a < q.a ∨ (p.a = q.a ∧ (p.b < q.b ∨ (p.b = q.b ∧ (p.c < q.c ∨ (p.c = q.c ∧ p.d < q.d))))) := by
  unfold cmpQ
  repeat' split
  all_goals omega
theorem cmp_pos (p q : Qd) : 0 < cmpQ p q ↔ q.a < p.a ∨ (q.a = p.a ∧ (q.b < p.b ∨ (q.b = p.b ∧ (q.c < p.c ∨ (q.c = p.c ∧ q.d < p.d))))) := by
  unfold cmpQ
  repeat' split
  all_goals omega
theorem cmp_zero {p q : Qd} (h : cmpQ p q = 0) : p = q := by
  have h1 : ¬ cmpQ p q < 0 := by omega
  have h2 : ¬ 0 < cmpQ p q := by omega
  rw [cmp_neg] at h1; rw [cmp_pos] at h2
  obtain ⟨a, b, c, d⟩ := p
  obtain ⟨a', b', c', d'⟩ := q
  simp only at h1 h2
  have e1 : a = a' := by omega
  have e2 : b = b' := by omega
  have e3 : c = c' := by omega
  have e4 : d = d' := by omega
  rw [e1, e2, e3, e4]
theorem cmp_swap (p q : Qd) : 0 < cmpQ p q ↔ cmpQ q p < 0 := by rw [cmp_pos, cmp_neg]
theorem cmp_trans {p q r : Qd} (h1 : cmpQ p q < 0) (h2 : cmpQ q r < 0) : cmpQ p r < 0 := by
  rw [cmp_neg] at *; omega
theorem cmp_trans_le {p q r : Qd} (h1 : cmpQ p q < 0) (h2 : cmpQ q r ≤ 0) : cmpQ p r < 0 := by
  rcases Int.lt_or_eq_of_le h2 with h | h
  · exact cmp_trans h1 h
  · rw [cmp_zero h] at h1; exact h1
theorem fndN_mono {L : List Qd} {p q : Qd} (h : cmpQ p q ≤ 0) : fndN L p ≤ fndN L q := by
  refine Decidable.byContradiction fun hn => ?_
  have h1 := fndN_lt (L := L) (q := p) (t := fndN L q) (by omega)
  have h2 := fndN_ge (L := L) (q := q) (by have := fndN_le L p; omega)
  have := cmp_trans_le h1 h
  omega
/-- What Find answers. -/
def isN (L : List Qd) (q : Qd) : Bool := decide (fndN L q < L.length) && decide (L.getD (fndN L q) default = q)
theorem rise_lt {M : List Qd} (h : RisP M) : ∀ (k i : Nat), i + k + 1 < M.length → cmpQ (M.getD i default) (M.getD (i + k + 1) default) < 0
  | 0, i, hk => by have := h.2 (i + 1) (by omega) hk; simpa using this
  | k + 1, i, hk => cmp_trans (rise_lt h k i (by omega)) (by have := h.2 (i + (k + 1) + 1) (by omega) hk; simpa [Nat.add_assoc] using this)
theorem fndN_self {M : List Qd} (h : RisP M) {i : Nat} (hi : i < M.length) : fndN M (M.getD i default) = i := by
  rcases Nat.lt_trichotomy (fndN M (M.getD i default)) i with g | g | g
  · have h1 := fndN_ge (L := M) (q := M.getD i default) (by omega)
    have h2 := rise_lt h (i - fndN M (M.getD i default) - 1) (fndN M (M.getD i default)) (by omega)
    rw [show fndN M (M.getD i default) + (i - fndN M (M.getD i default) - 1) + 1 = i by omega] at h2
    omega
  · exact g
  · have := fndN_lt g
    rw [cmp_neg] at this; omega
theorem isN_self {M : List Qd} (h : RisP M) {i : Nat} (hi : i < M.length) : isN M (M.getD i default) = true := by
  unfold isN; rw [fndN_self h hi, decide_eq_true hi, decide_eq_true rfl]; rfl
theorem inv_ahead {M : List Qd} {p : Qd} (h : 0 < fndN M p) : cmpQ (M.getD (fndN M p - 1) default) p < 0 := fndN_lt (by omega)
theorem inv_le {M : List Qd} {p q : Qd} : 0 < cmpQ p q ∨ fndN M p ≤ fndN M q := by
  by_cases h : 0 < cmpQ p q
  · exact .inl h
  · exact .inr (fndN_mono (by omega))
theorem inv_ge {M : List Qd} {p q : Qd} : cmpQ p q < 0 ∨ fndN M q ≤ fndN M p := by
  by_cases h : cmpQ p q < 0
  · exact .inl h
  · refine .inr (fndN_mono ?_)
    have : ¬ 0 < cmpQ q p := by rw [cmp_swap]; exact h
    omega
theorem inv_eq {M : List Qd} {p q : Qd} (h : cmpQ p q = 0) : isN M p = isN M q := by rw [cmp_zero h]
end Go.Tk
