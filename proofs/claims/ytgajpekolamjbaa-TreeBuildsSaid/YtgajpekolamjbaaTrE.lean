/- The document's Right, Compare, width, packed. -/
import Derived.Test.YtgajpekolamjbaaTrB
import Derived.Test.YtgajpekolamjbaaBitsW
import Derived.Test.YtgajpekolamjbaaSlB
import Derived.Test.YtgajpekolamjbaaOwn
import Derived.Test.YtgajpekolamjbaaRkK
set_option linter.unusedVariables false
set_option linter.unusedSimpArgs false
namespace Go.Tk
open Go Go.RowKit
theorem drewN2e (X : World) (a b : Nat) : (X.drewN a).drewN b = X.drewN (a + b) := by simp [World.drewN, Nat.add_assoc]
theorem four {k : Nat} (h : k < 4) : k = 0 ∨ k = 1 ∨ k = 2 ∨ k = 3 := by omega
theorem cmpQ_lt {p q : Qd} {k : Nat} (hk : k < 4) (he : ∀ j, j < k → p.at j = q.at j) (h : p.at k < q.at k) : cmpQ p q = -1 := by
  unfold cmpQ
  rcases four hk with rfl | rfl | rfl | rfl
  · have h : p.a < q.a := h
    rw [if_pos h]
  · have h : p.b < q.b := h
    have e0 : p.a = q.a := he 0 (by omega)
    rw [if_neg (by omega), if_neg (by omega), if_pos h]
  · have h : p.c < q.c := h
    have e0 : p.a = q.a := he 0 (by omega)
    have e1 : p.b = q.b := he 1 (by omega)
    rw [if_neg (by omega), if_neg (by omega), if_neg (by omega), if_neg (by omega), if_pos h]
  · have h : p.d < q.d := h
    have e0 : p.a = q.a := he 0 (by omega)
    have e1 : p.b = q.b := he 1 (by omega)
    have e2 : p.c = q.c := he 2 (by omega)
    rw [if_neg (by omega), if_neg (by omega), if_neg (by omega), if_neg (by omega), if_neg (by omega), if_neg (by omega), if_pos h]
theorem cmpQ_gt {p q : Qd} {k : Nat} (hk : k < 4) (he : ∀ j, j < k → p.at j = q.at j) (h : q.at k < p.at k) : cmpQ p q = 1 := by
  unfold cmpQ
  rcases four hk with rfl | rfl | rfl | rfl
  · have h : q.a < p.a := h
    rw [if_neg (by omega), if_pos h]
  · have h : q.b < p.b := h
    have e0 : p.a = q.a := he 0 (by omega)
    rw [if_neg (by omega), if_neg (by omega), if_neg (by omega), if_pos h]
  · have h : q.c < p.c := h
    have e0 : p.a = q.a := he 0 (by omega)
    have e1 : p.b = q.b := he 1 (by omega)
    rw [if_neg (by omega), if_neg (by omega), if_neg (by omega), if_neg (by omega), if_neg (by omega), if_pos h]
  · have h : q.d < p.d := h
    have e0 : p.a = q.a := he 0 (by omega)
    have e1 : p.b = q.b := he 1 (by omega)
    have e2 : p.c = q.c := he 2 (by omega)
    rw [if_neg (by omega), if_neg (by omega), if_neg (by omega), if_neg (by omega), if_neg (by omega), if_neg (by omega), if_neg (by omega), if_pos h]
theorem cmpQ_eq {p q : Qd} (he : ∀ j, j < 4 → p.at j = q.at j) : cmpQ p q = 0 := by
  unfold cmpQ
  have e0 : p.a = q.a := he 0 (by omega)
  have e1 : p.b = q.b := he 1 (by omega)
  have e2 : p.c = q.c := he 2 (by omega)
  have e3 : p.d = q.d := he 3 (by omega)
  rw [if_neg (by omega), if_neg (by omega), if_neg (by omega), if_neg (by omega), if_neg (by omega), if_neg (by omega), if_neg (by omega), if_neg (by omega)]
theorem bw_mono {a b : Int} (h0 : 0 ≤ a) (h : a ≤ b) (hb : b < 18446744073709551616) : bw a ≤ bw b := by
  unfold bw
  have h1 := lt_bitLenAux 64 b.toNat (by omega)
  have h2 : Lib.bitLenAux 64 b.toNat ≤ 64 := bitLen_le 64 _
  have := Lib.bitLen_le a.toNat (Lib.bitLenAux 64 b.toNat) h2 (by omega)
  unfold Lib.bitLen at this ⊢
  omega
theorem bw_max {a b : Int} (h0 : 0 ≤ a) (h1 : 0 ≤ b) (ha : a < 18446744073709551616) (hb : b < 18446744073709551616) : bw (max a b) = max (bw a) (bw b) := by
  rcases Int.le_total a b with h | h
  · have := bw_mono h0 h hb
    rw [Int.max_eq_right h, Int.max_eq_right this]
  · have := bw_mono h1 h ha
    rw [Int.max_eq_left h, Int.max_eq_left this]
theorem mxL_snoc (zs : List Int) (x : Int) : mxL (zs ++ [x]) = max (mxL zs) x := by simp [mxL, List.foldl_append]
theorem or_andE : ∀ y : Fin 256, ∀ v : Fin 8, bits .or .u8 (y.val : Int) (2 ^ v.val) = ((y.val ||| 2 ^ v.val : Nat) : Int) := by decide +kernel
theorem nums_setE (l : List UInt8) (i : Nat) (x : UInt8) : (nums l).set i (x.toNat : Int) = nums (l.set i x) := by simp [nums, List.map_set]
theorem nums_repE (n : Nat) : nums (List.replicate n 0) = List.replicate n 0 := by simp [nums]
theorem pow7E {k : Nat} (h : k < 8) : 2 ^ k ≤ 128 := by
  have := Nat.pow_le_pow_right (show 0 < 2 by decide) (show k ≤ 7 by omega)
  simpa using this
theorem nums_getE (l : List UInt8) (i : Nat) (h : i < l.length) : (nums l).getD i 0 = ((l.getD i 0).toNat : Nat) := by simp [nums, h]
end Go.Tk
namespace Go.Proofs.Ytgajpekolamjbaa
open Go.RowKit Go.Tk
theorem Try.okq_at (q : Qd) (k : Nat) (hk : k < 4) : okN k (q.at k) = true ↔ ((if k = 0 then 0 else 1 : Int) ≤ q.at k ∧ q.at k ≤ 4194304) := by
  rw [okN_iff]
  by_cases h : k = 0
  · subst h; simp
  · rw [if_neg h, show min k 1 = 1 by omega]; rfl
theorem qbox (w : World) (q : Qd) : (w.alloc (.cells (qcs q).toArray 24)).rangeAt w.heap.size 0 (qcs q) := by
  intro j v hv
  rw [World.cell?_alloc_at _ _ _ _ rfl]
  simpa using hv
set_option maxRecDepth 100000 in
theorem rcompare_calls (w : World) (p q : Qd) :
    Calls Try.prog 25 #[qv p, qv q] w fun e w' => e = .returned (.int .i64 (cmpQ p q)) ∧ Below w.heap.size w w' := by
  obtain ⟨w2, hw2⟩ : ∃ w2, w2 = (w.alloc (.cells (qcs p).toArray 24)).alloc (.cells (qcs q).toArray 24) := ⟨_, rfl⟩
  have hp : w2.rangeAt w.heap.size 0 (qcs p) := by
    rw [hw2]; exact range_keep (qbox w p) ((Below.refl _ _).alloc (Nat.le_refl _) _)
  have hq : w2.rangeAt (w.heap.size + 1) 0 (qcs q) := by
    rw [hw2]
    have := qbox (w.alloc (.cells (qcs p).toArray 24)) q
    rw [show (w.alloc (.cells (qcs p).toArray 24)).heap.size = w.heap.size + 1 by simp] at this
    exact this
  have hb : Below w.heap.size w w2 := by rw [hw2]; exact ((Below.refl _ w).alloc (Nat.le_refl _) _).alloc (by simp) _
  have HP := Lib.hid hp
  have HQ := Lib.hid hq
  have HB := Lib.hid hb
  go_enter Try.func25, Try.ntmps25
  go_upto_region 1 with fail
  change Code.wp _ _ _ _ ((w.alloc (.cells (qcs p).toArray 24)).alloc (.cells (qcs q).toArray 24))
  rw [← hw2]
  clear hw2 hp hq hb
  go_wp2_with fail
  go_loopw [5] (fun kv wr => ∃ (k m : Nat), kv = .int .i64 (k : Nat) ∧ k ≤ 4 ∧ (∀ j, j < k → p.at j = q.at j) ∧ wr = w2.drewN m) (fun kv _ => 4 - (intOf kv).toNat)
  case atStart => exact ⟨0, 0, rfl, Nat.zero_le _, (fun j hj => by omega), rfl⟩
  case round =>
    obtain ⟨k, m, rfl, hk, he, rfl⟩ := hrel
    have HE := Lib.hid he
    clear he
    by_cases hk4 : k < 4
    · have p1 := qcs_at HP.out k hk4
      have q1 := qcs_at HQ.out k hk4
      rw [Nat.zero_add] at p1 q1
      obtain ⟨x, hx⟩ : ∃ x, x = p.at k := ⟨_, rfl⟩
      obtain ⟨y, hy⟩ : ∃ y, y = q.at k := ⟨_, rfl⟩
      rw [← hx] at p1
      rw [← hy] at q1
      have HX := Lib.hid hx
      have HY := Lib.hid hy
      clear hx hy
      by_cases h1 : x < y
      · have e1 : decide (x < y) = true := decide_eq_true h1
        have hc := cmpQ_lt hk4 HE.out (by rw [← HX.out, ← HY.out]; exact h1)
        have HC := Lib.hid hc
        clear h1 hc
        go_wp2_with fail
        go_quiet (fail)
        go_wp2_with fail
        go_ret
        exact ⟨by rw [HC.out]; rfl, below_drewN (below_drewN HB.out _) _⟩
      · have e1 : decide (x < y) = false := decide_eq_false h1
        by_cases h2 : y < x
        · have e2 : decide (y < x) = true := decide_eq_true h2
          have hc := cmpQ_gt hk4 HE.out (by rw [← HX.out, ← HY.out]; exact h2)
          have HC := Lib.hid hc
          clear h1 h2 hc
          go_wp2_with fail
          go_quiet (fail)
          go_wp2_with fail
          go_quiet (fail)
          go_wp2_with fail
          go_ret
          exact ⟨by rw [HC.out]; rfl, below_drewN (below_drewN (below_drewN HB.out _) _) _⟩
        · have e2 : decide (y < x) = false := decide_eq_false h2
          have he2 : ∀ j, j < k + 1 → p.at j = q.at j := fun j hj => by
            by_cases e : j = k
            · subst e; rw [← HX.out, ← HY.out]; omega
            · exact HE.out j (by omega)
          have HE2 := Lib.hid he2
          clear h1 h2 he2
          go_wp2_with fail
          go_quiet (fail)
          go_wp2_with fail
          go_quiet (fail)
          go_wp2_with fail
          exact ⟨⟨k + 1, _, by go_num, by omega, HE2.out, rfl⟩, by simp [intOf]; omega⟩
    · obtain rfl : k = 4 := by omega
      have hc := cmpQ_eq HE.out
      have HC := Lib.hid hc
      clear hc
      go_wp2_with fail
      go_ret
      exact ⟨by rw [HC.out]; rfl, below_drewN HB.out _⟩
set_option maxRecDepth 100000 in
theorem rright_calls (w : World) (q : Qd) :
    Calls Try.prog 45 #[qv q] w fun e w' => e = .returned (.bool (okQ q)) ∧ Below w.heap.size w w' := by
  obtain ⟨w2, hw2⟩ : ∃ w2, w2 = w.alloc (.cells (qcs q).toArray 24) := ⟨_, rfl⟩
  have hq : w2.rangeAt w.heap.size 0 (qcs q) := by rw [hw2]; exact qbox w q
  have hb : Below w.heap.size w w2 := by rw [hw2]; exact (Below.refl _ w).alloc (Nat.le_refl _) _
  have HQ := Lib.hid hq
  have HB := Lib.hid hb
  go_enter Try.func45, Try.ntmps45
  go_upto_region 1 with fail
  change Code.wp _ _ _ _ (w.alloc (.cells (qcs q).toArray 24))
  rw [← hw2]
  clear hw2 hq hb
  go_wp2_with fail
  go_loopw [3] (fun kv wr => ∃ (k : Nat), kv = .int .i64 (k : Nat) ∧ k ≤ 4 ∧ (∀ j, j < k → okN j (q.at j) = true) ∧ wr = w2) (fun kv _ => 4 - (intOf kv).toNat)
  case atStart => exact ⟨0, rfl, Nat.zero_le _, (fun j hj => by omega), rfl⟩
  case round =>
    obtain ⟨k, rfl, hk, he, rfl⟩ := hrel
    have HE := Lib.hid he
    clear he
    by_cases hk4 : k < 4
    · have q1 := qcs_at HQ.out k hk4
      rw [Nat.zero_add] at q1
      have hok := Try.okq_at q k hk4
      obtain ⟨x, hx⟩ : ∃ x, x = q.at k := ⟨_, rfl⟩
      rw [← hx] at q1 hok
      have HX := Lib.hid hx
      clear hx
      have fin : ∀ B : Bool, okN k x = B → (B = true → ∀ j, j < k + 1 → okN j (q.at j) = true) ∧ (B = false → okQ q = false) := by
        intro B hB
        refine ⟨fun h j hj => ?_, fun h => okQ_no hk4 (by rw [← HX.out, hB, h])⟩
        by_cases e : j = k
        · subst e; rw [← HX.out, hB, h]
        · exact HE.out j (by omega)
      by_cases h0 : k = 0
      · subst h0
        rw [if_pos rfl] at hok
        by_cases h1 : x < 0
        · have e1 : decide (x < 0) = true := decide_eq_true h1
          have hf := (fin false (by cases hh : okN 0 x with
            | false => rfl
            | true => have := hok.1 hh; omega)).2 rfl
          have HF := Lib.hid hf
          clear h1 hf fin hok
          go_wp2_with fail
          go_ret
          exact ⟨by rw [HF.out]; rfl, HB.out⟩
        · have e1 : decide (x < 0) = false := decide_eq_false h1
          by_cases h2 : 4194304 < x
          · have e2 : decide (4194304 < x) = true := decide_eq_true h2
            have hf := (fin false (by cases hh : okN 0 x with
              | false => rfl
              | true => have := hok.1 hh; omega)).2 rfl
            have HF := Lib.hid hf
            clear h1 h2 hf fin hok
            go_wp2_with fail
            go_ret
            exact ⟨by rw [HF.out]; rfl, HB.out⟩
          · have e2 : decide (4194304 < x) = false := decide_eq_false h2
            have hf := (fin true (hok.2 ⟨by omega, by omega⟩)).1 rfl
            have HF := Lib.hid hf
            clear h1 h2 hf fin hok
            go_wp2_with fail
            exact ⟨⟨1, by go_num, by omega, HF.out, trivial⟩, by simp [intOf]⟩
      · have e0 : ((k : Int) == 0) = false := by simp; omega
        rw [if_neg h0] at hok
        by_cases h1 : x < 1
        · have e1 : decide (x < 1) = true := decide_eq_true h1
          have hf := (fin false (by cases hh : okN k x with
            | false => rfl
            | true => have := hok.1 hh; omega)).2 rfl
          have HF := Lib.hid hf
          clear h1 hf fin hok h0
          go_wp2_with fail
          go_ret
          exact ⟨by rw [HF.out]; rfl, HB.out⟩
        · have e1 : decide (x < 1) = false := decide_eq_false h1
          by_cases h2 : 4194304 < x
          · have e2 : decide (4194304 < x) = true := decide_eq_true h2
            have hf := (fin false (by cases hh : okN k x with
              | false => rfl
              | true => have := hok.1 hh; omega)).2 rfl
            have HF := Lib.hid hf
            clear h1 h2 hf fin hok h0
            go_wp2_with fail
            go_ret
            exact ⟨by rw [HF.out]; rfl, HB.out⟩
          · have e2 : decide (4194304 < x) = false := decide_eq_false h2
            have hf := (fin true (hok.2 ⟨by omega, by omega⟩)).1 rfl
            have HF := Lib.hid hf
            clear h1 h2 hf fin hok h0
            go_wp2_with fail
            exact ⟨⟨k + 1, by go_num, by omega, HF.out, trivial⟩, by simp [intOf]; omega⟩
    · obtain rfl : k = 4 := by omega
      have hc : okQ q = true := (okQ_split q).2 HE.out
      have HC := Lib.hid hc
      clear hc
      go_wp2_with fail
      go_ret
      exact ⟨by rw [HC.out]; rfl, HB.out⟩
theorem rwidths_calls (w : World) (a : Option Addr) (n c : Nat) (zs : List Int) (h : SlI .u64 w a n c zs) (hz : ∀ x ∈ zs, 0 ≤ x ∧ x ≤ 4194304) :
    Calls Try.prog 48 #[.slice a n c] w fun e w' => e = .returned (.int .i64 (wdL zs)) ∧ w' = w := by
  have hle := h.le
  have hmx := h.max
  have HS := Lib.hid h
  have HZ := Lib.hid hz
  clear h hz
  go_enter Try.func48, Try.ntmps48
  go_wp2
  go_loopw [3, 4] (fun nv iv wr => ∃ (i : Nat), iv = .int .i64 (i : Nat) ∧ nv = .int .i64 (wdL (zs.take i)) ∧ i ≤ n ∧ wr = w) (fun _ iv _ => n - (intOf iv).toNat)
  case atStart => exact ⟨0, rfl, by simp [wdL, mxL, bw_zero], Nat.zero_le _, rfl⟩
  case round =>
    obtain ⟨i, rfl, rfl, hi, rfl⟩ := hrel
    by_cases hlt : i < n
    · obtain ⟨b, o, rfl, hc⟩ := HS.out.cell i hlt
      have hil : i < zs.length := by rw [HS.out.len]; exact hlt
      have hx := HZ.out zs[i] (List.getElem_mem hil)
      have hgx : zs.getD i 0 = zs[i] := by simp [hil]
      have hm := mxL_range (zs := zs.take i) (M := 4194304) (fun x hx => HZ.out x (List.mem_of_mem_take hx)) (by omega)
      have hst : wdL (zs.take (i + 1)) = max (wdL (zs.take i)) (bw (zs.getD i 0)) := by
        rw [List.take_succ_eq_append_getElem hil, hgx]
        unfold wdL
        rw [mxL_snoc, bw_max hm.1 hx.1 (by omega) (by omega)]
      rw [← hgx] at hx
      obtain ⟨x, hxe⟩ : ∃ x, x = zs.getD i 0 := ⟨_, rfl⟩
      obtain ⟨m, hme⟩ : ∃ m, m = wdL (zs.take i) := ⟨_, rfl⟩
      obtain ⟨y, hye⟩ : ∃ y, y = bw x := ⟨_, rfl⟩
      rw [← hxe, ← hme, ← hye] at hst
      rw [← hxe] at hc hx
      rw [← hme]
      have HST := Lib.hid hst
      have HY := Lib.hid hye
      clear hst hgx hxe hme hye hm hil
      go_wp2_with (go_at_call 88; refine (rwidth_calls x _ (by omega) (by omega)).mono ?_; rintro e w4 ⟨rfl, rfl⟩; rw [← HY.out])
      exact ⟨⟨i + 1, by go_num, by rw [HST.out], by omega, trivial⟩, by simp [intOf]; omega⟩
    · obtain rfl : i = n := by omega
      have ht : zs.take i = zs := List.take_of_length_le (by rw [HS.out.len]; exact Nat.le_refl _)
      rw [ht]
      clear ht
      go_wp2_with fail
      go_ret
      exact ⟨rfl, rfl⟩
set_option maxRecDepth 100000 in
set_option maxHeartbeats 1000000 in
theorem rpacked_calls (w : World) (a : Option Addr) (n c : Nat) (l : List Bool) (h : SlB w a n c l) (hn : n ≤ 67108864) :
    Calls Try.prog 51 #[.slice a n c] w fun e w' => ∃ g, e = .returned (.slice (some ⟨g, 0, none⟩) ((n + 7) / 8) ((n + 7) / 8)) ∧ w.heap.size ≤ g ∧ RowI .u8 5 w' g (nums (packB l)) ∧ Below w.heap.size w w' := by
  have hln := h.len
  have H := Lib.hid h
  have HLN := Lib.hid hln
  obtain ⟨m, hm⟩ : ∃ m, m = (n + 7) / 8 := ⟨_, rfl⟩
  have HM := Lib.hid hm
  have hm2 : m ≤ 8388608 := by omega
  have hmi : ((n : Int) + 7) / 8 = (m : Int) := by omega
  rw [← hm]
  clear h hln hm
  go_enter Try.func51, Try.ntmps51
  go_wp2_with (at_make; refine wpList_mkJ rfl _ _ _ rfl 5 (.int .u8 0) 1 Try.underlying25 Try.infoU8 rfl _ _ _ _ m rfl rfl (by go_num) (by go_num) (by omega) (by omega) ?_; intro w1 hw1 hb1; have HW := Lib.hid hw1; have HB1 := Lib.hid hb1; clear hw1 hb1)
  go_loopw [4] (fun iv wr => ∃ i : Nat, iv = .int .i64 (i : Nat) ∧ i ≤ n ∧ RowI .u8 5 wr w.heap.size (nums (pkB l i)) ∧ Below w.heap.size w wr) (fun iv _ => n - (intOf iv).toNat)
  case atStart =>
    refine ⟨0, rfl, Nat.zero_le _, ?_, below_of_grown HB1.out (Nat.le_refl _) (by simp)⟩
    simp only [pkB, nums_repE]
    unfold RowI
    rw [HW.out, HLN.out, ← HM.out]
    simp
  case round =>
    obtain ⟨i, rfl, hi, hr, hb⟩ := hrel
    have HR := Lib.hid hr
    have HB := Lib.hid hb
    clear hr hb
    by_cases hin : i < n
    · obtain ⟨b, o, rfl, hc⟩ := (H.out.keep HB.out).cell i hin
      have hlen := H.out.le
      obtain ⟨B, hB⟩ : ∃ B, B = l.getD i false := ⟨_, rfl⟩
      rw [← hB] at hc
      have HBB := Lib.hid hB
      clear hB
      have hpl : (pkB l i).length = m := by rw [pk_len, HLN.out, HM.out]
      cases B with
      | false =>
        have HPL := Lib.hid hpl
        clear hpl
        go_wp2
        go_roundw
        case rel => exact ⟨i + 1, by go_num, by omega, by simp only [pkB]; rw [if_neg (by rw [← HBB.out]; decide)]; exact HR.out, HB.out⟩
        case measure => simp [intOf]; omega
      | true =>
        have hrc := HR.out.cell (i / 8) (by rw [nums_len]; omega)
        rw [nums_getE _ _ (by omega)] at hrc
        have hfz := HR.out.frozen (i / 8)
        obtain ⟨y, hy⟩ : ∃ y, y = ((pkB l i).getD (i / 8) 0).toNat := ⟨_, rfl⟩
        rw [← hy] at hrc
        have hy2 : y < 256 := by rw [hy]; exact UInt8.toNat_lt _
        have hor := or_andE ⟨y, hy2⟩ ⟨i % 8, by omega⟩
        have hob := or_byte y (i % 8) hy2 (by omega)
        simp only at hor
        have hnx : pkB l (i + 1) = (pkB l i).set (i / 8) (UInt8.ofNat (y ||| 2 ^ (i % 8))) := by
          simp only [pkB]; rw [if_pos HBB.out.symm, hy]
        obtain ⟨z, hz⟩ : ∃ z, z = UInt8.ofNat (y ||| 2 ^ (i % 8)) := ⟨_, rfl⟩
        rw [← hz] at hob hnx
        rw [← hob] at hor
        have HNX := Lib.hid hnx
        have hzb : z.toNat < 256 := UInt8.toNat_lt z
        have hrs := fun k => (HR.out.drewN k).set (i / 8) (z.toNat : Int)
        rw [nums_setE, ← hnx] at hrs
        obtain ⟨q, hq⟩ : ∃ q, q = z.toNat := ⟨_, rfl⟩
        rw [← hq] at hor hzb hrs
        have HRS := Lib.hid hrs
        have h8 : (8 : Nat) * m ≥ i + 1 := by have := HM.out; omega
        clear hnx hob hz hy hpl hq hrs
        have htm : ((i : Int) % 8).toNat = i % 8 := by omega
        have hp7 : 2 ^ (i % 8) ≤ 128 := pow7E (by omega)
        have hpz : ((2 : Int) ^ (i % 8)) = ((2 ^ (i % 8) : Nat) : Int) := by rw [Int.natCast_pow]; rfl
        have hp0 : 1 ≤ 2 ^ (i % 8) := Nat.one_le_two_pow
        have hw5 : IntKind.u8.wrap ((2 : Int) ^ (i % 8)) = (2 : Int) ^ (i % 8) := by rw [hpz, IntKind.wrap_u8]; omega
        clear hpz hp7 hp0
        go_upto_region 6 with fail
        refine wp_region_quiet_tail (fun w' => ∃ n, w' = World.drewN _ n) 10 (by kernel_rfl) (by kernel_rfl) ⟨1, rfl⟩ ?_
        simp only [List.take_succ_cons, List.take_zero, List.drop_succ_cons, List.drop_zero]
        repeat (go_big_quiet_step (fail))
        refine wpQuiet_nil ?_
        rintro _ ⟨n1, rfl⟩
        go_wp2_with fail
        go_roundw
        case rel => exact ⟨i + 1, by go_num, by omega, HRS.out _, by exact (below_drewN HB.out _).setCell (p := ⟨w.heap.size, i / 8, none⟩) (Nat.le_refl _) _⟩
        case measure => simp [intOf]; omega
    · obtain rfl : i = n := by omega
      go_wp2
      go_ret
      refine ⟨w.heap.size, rfl, Nat.le_refl _, ?_, HB.out⟩
      have := HR.out
      unfold packB
      rw [HLN.out]
      exact this
end Go.Proofs.Ytgajpekolamjbaa
