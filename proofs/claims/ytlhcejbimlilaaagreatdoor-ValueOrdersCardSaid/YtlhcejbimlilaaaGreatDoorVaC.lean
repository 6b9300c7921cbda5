/- VdA VaC, laid as one. -/
import Derived.Test.YtlhcejbimlilaaaGreatDoorVaB
import Derived.Test.YtlhcejbimlilaaaGreatDoorVaD
import Derived.Test.YtlhcejbimlilaaaGreatDoorQuL
import Derived.Deep.DeepMust
import Derived.Deep.DeepCutAuto
import Derived.Deep.CutBlock
import Derived.Laws.Tables
import Derived.OneCell
set_option linter.unusedVariables false
set_option linter.unusedSimpArgs false
/- The document's digit, run, signed, small, integer. -/
namespace Go.Tk
open Go Go.RowKit
theorem dgN_cons8 (c : UInt8) (t : List UInt8) : dgN (c :: t) = if (decide (48 ≤ c.toNat) && decide (c.toNat ≤ 57)) = true then dgN t + 1 else 0 := by
  have e : (decide (48 ≤ c) && decide (c ≤ 57)) = (decide (48 ≤ c.toNat) && decide (c.toNat ≤ 57)) := by congr 1
  unfold dgN
  rw [List.takeWhile_cons, e]
  split <;> rfl
theorem dgN_nil8 : dgN [] = 0 := rfl
theorem dgN_le8 (l : List UInt8) : dgN l ≤ l.length := (List.takeWhile_sublist _).length_le
theorem dgN_all8 (l : List UInt8) : (dgN l = l.length) ↔ dgB l = true := by
  induction l with
  | nil => simp [dgN, dgB]
  | cons c t ih =>
    rw [dgN_cons8, dgB_cons]
    have := dgN_le8 t
    by_cases h : (decide (48 ≤ c.toNat) && decide (c.toNat ≤ 57)) = true
    · rw [if_pos h, h, Bool.true_and, ← ih, List.length_cons]; omega
    · rw [if_neg h, List.length_cons]
      have h' : (decide (48 ≤ c.toNat) && decide (c.toNat ≤ 57)) = false := by simpa using h
      rw [h']; simp
end Go.Tk
namespace Go.Proofs.YtlhcejbimlilaaaGreatDoor
open Go.RowKit Go.Tk
theorem rdigit_calls (x : Int) (w : World) : Calls Tryz.prog 145 #[.int .u8 x] w fun e w' => e = .returned (.bool (decide (48 ≤ x) && decide (x ≤ 57))) ∧ w = w' := by
  by_cases c1 : 48 ≤ x
  · rw [decide_eq_true c1, Bool.true_and]
    go_enter Tryz.func145, Tryz.ntmps145
    go_wp2_with fail
    go_ret
    exact ⟨rfl, rfl⟩
  · rw [decide_eq_false c1, Bool.false_and]
    have c3 : x < 48 := by omega
    clear c1
    go_enter Tryz.func145, Tryz.ntmps145
    go_wp2_with fail
    go_ret
    exact ⟨rfl, rfl⟩
set_option maxHeartbeats 1000000 in
theorem rrun_calls (s : ByteArray) (w : World) (hs : s.size ≤ 9223372036854770000) :
    Calls Tryz.prog 108 #[.string s] w fun e w' => e = .returned (.int .i64 (dgN s.data.toList : Nat)) ∧ w = w' := by
  obtain ⟨N, hN⟩ : ∃ N, N = dgN s.data.toList := ⟨_, rfl⟩
  rw [← hN]
  have HN := Lib.hid hN
  clear hN
  go_enter Tryz.func108, Tryz.ntmps108
  go_wp2_with fail
  go_loop [3] (fun i => ∃ k : Nat, k ≤ s.size ∧ i = .int .i64 (k : Nat) ∧ k + dgN (s.data.toList.drop k) = N) (fun i => s.size - (intOf i).toNat)
  case atStart => exact ⟨0, Nat.zero_le _, rfl, by rw [HN.out]; simp⟩
  case round =>
    obtain ⟨k, hk, rfl, hd⟩ := hrel
    by_cases hlt : k < s.size
    · rw [List.drop_eq_getElem_cons (by rw [← Lib.size_eq]; exact hlt), ba_get s k hlt, dgN_cons8] at hd
      obtain ⟨x, hx⟩ : ∃ x : Int, (((s[k]).toNat : Nat) : Int) = x := ⟨_, rfl⟩
      have hdg := fun w => rdigit_calls x w
      by_cases c1 : (48 ≤ s[k].toNat ∧ s[k].toNat ≤ 57)
      · rw [decide_eq_true c1.1, decide_eq_true c1.2, Bool.and_self, if_pos rfl] at hd
        rw [decide_eq_true (by omega), decide_eq_true (by omega)] at hdg
        have hdg : ∀ w, Calls Tryz.prog 145 #[.int .u8 x] w fun e w' => e = .returned (.bool true) ∧ w = w' := hdg
        have HDG := Lib.hid hdg
        have HD := Lib.hid hd
        clear hdg hd c1
        go_wp2_with (go_at_call 145; (with_reducible refine (HDG.out _).mono ?_); rintro e w' ⟨rfl, rfl⟩)
        go_round
        case rel => exact ⟨k + 1, by omega, by go_num, by have := HD.out; omega⟩
        case measure => simp [intOf]; omega
      · have e0 : (decide (48 ≤ s[k].toNat) && decide (s[k].toNat ≤ 57)) = false := by rw [← Bool.not_eq_true, Bool.and_eq_true, decide_eq_true_eq, decide_eq_true_eq]; exact c1
        rw [e0, if_neg (by simp)] at hd
        have e1 : (decide (48 ≤ x) && decide (x ≤ 57)) = false := by rw [← Bool.not_eq_true, Bool.and_eq_true, decide_eq_true_eq, decide_eq_true_eq]; omega
        rw [e1] at hdg
        have HDG := Lib.hid hdg
        have hf : k = N := by omega
        subst hf
        clear hdg hd c1 e0 e1 HN
        go_wp2_with (go_at_call 145; (with_reducible refine (HDG.out _).mono ?_); rintro e w' ⟨rfl, rfl⟩)
        go_ret
        exact ⟨rfl, rfl⟩
    · rw [List.drop_of_length_le (by rw [← Lib.size_eq]; omega), dgN_nil8] at hd
      have hf : k = N := by omega
      subst hf
      have hks : k = s.size := by omega
      clear hd HN
      go_wp2_with fail
      go_ret
      exact ⟨rfl, rfl⟩
theorem rsigned_calls (s : ByteArray) (w : World) (hs : s.size ≤ 9223372036854770000) :
    Calls Tryz.prog 107 #[.string s] w fun e w' => e = .returned (.tuple #[.string ⟨(sgnR s.data.toList).toArray⟩, .bool (sgnB s.data.toList)]) ∧ Below w.heap.size w w' := by
  by_cases h0 : 0 < s.size
  · have hc := ba_cons s h0
    obtain ⟨c, hcc⟩ : ∃ c, c = s[0] := ⟨_, rfl⟩
    rw [← hcc] at hc
    have hne : (s.toList == []) = false := by rw [Lib.toList_data, hc]; rfl
    have hex := ex_drop s 1
    by_cases h1 : c.toNat = 43
    · have e1 : sgnB s.data.toList = false := by rw [hc, u8_eq (by omega) h1]; rfl
      have e2 : sgnR s.data.toList = s.data.toList.drop 1 := by rw [hc, u8_eq (by omega) h1]; rfl
      rw [e1, e2, ← hex]
      have hx : (((s[0]).toNat : Nat) : Int) = 43 := by rw [← hcc, h1]; rfl
      clear hc hcc h1 e1 e2 hex
      go_enter Tryz.func107, Tryz.ntmps107
      go_wp2_with fail
      go_quiet (fail)
      go_wp2_with fail
      go_ret2
      exact ⟨rfl, by repeat (first | with_reducible exact Below.refl _ _ | with_reducible refine below_drewN ?_ _)⟩
    · have n1 : (((s[0]).toNat : Nat) : Int) ≠ 43 := by rw [← hcc]; omega
      by_cases h2 : c.toNat = 45
      · have e1 : sgnB s.data.toList = true := by rw [hc, u8_eq (by omega) h2]; rfl
        have e2 : sgnR s.data.toList = s.data.toList.drop 1 := by rw [hc, u8_eq (by omega) h2]; rfl
        rw [e1, e2, ← hex]
        have hx : (((s[0]).toNat : Nat) : Int) = 45 := by rw [← hcc, h2]; rfl
        clear hc hcc h1 h2 e1 e2 hex n1
        go_enter Tryz.func107, Tryz.ntmps107
        go_wp2_with fail
        go_quiet (fail)
        go_wp2_with fail
        go_ret2
        exact ⟨rfl, by repeat (first | with_reducible exact Below.refl _ _ | with_reducible refine below_drewN ?_ _)⟩
      · have e1 : sgnB s.data.toList = false := by rw [hc]; exact u8_ne (n := 45) (by omega) h2
        have e2 : sgnR s.data.toList = s.data.toList := by
          have q1 : (c == 43) = false := u8_ne (n := 43) (by omega) h1
          have q2 : (c == 45) = false := u8_ne (n := 45) (by omega) h2
          rw [hc]; simp only [sgnR, q1, q2]; rfl
        rw [e1, e2, str_mk]
        have n2 : (((s[0]).toNat : Nat) : Int) ≠ 45 := by rw [← hcc]; omega
        have b1 : ((((s[0]).toNat : Nat) : Int) == 43) = false := by rw [beq_eq_false_iff_ne]; exact n1
        have b2 : ((((s[0]).toNat : Nat) : Int) == 45) = false := by rw [beq_eq_false_iff_ne]; exact n2
        clear hc hcc h1 h2 e1 e2 hex n1 n2
        go_enter Tryz.func107, Tryz.ntmps107
        go_wp2_with fail
        go_ret2
        exact ⟨rfl, Below.refl _ _⟩
  · have hn := ba_nil s h0
    have e1 : sgnB s.data.toList = false := by rw [hn]; rfl
    have e2 : sgnR s.data.toList = s.data.toList := by rw [hn]; rfl
    rw [e1, e2, str_mk]
    have hne : (s.toList == []) = true := by rw [Lib.toList_data, hn]; rfl
    clear hn e1 e2
    go_enter Tryz.func107, Tryz.ntmps107
    go_wp2_with fail
    go_ret2
    exact ⟨rfl, Below.refl _ _⟩
theorem sgR_le (l : List UInt8) : (sgnR l).length ≤ l.length := by
  cases l with
  | nil => simp [sgnR]
  | cons c t => simp only [sgnR]; split <;> simp
set_option maxHeartbeats 1000000 in
theorem rinteger_calls (s : ByteArray) (w : World) (hs : s.size ≤ 9223372036854770000) :
    Calls Tryz.prog 71 #[.string s] w fun e w' => e = .returned (.bool (!(sgnR s.data.toList).isEmpty && dgB (sgnR s.data.toList))) ∧ Below w.heap.size w w' := by
  have hsg := fun w => rsigned_calls s w hs
  obtain ⟨R, hR⟩ : ∃ R : ByteArray, R = ⟨(sgnR s.data.toList).toArray⟩ := ⟨_, rfl⟩
  have hRd : R.data.toList = sgnR s.data.toList := by rw [hR]
  have hRs : R.size ≤ s.size := by rw [Lib.size_eq, hRd, Lib.size_eq]; exact sgR_le _
  rw [← hR] at hsg
  rw [← hRd]
  have hrn := fun w => rrun_calls R w (by omega)
  have hle := dgN_le8 R.data.toList
  have hall := dgN_all8 R.data.toList
  rw [← Lib.size_eq] at hle hall
  have hem : R.data.toList.isEmpty = (R.toList == []) := by rw [Lib.toList_data]; cases R.data.toList <;> rfl
  rw [hem]
  obtain ⟨N, hN⟩ : ∃ N, N = dgN R.data.toList := ⟨_, rfl⟩
  obtain ⟨D, hD⟩ : ∃ N, N = dgB R.data.toList := ⟨_, rfl⟩
  rw [← hN] at hrn hle hall
  rw [← hD] at hall ⊢
  have HSG := Lib.hid hsg
  have HRN := Lib.hid hrn
  clear hsg hrn hN hD hR hRd hem
  obtain ⟨em, hem⟩ : ∃ em, em = (R.toList == []) := ⟨_, rfl⟩
  rw [← hem]
  cases em with
  | true =>
    have hemt : (R.toList == []) = true := hem.symm
    clear hem hall hle
    go_enter Tryz.func71, Tryz.ntmps71
    go_wp2_with (go_at_call 107; (with_reducible refine (HSG.out _).mono ?_); rintro e w1 ⟨rfl, hb1⟩)
    go_ret
    exact ⟨rfl, hb1⟩
  | false =>
    have hemt : (R.toList == []) = false := hem.symm
    clear hem
    cases D with
    | true =>
      obtain rfl : N = R.size := hall.2 rfl
      clear hall hle
      go_enter Tryz.func71, Tryz.ntmps71
      go_wp2_with (first | (go_at_call 107; (with_reducible refine (HSG.out _).mono ?_); rintro e w1 ⟨rfl, hb1⟩) | (go_at_call 108; (with_reducible refine (HRN.out _).mono ?_); rintro e w' ⟨rfl, rfl⟩))
      go_ret
      exact ⟨rfl, hb1⟩
    | false =>
      have hne : N ≠ R.size := fun e => by have := hall.1 e; cases this
      have hnb : ((N : Int) == (R.size : Int)) = false := beq_false_of_ne (by omega)
      have hnn : ¬ (N : Int) = (R.size : Int) := by omega
      clear hall hle hne
      go_enter Tryz.func71, Tryz.ntmps71
      go_wp2_with (first | (go_at_call 107; (with_reducible refine (HSG.out _).mono ?_); rintro e w1 ⟨rfl, hb1⟩) | (go_at_call 108; (with_reducible refine (HRN.out _).mono ?_); rintro e w' ⟨rfl, rfl⟩))
      go_ret
      exact ⟨rfl, hb1⟩
theorem numN_snoc (l : List UInt8) (c : UInt8) : numN (l ++ [c]) = 10 * numN l + (c.toNat - 48) := by unfold numN; rw [List.foldl_append]; rfl
set_option maxHeartbeats 1000000 in
/-- The number of a text of nine digits at most, with a sign or without. -/
theorem rsmall_calls (s : ByteArray) (w : World) (hd : dgB (sgnR s.data.toList) = true) (h9 : (sgnR s.data.toList).length ≤ 9) :
    Calls Tryz.prog 110 #[.string s] w fun e w' => e = .returned (.int .i64 (expZ s.data.toList)) ∧ Below w.heap.size w w' := by
  have hs10 : s.size ≤ 10 := by
    rw [Lib.size_eq]
    cases h : s.data.toList with
    | nil => simp
    | cons c t =>
      rw [h] at h9
      simp only [sgnR] at h9
      split at h9
      · simp; omega
      · simp at h9 ⊢; omega
  have hsg := fun w => rsigned_calls s w (by omega)
  obtain ⟨R, hR⟩ : ∃ R : ByteArray, R = ⟨(sgnR s.data.toList).toArray⟩ := ⟨_, rfl⟩
  have hRd : R.data.toList = sgnR s.data.toList := by rw [hR]
  have hRs : R.size ≤ 9 := by rw [Lib.size_eq, hRd]; exact h9
  have hex : expZ s.data.toList = if sgnB s.data.toList = true then -(numN R.data.toList : Int) else numN R.data.toList := by unfold expZ; rw [hRd]
  rw [hex]
  rw [← hR] at hsg
  rw [← hRd] at hd
  obtain ⟨b, hb⟩ : ∃ b, b = sgnB s.data.toList := ⟨_, rfl⟩
  rw [← hb] at hsg ⊢
  obtain ⟨N, hN⟩ : ∃ N, N = numN R.data.toList := ⟨_, rfl⟩
  have hNl := numN_lt _ hd (by rw [← Lib.size_eq]; exact hRs)
  rw [← hN] at hNl ⊢
  have HSG := Lib.hid hsg
  have HD := Lib.hid hd
  have HN := Lib.hid hN
  clear hsg hd hN hR hRd hex hb h9 hs10
  go_enter Tryz.func110, Tryz.ntmps110
  go_wp2_with (go_at_call 107; (with_reducible refine (HSG.out _).mono ?_); rintro e w1 ⟨rfl, hb1⟩)
  have HB1 := Lib.hid hb1
  clear hb1
  go_loop [5, 6] (fun n i => ∃ k : Nat, k ≤ R.size ∧ n = .int .i64 (numN (R.data.toList.take k) : Nat) ∧ i = .int .i64 (k : Nat)) (fun _ i => R.size - (intOf i).toNat)
  case atStart => exact ⟨0, Nat.zero_le _, rfl, rfl⟩
  case round =>
    obtain ⟨k, hk, rfl, rfl⟩ := hrel
    by_cases hlt : k < R.size
    · have hkl : k < R.data.toList.length := by rw [← Lib.size_eq]; exact hlt
      have htk : R.data.toList.take (k + 1) = R.data.toList.take k ++ [R[k]] := by rw [List.take_add_one, List.getElem?_eq_getElem hkl, ba_get R k hlt]; rfl
      have hdt : dgB (R.data.toList.take (k + 1)) = true := List.all_eq_true.2 fun c hc => List.all_eq_true.1 HD.out c (List.mem_of_mem_take hc)
      have hl1 := numN_lt _ hdt (by rw [List.length_take]; omega)
      rw [htk] at hdt hl1
      have hcx : 48 ≤ (R[k]).toNat ∧ (R[k]).toNat ≤ 57 := by
        have := List.all_eq_true.1 hdt (R[k]) (by simp)
        simp only [Bool.and_eq_true, decide_eq_true_eq] at this
        exact ⟨UInt8.le_iff_toNat_le.1 this.1, UInt8.le_iff_toNat_le.1 this.2⟩
      rw [numN_snoc] at hl1
      have hnx : numN (R.data.toList.take (k + 1)) = 10 * numN (R.data.toList.take k) + ((R[k]).toNat - 48) := by rw [htk, numN_snoc]
      obtain ⟨M, hM⟩ : ∃ M, M = numN (R.data.toList.take k) := ⟨_, rfl⟩
      rw [← hM] at hl1 hnx ⊢
      obtain ⟨x, hx⟩ : ∃ x : Int, (((R[k]).toNat : Nat) : Int) = x := ⟨_, rfl⟩
      have k1 : IntKind.u8.wrap (x - 48) = x - 48 := by rw [IntKind.wrap_u8]; omega
      have k2 : IntKind.i64.wrap (x - 48) = x - 48 := by rw [IntKind.wrap_i64]; omega
      have k3 : IntKind.i64.wrap (10 * (M : Int)) = 10 * (M : Int) := by rw [IntKind.wrap_i64]; omega
      have k4 : IntKind.i64.wrap (10 * (M : Int) + (x - 48)) = 10 * (M : Int) + (x - 48) := by rw [IntKind.wrap_i64]; omega
      have hnew : 10 * (M : Int) + (x - 48) = ((numN (R.data.toList.take (k + 1)) : Nat) : Int) := by rw [hnx]; omega
      have HNEW := Lib.hid hnew
      clear htk hdt hl1 hcx hnx hM hnew
      go_wp2_with fail
      go_round
      case rel => exact ⟨k + 1, by omega, by rw [← HNEW.out], by go_num⟩
      case measure => simp [intOf]; omega
    · have hks : k = R.size := by omega
      have hf : numN (R.data.toList.take k) = N := by rw [List.take_of_length_le (by rw [← Lib.size_eq]; omega), HN.out]
      rw [hf]
      have hw1 : IntKind.i64.wrap (-(N : Int)) = -(N : Int) := by rw [IntKind.wrap_i64]; omega
      clear hf
      cases b with
      | true =>
        go_wp2_with fail
        go_ret
        exact ⟨rfl, HB1.out⟩
      | false =>
        go_wp2_with fail
        go_ret
        exact ⟨rfl, HB1.out⟩
end Go.Proofs.YtlhcejbimlilaaaGreatDoor
/- The program's numbers held against each other: rank, order, against. -/

namespace Go.Tk
open Go Go.RowKit
theorem ret_p {q : Int × Bool} {a : Int} {x : Bool} (h : q = (a, x)) : Ending.returned (.tuple #[.int .i64 a, .bool x]) = .returned (.tuple #[.int .i64 q.1, .bool q.2]) := by rw [h]
theorem emp_iff (l : List UInt8) : ((⟨l.toArray⟩ : ByteArray).toList == []) = l.isEmpty := by
  rw [Lib.toList_data]; cases l <;> rfl
end Go.Tk
namespace Go.Proofs.YtlhcejbimlilaaaGreatDoor
open Go.RowKit Go.Tk
theorem rank_calls (n : Nm) (w : World) (hi : -1 ≤ n.inf ∧ n.inf ≤ 1) :
    Calls Tryz.prog 78 #[n.val] w fun e w' => e = .returned (.int .i64 (rkN n)) ∧ Below w.heap.size w w' := by
  obtain ⟨b, dg, pw, inf, nan⟩ := n
  obtain ⟨h1, h2⟩ := hi
  unfold Nm.val
  dsimp only at h1 h2 ⊢
  by_cases hz : inf = 0
  · subst hz
    cases dg with
    | nil =>
      have e : rkN ⟨b, [], pw, 0, nan⟩ = 0 := rfl
      rw [e]
      clear e
      go_enter Tryz.func78, Tryz.ntmps78
      go_wp2_with fail
      go_ret
      exact ⟨rfl, (Below.refl _ _).alloc (Nat.le_refl _) _⟩
    | cons c t =>
      have he := emp_iff (c :: t)
      obtain ⟨d, hd⟩ : ∃ d : ByteArray, d = ⟨(c :: t).toArray⟩ := ⟨_, rfl⟩
      rw [← hd] at he ⊢
      have he' : (d.toList == []) = false := he
      cases b with
      | true =>
        have e : rkN ⟨true, c :: t, pw, 0, nan⟩ = -1 := rfl
        rw [e]
        clear e hd he
        go_enter Tryz.func78, Tryz.ntmps78
        go_wp2_with fail
        go_ret
        exact ⟨rfl, (Below.refl _ _).alloc (Nat.le_refl _) _⟩
      | false =>
        have e : rkN ⟨false, c :: t, pw, 0, nan⟩ = 1 := rfl
        rw [e]
        clear e hd he
        go_enter Tryz.func78, Tryz.ntmps78
        go_wp2_with fail
        go_ret
        exact ⟨rfl, (Below.refl _ _).alloc (Nat.le_refl _) _⟩
  · have e : rkN ⟨b, dg, pw, inf, nan⟩ = 2 * inf := by unfold rkN; exact if_pos hz
    rw [e]
    have hb : (inf != 0) = true := by rw [bne_iff_ne]; exact hz
    clear e hz
    go_enter Tryz.func78, Tryz.ntmps78
    go_wp2_with fail
    go_ret
    exact ⟨rfl, (Below.refl _ _).alloc (Nat.le_refl _) _⟩
theorem order_calls (a b : Int) (w : World) :
    Calls Tryz.prog 79 #[.int .i64 a, .int .i64 b] w fun e w' => e = .returned (.int .i64 (cmZ a b)) ∧ w = w' := by
  by_cases h1 : a < b
  · have e : cmZ a b = -1 := by unfold cmZ; rw [if_pos h1]
    rw [e]; clear e
    go_enter Tryz.func79, Tryz.ntmps79
    go_wp2_with fail
    go_ret
    exact ⟨rfl, rfl⟩
  · by_cases h2 : b < a
    · have e : cmZ a b = 1 := by unfold cmZ; rw [if_neg h1, if_pos h2]
      rw [e]; clear e
      go_enter Tryz.func79, Tryz.ntmps79
      go_wp2_with fail
      go_ret
      exact ⟨rfl, rfl⟩
    · have e : cmZ a b = 0 := by unfold cmZ; rw [if_neg h1, if_neg h2]
      rw [e]; clear e
      go_enter Tryz.func79, Tryz.ntmps79
      go_wp2_with fail
      go_ret
      exact ⟨rfl, rfl⟩
theorem rkN_bd (n : Nm) (hi : -1 ≤ n.inf ∧ n.inf ≤ 1) : -2 ≤ rkN n ∧ rkN n ≤ 2 := by
  unfold rkN
  split
  · omega
  · split
    · omega
    · split <;> omega
theorem cmZ_bd (a b : Int) : -1 ≤ cmZ a b ∧ cmZ a b ≤ 1 := by
  by_cases h1 : a < b
  · rw [show cmZ a b = -1 by unfold cmZ; rw [if_pos h1]]; omega
  · by_cases h2 : b < a
    · rw [show cmZ a b = 1 by unfold cmZ; rw [if_neg h1, if_pos h2]]; omega
    · rw [show cmZ a b = 0 by unfold cmZ; rw [if_neg h1, if_neg h2]]; omega
theorem cmB_bd : ∀ (a b : List UInt8), -1 ≤ cmB a b ∧ cmB a b ≤ 1
  | [], [] => by simp [cmB]
  | [], _ :: _ => by simp [cmB]
  | _ :: _, [] => by simp [cmB]
  | x :: l, y :: m => by
    simp only [cmB]
    split
    · omega
    · split
      · omega
      · exact cmB_bd l m
set_option maxHeartbeats 1000000 in
theorem against_calls (n m : Nm) (w : World) (hn : -1 ≤ n.inf ∧ n.inf ≤ 1) (hm : -1 ≤ m.inf ∧ m.inf ≤ 1) :
    Calls Tryz.prog 30 #[n.val, m.val] w fun e w' => e = .returned (.tuple #[.int .i64 (agN n m).1, .bool (agN n m).2]) ∧ Below w.heap.size w w' := by
  have hrn := fun w => rank_calls n w hn
  have hrm := fun w => rank_calls m w hm
  have bn := rkN_bd n hn
  have bm := rkN_bd m hm
  obtain ⟨rn, hrn'⟩ : ∃ r, r = rkN n := ⟨_, rfl⟩
  obtain ⟨rm, hrm'⟩ : ∃ r, r = rkN m := ⟨_, rfl⟩
  rw [← hrn'] at hrn bn
  rw [← hrm'] at hrm bm
  have ag : agN n m = if n.nan = true ∨ m.nan = true then (0, false) else if rn ≠ rm ∨ rn ≠ 1 ∧ rn ≠ -1 then (cmZ rn rm, true) else (rn * (if cmZ n.pw m.pw = 0 then cmB n.dg m.dg else cmZ n.pw m.pw), true) := by
    unfold agN; rw [← hrn', ← hrm']
  have HRN := Lib.hid hrn
  have HRM := Lib.hid hrm
  clear hrn hrm hrn' hrm'
  obtain ⟨b1, d1, p1, i1, a1⟩ := n
  obtain ⟨b2, d2, p2, i2, a2⟩ := m
  unfold Nm.val at HRN HRM ⊢
  dsimp only at HRN HRM ag hn hm ⊢
  by_cases hnan : a1 = true ∨ a2 = true
  · rw [if_pos hnan] at ag
    rw [ag]
    clear ag
    cases a1 with
    | true =>
      clear hnan
      go_enter Tryz.func30, Tryz.ntmps30
      go_wp2_with fail
      go_ret2
      exact ⟨rfl, ((Below.refl _ _).alloc (Nat.le_refl _) _).alloc (by simp) _⟩
    | false =>
      obtain rfl : a2 = true := by simpa using hnan
      clear hnan
      go_enter Tryz.func30, Tryz.ntmps30
      go_wp2_with fail
      go_ret2
      exact ⟨rfl, ((Below.refl _ _).alloc (Nat.le_refl _) _).alloc (by simp) _⟩
  · rw [if_neg hnan] at ag
    obtain rfl : a1 = false := by cases a1 <;> simp_all
    obtain rfl : a2 = false := by cases a2 <;> simp_all
    clear hnan
    have AG := Lib.hid ag
    clear ag
    go_enter Tryz.func30, Tryz.ntmps30
    go_upto_region 3 with fail
    obtain ⟨r1, r2, hb⟩ := box2 w (.cells #[.bool b1, .string ⟨d1.toArray⟩, .int .i64 p1, .int .i64 i1, .bool false] 55) (.cells #[.bool b2, .string ⟨d2.toArray⟩, .int .i64 p2, .int .i64 i2, .bool false] 55)
    generalize World.alloc (World.alloc w _) _ = w2 at r1 r2 hb ⊢
    have hz := lt_of_block r2
    have q1 := Lw.row r1
    have q2 := Lw.row r2
    have x0 := fun x => (row_cell (q1 x) 0)
    have x1 := fun x => (row_cell (q1 x) 1)
    have x2 := fun x => (row_cell (q1 x) 2)
    have x3 := fun x => (row_cell (q1 x) 3)
    have x4 := fun x => (row_cell (q1 x) 4)
    have y0 := fun x => (row_cell (q2 x) 0)
    have y1 := fun x => (row_cell (q2 x) 1)
    have y2 := fun x => (row_cell (q2 x) 2)
    have y3 := fun x => (row_cell (q2 x) 3)
    have y4 := fun x => (row_cell (q2 x) 4)
    simp at x0 x1 x2 x3 x4 y0 y1 y2 y3 y4
    clear q1 q2
    refine wp_region_lw (by kernel_rfl) (by kernel_rfl) ?_
    repeat (go_big_quiet_step (first | exact rfl | (go_at_call 78; with_reducible exact lw_call (HRN.out _)) | (go_at_call 78; with_reducible exact lw_call (HRM.out _))))
    refine wpQuiet_nil ?_
    rintro ⟨w3, hb3⟩
    have u0 := x0 ⟨w3, hb3⟩
    have u1 := x1 ⟨w3, hb3⟩
    have u2 := x2 ⟨w3, hb3⟩
    have v0 := y0 ⟨w3, hb3⟩
    have v1 := y1 ⟨w3, hb3⟩
    have v2 := y2 ⟨w3, hb3⟩
    dsimp only at u0 u1 u2 v0 v1 v2 ⊢
    have hb4 := hb.trans (hb3.mono hb.size)
    clear x0 x1 x2 x3 x4 y0 y1 y2 y3 y4 r1 r2 hb hb3
    have ag := AG.out
    by_cases hne : rn = rm
    · subst hne
      have bne : (rn != rn) = false := by simp
      by_cases h1 : rn = 1 ∨ rn = -1
      · rw [if_neg (by omega)] at ag
        have cb := cmZ_bd p1 p2
        have db := cmB_bd d1 d2
        obtain ⟨cz, hcz⟩ : ∃ c, c = cmZ p1 p2 := ⟨_, rfl⟩
        obtain ⟨cb', hcb⟩ : ∃ c, c = cmB d1 d2 := ⟨_, rfl⟩
        have hoc := fun w => order_calls p1 p2 w
        have hcc := fun w => compare_calls ⟨d1.toArray⟩ ⟨d2.toArray⟩ w
        rw [← hcz] at ag cb hoc
        rw [← hcb] at ag db
        have hcc : ∀ w, Calls Tryz.prog 32 #[.string ⟨d1.toArray⟩, .string ⟨d2.toArray⟩] w fun e w' => e = .returned (.int .i64 cb') ∧ w = w' := fun w => by rw [hcb]; exact hcc w
        have HOC := Lib.hid hoc
        have HCC := Lib.hid hcc
        have HF := Lib.hid ag
        clear hcz hcb hoc hcc ag AG HRN HRM
        by_cases hc0 : cz = 0
        · subst hc0
          have hf := HF.out
          rw [if_pos rfl] at hf
          have HF := Lib.hid hf
          clear hf
          rcases h1 with rfl | rfl
          all_goals
            go_wp2_with (first | (go_at_call 79; (with_reducible refine (HOC.out _).mono ?_); rintro e w' ⟨rfl, rfl⟩) | (go_at_call 32; (with_reducible refine (HCC.out _).mono ?_); rintro e w' ⟨rfl, rfl⟩))
            go_ret2
            first | exact ⟨ret_p HF.out, hb4⟩ | exact ⟨ret_p (HF.out.trans (by simp)), hb4⟩
        · have hf := HF.out
          rw [if_neg hc0] at hf
          have HF := Lib.hid hf
          have hc0' : (cz == 0) = false := by rw [beq_eq_false_iff_ne]; exact hc0
          clear hf
          rcases h1 with rfl | rfl
          all_goals
            go_wp2_with (first | (go_at_call 79; (with_reducible refine (HOC.out _).mono ?_); rintro e w' ⟨rfl, rfl⟩) | (go_at_call 32; (with_reducible refine (HCC.out _).mono ?_); rintro e w' ⟨rfl, rfl⟩))
            go_ret2
            first | exact ⟨ret_p HF.out, hb4⟩ | exact ⟨ret_p (HF.out.trans (by simp)), hb4⟩
      · rw [if_pos (by omega)] at ag
        have HF := Lib.hid ag
        have e1 : (rn != 1) = true := by rw [bne_iff_ne]; omega
        have e2 : (rn != -1) = true := by rw [bne_iff_ne]; omega
        clear ag AG HRN HRM h1
        go_wp2_with (go_at_call 79; refine (order_calls _ _ _).mono ?_; rintro e w' ⟨rfl, rfl⟩)
        go_ret2
        first | exact ⟨ret_p HF.out, hb4⟩ | exact ⟨ret_p (HF.out.trans (by simp)), hb4⟩
    · rw [if_pos (.inl hne)] at ag
      have HF := Lib.hid ag
      have e1 : (rn != rm) = true := by rw [bne_iff_ne]; exact hne
      clear ag AG HRN HRM hne
      go_wp2_with (go_at_call 79; refine (order_calls _ _ _).mono ?_; rintro e w' ⟨rfl, rfl⟩)
      go_ret2
      first | exact ⟨ret_p HF.out, hb4⟩ | exact ⟨ret_p (HF.out.trans (by simp)), hb4⟩
end Go.Proofs.YtlhcejbimlilaaaGreatDoor
