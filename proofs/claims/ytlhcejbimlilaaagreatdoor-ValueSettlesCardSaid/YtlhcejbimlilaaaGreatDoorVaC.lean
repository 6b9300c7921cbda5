/- VaL VaC, laid as one. -/
import Derived.Test.YtlhcejbimlilaaaGreatDoorVaD
import Derived.Test.YtlhcejbimlilaaaGreatDoorQuL
import Derived.Test.YtlhcejbimlilaaaGreatDoorVaU
import Derived.Lib.AtoiErrMem
import Derived.Lib.AtoiAll
import Derived.Sort.Grow
import Derived.Deep.DeepMust
import Derived.Deep.DeepCutAuto
import Derived.Deep.CutBlock
import Derived.Laws.Tables
import Derived.OneCell
set_option linter.unusedVariables false
set_option linter.unusedSimpArgs false
/- The library's functions that chapter 8 calls, in its own words. -/
namespace Go.Tk
open Go Go.RowKit
theorem cmB_lib : ∀ (a b : List UInt8), Lib.compareBytes a b = cmB a b
  | [], [] => rfl
  | [], _ :: _ => rfl
  | _ :: _, [] => rfl
  | x :: a, y :: b => by simp only [Lib.compareBytes, cmB, cmB_lib a b]
theorem ct_none : ∀ {l : List UInt8}, Lib.indexByte l 46 = -1 → ctA l = l ∧ ctB l = []
  | [], _ => ⟨rfl, rfl⟩
  | x :: l, h => by
    have hx : ¬ x = 46 := by rintro rfl; simp [Lib.indexByte] at h
    have e1 : Lib.indexByte (x :: l) 46 = if Lib.indexByte l 46 = -1 then -1 else Lib.indexByte l 46 + 1 := by simp [Lib.indexByte, hx]
    have hg := Lib.indexByte_ge l 46
    have hl : Lib.indexByte l 46 = -1 := by rw [e1] at h; split at h <;> omega
    obtain ⟨a, b⟩ := ct_none hl
    have hb : (x != 46) = true := by simpa using hx
    unfold ctA ctB at *
    rw [List.takeWhile_cons, List.dropWhile_cons, hb]
    exact ⟨by simpa using a, by simpa using b⟩
theorem ct_some : ∀ {l : List UInt8}, 0 ≤ Lib.indexByte l 46 → ctA l = l.take (Lib.indexByte l 46).toNat ∧ ctB l = l.drop ((Lib.indexByte l 46).toNat + 1) ∧ (Lib.indexByte l 46).toNat < l.length
  | [], h => by simp [Lib.indexByte] at h
  | x :: l, h => by
    by_cases hx : x = 46
    · subst hx; simp [Lib.indexByte, ctA, ctB]
    · have e1 : Lib.indexByte (x :: l) 46 = if Lib.indexByte l 46 = -1 then -1 else Lib.indexByte l 46 + 1 := by simp [Lib.indexByte, hx]
      have hg := Lib.indexByte_ge l 46
      have hl : 0 ≤ Lib.indexByte l 46 := by rw [e1] at h; split at h <;> omega
      have e2 : Lib.indexByte (x :: l) 46 = Lib.indexByte l 46 + 1 := by rw [e1, if_neg (by omega)]
      obtain ⟨a, b, c⟩ := ct_some hl
      have hb : (x != 46) = true := by simpa using hx
      have e3 : (Lib.indexByte (x :: l) 46).toNat = (Lib.indexByte l 46).toNat + 1 := by rw [e2]; omega
      rw [e3]
      unfold ctA ctB at *
      rw [List.takeWhile_cons, List.dropWhile_cons, hb]
      exact ⟨by simpa using a, by simpa using b, by simpa using c⟩
theorem anyE (l : List UInt8) : anyI [101, 69] l = if l.any isE = true then ((hdE l).length : Int) else -1 := by
  have hu : ∀ l : List UInt8, unt (among [101, 69]) l = (hdE l).length ∧ (l.any isE = true ↔ (hdE l).length < l.length) := by
    intro l
    induction l with
    | nil => simp [unt, hdE]
    | cons x l ih =>
      have he : among [101, 69] x = isE x := by unfold among isE; rw [List.contains_cons, List.contains_cons, List.contains_nil, Bool.or_false]
      cases hx : isE x with
      | true => rw [unt_yes (by rw [he, hx])]; simp [hdE, hx]
      | false =>
        rw [unt_no (by rw [he, hx]), ih.1]
        constructor
        · simp [hdE, hx]
        · rw [List.any_cons, hx, Bool.false_or, ih.2]; simp [hdE, hx]
  unfold anyI
  rw [(hu l).1]
  by_cases h : l.any isE = true
  · rw [if_pos h, if_pos ((hu l).2.1 h)]
  · rw [if_neg h, if_neg (fun e => h ((hu l).2.2 e))]
theorem hdE_lt {l : List UInt8} (h : l.any isE = true) : (hdE l).length < l.length ∧ hdE l = l.take (hdE l).length ∧ tlE l = l.drop ((hdE l).length + 1) := by
  induction l with
  | nil => simp at h
  | cons x l ih =>
    cases hx : isE x with
    | true => simp [hdE, tlE, hx]
    | false =>
      rw [List.any_cons, hx, Bool.false_or] at h
      obtain ⟨a, b, c⟩ := ih h
      have e1 : hdE (x :: l) = x :: hdE l := by simp [hdE, hx]
      have e2 : tlE (x :: l) = tlE l := by simp [tlE, hx]
      rw [e1, e2]
      refine ⟨by simpa using a, by simpa using b, by rw [c]; simp⟩
theorem digitVal_dg {c : UInt8} (h1 : 48 ≤ c.toNat) (h2 : c.toNat ≤ 57) : Lib.digitVal c = some (c.toNat - 48) := by
  unfold Lib.digitVal
  simp [h1, h2]
theorem dgB_step {c : UInt8} {t : List UInt8} (h : dgB (c :: t) = true) : 48 ≤ c.toNat ∧ c.toNat ≤ 57 ∧ dgB t = true := by
  rw [dgB_cons] at h
  simp at h
  exact ⟨h.1.1, h.1.2, h.2⟩
def numA (acc : Nat) (l : List UInt8) : Nat := l.foldl (fun n c => 10 * n + (c.toNat - 48)) acc
theorem numA_cons (acc : Nat) (c : UInt8) (t : List UInt8) : numA acc (c :: t) = numA (10 * acc + (c.toNat - 48)) t := by unfold numA; rw [List.foldl_cons]
theorem numN_eq (l : List UInt8) : numN l = numA 0 l := rfl
theorem decFrom_num : ∀ (l : List UInt8) (acc : Nat), dgB l = true → Lib.decFrom acc l = some (numA acc l)
  | [], acc, _ => rfl
  | c :: t, acc, h => by
    obtain ⟨h1, h2, h3⟩ := dgB_step h
    rw [numA_cons, Lib.decFrom, digitVal_dg h1 h2]
    simp only
    rw [decFrom_num t _ h3, Nat.mul_comm acc 10]
theorem numA_lt : ∀ (l : List UInt8) (acc : Nat), dgB l = true → numA acc l < (acc + 1) * 10 ^ l.length
  | [], acc, _ => by simp [numA]
  | c :: t, acc, h => by
    obtain ⟨h1, h2, h3⟩ := dgB_step h
    rw [numA_cons]
    have := numA_lt t (10 * acc + (c.toNat - 48)) h3
    rw [List.length_cons, Nat.pow_succ]
    have h4 : (10 * acc + (c.toNat - 48) + 1) ≤ (acc + 1) * 10 := by omega
    calc numA (10 * acc + (c.toNat - 48)) t < (10 * acc + (c.toNat - 48) + 1) * 10 ^ t.length := this
      _ ≤ ((acc + 1) * 10) * 10 ^ t.length := Nat.mul_le_mul_right _ h4
      _ = (acc + 1) * (10 ^ t.length * 10) := by rw [Nat.mul_assoc, Nat.mul_comm 10]
theorem pow10_mono {a b : Nat} (h : a ≤ b) : 10 ^ a ≤ 10 ^ b := Nat.pow_le_pow_right (by omega) h
theorem numN_lt (l : List UInt8) (h : dgB l = true) (hl : l.length ≤ 9) : numN l < 1000000000 := by
  have h1 := numA_lt l 0 h
  have h2 := pow10_mono hl
  rw [numN_eq]
  simp at h1 h2
  omega
theorem parseM_num : ∀ (l : List UInt8) (acc : Nat), dgB l = true → (acc + 1) * 10 ^ l.length ≤ 1000000000000000000 → Lib.parseUintM (2 ^ 64 - 1) acc l = .ok (numA acc l)
  | [], acc, _, _ => rfl
  | c :: t, acc, h, hb => by
    obtain ⟨h1, h2, h3⟩ := dgB_step h
    rw [List.length_cons, Nat.pow_succ] at hb
    have hp : 1 ≤ 10 ^ t.length := Nat.one_le_pow _ _ (by omega)
    have h4 : (10 * acc + (c.toNat - 48) + 1) ≤ (acc + 1) * 10 := by omega
    have h5 : (10 * acc + (c.toNat - 48) + 1) * 10 ^ t.length ≤ 1000000000000000000 := by
      refine Nat.le_trans (Nat.mul_le_mul_right _ h4) ?_
      rw [Nat.mul_assoc, Nat.mul_comm 10]; exact hb
    have h6 : 10 * acc + (c.toNat - 48) + 1 ≤ 1000000000000000000 := Nat.le_trans (Nat.le_mul_of_pos_right _ hp) h5
    rw [numA_cons, Lib.parseUintM, if_pos ⟨h1, h2⟩, if_neg (by omega), if_neg (by omega), Nat.mul_comm acc 10]
    exact parseM_num t _ h3 h5
theorem rep0_lib : ∀ n : Nat, Lib.repeatL [48] n = rep0 n
  | 0 => rfl
  | n + 1 => by simp [Lib.repeatL, rep0_lib n, rep0, List.replicate_succ]
theorem below_grow {a w : World} (h : Below a.heap.size a w) (os : Array Obj) : Below a.heap.size a (Sort.grow w os) :=
  ⟨h.os, h.tape, h.output, by have := h.size; simp [Sort.grow]; omega, fun k hk => by
    have h1 := h.block k hk
    show (w.heap ++ os)[k]? = _
    rw [Array.getElem?_append_left (Nat.lt_of_lt_of_le hk h.size)]; exact h1⟩
end Go.Tk
namespace Go.Proofs.YtlhcejbimlilaaaGreatDoor
open Go.RowKit Go.Tk
theorem compare_calls (a b : ByteArray) (w : World) : Calls Tryz.prog 32 #[.string a, .string b] w fun e w' => e = .returned (.int .i64 (cmB a.data.toList b.data.toList)) ∧ w = w' :=
  (Tryz.strings_Compare a b w).mono fun _ _ ⟨h, h2⟩ => ⟨by rw [h, cmB_lib], h2.symm⟩
theorem trimL_calls (s : ByteArray) (w : World) : Calls Tryz.prog 134 #[.string s, .string ⟨#[48]⟩] w fun e w' => e = .returned (.string ⟨(tl0 s.data.toList).toArray⟩) ∧ w = w' :=
  (Tryz.strings_TrimLeft_one s 48 (by decide) w).mono fun _ _ ⟨h, h2⟩ => ⟨h, h2.symm⟩
theorem trimR_calls (s : ByteArray) (w : World) (hs : s.size ≤ 9223372036854775807) : Calls Tryz.prog 82 #[.string s, .string ⟨#[48]⟩] w fun e w' => e = .returned (.string ⟨(tr0 s.data.toList).toArray⟩) ∧ w = w' :=
  (Tryz.strings_TrimRight_one s 48 (by decide) w hs).mono fun _ _ ⟨h, h2⟩ => ⟨h, h2.symm⟩
theorem rep_calls (n : Int) (w : World) (h0 : 0 ≤ n) (h1 : n ≤ 140737488355328) : Calls Tryz.prog 135 #[.string ⟨#[48]⟩, .int .i64 n] w fun e w' => e = .returned (.string ⟨(rep0 n.toNat).toArray⟩) ∧ Below w.heap.size w w' := by
  have h := Tryz.strings_Repeat ⟨#[48]⟩ n.toNat w (by omega) (by show 1 * n.toNat ≤ _; omega)
  rw [show ((n.toNat : Nat) : Int) = n by omega] at h
  exact h.mono fun _ _ ⟨a, b⟩ => ⟨by rw [a]; show Ending.returned (.string ⟨(Lib.repeatL [48] n.toNat).toArray⟩) = _; rw [rep0_lib], b⟩
theorem scut_calls (s : ByteArray) (w : World) (hs : s.size ≤ 9223372036854770000) : Calls Tryz.prog 133 #[.string s, .string ⟨#[46]⟩] w fun e w' => (∃ b : Bool, e = .returned (.tuple #[.string ⟨(ctA s.data.toList).toArray⟩, .string ⟨(ctB s.data.toList).toArray⟩, .bool b])) ∧ ∃ n, w' = w.drewN n := by
  have hix := fun w => Tryz.stringslite_Index_one s 46 w
  obtain ⟨k, hk⟩ : ∃ k, k = Lib.indexByte s.data.toList 46 := ⟨_, rfl⟩
  have hkg := Lib.indexByte_ge s.data.toList 46
  rw [← hk] at hix hkg
  have HIX := Lib.hid hix
  by_cases hn : k = -1
  · obtain ⟨e1, e2⟩ := ct_none (hk.symm.trans hn)
    rw [e1, e2, str_mk]
    subst hn
    clear hix hk e1 e2 hkg
    go_enter Tryz.func133, Tryz.ntmps133
    go_wp2_with (go_at_call 161; refine (HIX.out _).mono ?_; rintro e w' ⟨rfl, rfl⟩)
    refine bodyPost_ret (v := .tuple #[.string s, .string ⟨#[]⟩, .bool false]) (by simp [results, Tryz.results133, go_sem]) rfl ⟨⟨false, rfl⟩, 0, rfl⟩
  · have hk0 : 0 ≤ k := by omega
    obtain ⟨e1, e2, e3⟩ := ct_some (l := s.data.toList) (by rw [← hk]; exact hk0)
    rw [← hk] at e1 e2 e3
    rw [← Lib.size_eq] at e3
    obtain ⟨m, rfl⟩ : ∃ m : Nat, k = m := ⟨k.toNat, by omega⟩
    rw [Int.toNat_natCast] at e1 e2 e3
    have h1 := ex_take s m
    have h2 := ex_drop s (m + 1)
    rw [e1, e2, ← h1, ← h2]
    have hw1 : IntKind.i64.wrap ((m : Int) + 1) = (m : Int) + 1 := by rw [IntKind.wrap_i64]; omega
    have ht : ((m : Int) + 1).toNat = m + 1 := by omega
    clear hix hk e1 e2 hkg hn h1 h2
    go_enter Tryz.func133, Tryz.ntmps133
    go_wp2_with (go_at_call 161; refine (HIX.out _).mono ?_; rintro e w' ⟨rfl, rfl⟩)
    go_quiet (fail)
    go_wp2_with fail
    refine bodyPost_ret (v := .tuple #[.string (s.extract 0 m), .string (s.extract (m + 1) s.size), .bool true]) (by simp [results, Tryz.results133, go_sem]) rfl ⟨⟨true, rfl⟩, _, rfl⟩
theorem cut_calls (s : ByteArray) (w : World) (hs : s.size ≤ 9223372036854770000) : Calls Tryz.prog 95 #[.string s, .string ⟨#[46]⟩] w fun e w' => (∃ b : Bool, e = .returned (.tuple #[.string ⟨(ctA s.data.toList).toArray⟩, .string ⟨(ctB s.data.toList).toArray⟩, .bool b])) ∧ ∃ n, w' = w.drewN n := by
  have h := fun w => scut_calls s w hs
  have H := Lib.hid h
  clear h
  go_enter Tryz.func95, Tryz.ntmps95
  go_wp2_with (go_at_call 133; refine (H.out _).mono ?_; rintro e w' ⟨⟨b, rfl⟩, n, rfl⟩)
  refine bodyPost_ret (v := .tuple #[.string ⟨(ctA s.data.toList).toArray⟩, .string ⟨(ctB s.data.toList).toArray⟩, .bool b]) (by simp [results, Tryz.results95, go_sem]) rfl ⟨⟨b, rfl⟩, n, rfl⟩
theorem atoi_calls (s : ByteArray) (w : World) (hd : dgB s.data.toList = true) (h0 : s.data.toList ≠ []) (h9 : s.data.toList.length ≤ 9) :
    Calls Tryz.prog 100 #[.string s] w fun e w' => e = .returned (.tuple #[.int .i64 (numN s.data.toList : Nat), .nilIface]) ∧ Below w.heap.size w w' := by
  have ha : Lib.atoi s.data.toList = some ((numN s.data.toList : Nat) : Int) := by
    cases hl : s.data.toList with
    | nil => exact absurd hl h0
    | cons c t =>
      rw [hl] at hd
      obtain ⟨h1, h2, h3⟩ := dgB_step hd
      have n1 : (c == 45) = false := u8_ne (n := 45) (by omega) (by omega)
      have n2 : (c == 43) = false := u8_ne (n := 43) (by omega) (by omega)
      simp only [Lib.atoi, n1, n2, Lib.decNat, List.isEmpty_cons, decFrom_num _ 0 hd]
      rfl
  exact (Tryz.strconv_Atoi s _ (by rw [Lib.size_eq]; omega) ha w).mono fun _ _ ⟨h, t, ht⟩ => ⟨h, by rw [ht]; exact Lib.bytesWorld_below _ _ _⟩
theorem parse_calls (s : ByteArray) (w : World) (hd : dgB s.data.toList = true) (h0 : s.data.toList ≠ []) (h9 : s.data.toList.length ≤ 9) :
    Calls Tryz.prog 124 #[.string s, .int .i64 10, .int .i64 64] w fun e w' => e = .returned (.tuple #[.int .i64 (numN s.data.toList : Nat), .nilIface]) ∧ Below w.heap.size w w' := by
  have hlt := numN_lt _ hd h9
  have ha : Lib.parseIntB 64 s.data.toList = .ok ((numN s.data.toList : Nat) : Int) := by
    cases hl : s.data.toList with
    | nil => exact absurd hl h0
    | cons c t =>
      rw [hl] at hd hlt h9
      obtain ⟨h1, h2, h3⟩ := dgB_step hd
      have hp := parseM_num (c :: t) 0 hd (by have := pow10_mono h9; simp at this ⊢; omega)
      rw [← numN_eq] at hp
      have hpu : Lib.parseUintB 64 (c :: t) = .ok (numN (c :: t)) := by unfold Lib.parseUintB; rw [if_neg (by simp)]; exact hp
      simp only [Lib.parseIntB]
      rw [if_neg (show ¬ (c.toNat = 43 ∨ c.toNat = 45) by omega), hpu]
      simp only
      rw [if_neg (by omega), if_neg (by omega), if_neg (by omega)]
  refine (Tryz.strconv_ParseInt_10_at64_ok s (by rw [Lib.size_eq]; omega) _ ha w).mono fun _ w' ⟨h, ht⟩ => ⟨h, ?_⟩
  rcases ht with rfl | ⟨t, rfl⟩
  · exact Below.refl _ _
  · exact Lib.bytesWorld_below _ _ _
/-- The library's table of powers is laid. -/
def Pow (w : World) : Prop := Lib.TabIs Tryz.prog w "internal/strconv.uint64pow10" .u64 Lib.pow10Tab
theorem Pow.below {w w' : World} (h : Pow w) (hb : Below w.heap.size w w') : Pow w' := by
  unfold Pow Lib.TabIs World.var? at h ⊢
  obtain ⟨g, hg, h2⟩ := Option.bind_eq_some_iff.1 h
  rw [hg]
  show (match w'.heap[g]? with | some (.cells cs _ _) => some cs | _ => none) = _
  cases hc : w.heap[g]? with
  | none => rw [hc] at h2; cases h2
  | some o =>
    have hlt := (Array.getElem?_eq_some_iff.1 hc).1
    rw [hb.block g hlt]
    exact h2
theorem itoa_calls (n : Int) (w : World) (hp : Pow w) (h0 : -9223372036854775808 ≤ n) (h1 : n ≤ 9223372036854775807) : Calls Tryz.prog 141 #[.int .i64 n] w fun e w' => e = .returned (.string ⟨(Lib.itoa n).toArray⟩) ∧ Below w.heap.size w w' :=
  (Tryz.strconv_Itoa n h0 h1 w hp).mono fun _ _ ⟨h, k, os, hw⟩ => ⟨h, by rw [hw]; exact below_grow (below_drewN (Below.refl _ _) k) os⟩
theorem fmt_calls (n : Int) (w : World) (hp : Pow w) (h0 : -9223372036854775808 ≤ n) (h1 : n ≤ 9223372036854775807) : Calls Tryz.prog 178 #[.int .i64 n, .int .i64 10] w fun e w' => e = .returned (.string ⟨(Lib.itoa n).toArray⟩) ∧ Below w.heap.size w w' :=
  (Tryz.strconv_FormatInt_10 n h0 h1 w hp).mono fun _ _ ⟨h, k, os, hw⟩ => ⟨h, by rw [hw]; exact below_grow (below_drewN (Below.refl _ _) k) os⟩
theorem anyE_calls (s : ByteArray) (w : World) (hs : s.size < 4294967281) : Calls Tryz.prog 99 #[.string s, .string ⟨#[101, 69]⟩] w fun e w' => e = .returned (.int .i64 (if s.data.toList.any isE = true then ((hdE s.data.toList).length : Int) else -1)) ∧ Below w.heap.size w w' := by
  have h := indexAny_calls s ⟨#[101, 69]⟩ w hs (fun b hb => by
    have : b = 101 ∨ b = 69 := by simpa using hb
    rcases this with rfl | rfl <;> decide) (by decide) (by decide)
  exact h.mono fun _ _ ⟨a, b⟩ => ⟨by rw [a, ← anyE], b⟩
end Go.Proofs.YtlhcejbimlilaaaGreatDoor
/- The program's numbers held against each other: rank, order, against. -/

namespace Go.Tk
open Go Go.RowKit
theorem ret_p {q : Int × Bool} {a : Int} {x : Bool} (h : q = (a, x)) : Ending.returned (.tuple #[.int .i64 a, .bool x]) = .returned (.tuple #[.int .i64 q.1, .bool q.2]) := by rw [h]
theorem emp_iff (l : List UInt8) : ((⟨l.toArray⟩ : ByteArray).toList == []) = l.isEmpty := by
  rw [Lib.toList_data]; cases l <;> rfl
end Go.Tk
namespace Go.Proofs.YtlhcejbimlilaaaGreatDoor
open Go.RowKit Go.Tk
theorem rank_calls (n : Nm) (w : World) (hi : -1 ≤ n.inf ∧ n.inf ≤ 1) :
    Calls Tryz.prog 78 #[n.val] w fun e w' => e = .returned (.int .i64 (rkN n)) ∧ Below w.heap.size w w' := by
  obtain ⟨b, dg, pw, inf, nan⟩ := n
  obtain ⟨h1, h2⟩ := hi
  unfold Nm.val
  dsimp only at h1 h2 ⊢
  by_cases hz : inf = 0
  · subst hz
    cases dg with
    | nil =>
      have e : rkN ⟨b, [], pw, 0, nan⟩ = 0 := rfl
      rw [e]
      clear e
      go_enter Tryz.func78, Tryz.ntmps78
      go_wp2_with fail
      go_ret
      exact ⟨rfl, (Below.refl _ _).alloc (Nat.le_refl _) _⟩
    | cons c t =>
      have he := emp_iff (c :: t)
      obtain ⟨d, hd⟩ : ∃ d : ByteArray, d = ⟨(c :: t).toArray⟩ := ⟨_, rfl⟩
      rw [← hd] at he ⊢
      have he' : (d.toList == []) = false := he
      cases b with
      | true =>
        have e : rkN ⟨true, c :: t, pw, 0, nan⟩ = -1 := rfl
        rw [e]
        clear e hd he
        go_enter Tryz.func78, Tryz.ntmps78
        go_wp2_with fail
        go_ret
        exact ⟨rfl, (Below.refl _ _).alloc (Nat.le_refl _) _⟩
      | false =>
        have e : rkN ⟨false, c :: t, pw, 0, nan⟩ = 1 := rfl
        rw [e]
        clear e hd he
        go_enter Tryz.func78, Tryz.ntmps78
        go_wp2_with fail
        go_ret
        exact ⟨rfl, (Below.refl _ _).alloc (Nat.le_refl _) _⟩
  · have e : rkN ⟨b, dg, pw, inf, nan⟩ = 2 * inf := by unfold rkN; exact if_pos hz
    rw [e]
    have hb : (inf != 0) = true := by rw [bne_iff_ne]; exact hz
    clear e hz
    go_enter Tryz.func78, Tryz.ntmps78
    go_wp2_with fail
    go_ret
    exact ⟨rfl, (Below.refl _ _).alloc (Nat.le_refl _) _⟩
theorem order_calls (a b : Int) (w : World) :
    Calls Tryz.prog 79 #[.int .i64 a, .int .i64 b] w fun e w' => e = .returned (.int .i64 (cmZ a b)) ∧ w = w' := by
  by_cases h1 : a < b
  · have e : cmZ a b = -1 := by unfold cmZ; rw [if_pos h1]
    rw [e]; clear e
    go_enter Tryz.func79, Tryz.ntmps79
    go_wp2_with fail
    go_ret
    exact ⟨rfl, rfl⟩
  · by_cases h2 : b < a
    · have e : cmZ a b = 1 := by unfold cmZ; rw [if_neg h1, if_pos h2]
      rw [e]; clear e
      go_enter Tryz.func79, Tryz.ntmps79
      go_wp2_with fail
      go_ret
      exact ⟨rfl, rfl⟩
    · have e : cmZ a b = 0 := by unfold cmZ; rw [if_neg h1, if_neg h2]
      rw [e]; clear e
      go_enter Tryz.func79, Tryz.ntmps79
      go_wp2_with fail
      go_ret
      exact ⟨rfl, rfl⟩
theorem rkN_bd (n : Nm) (hi : -1 ≤ n.inf ∧ n.inf ≤ 1) : -2 ≤ rkN n ∧ rkN n ≤ 2 := by
  unfold rkN
  split
  · omega
  · split
    · omega
    · split <;> omega
theorem cmZ_bd (a b : Int) : -1 ≤ cmZ a b ∧ cmZ a b ≤ 1 := by
  by_cases h1 : a < b
  · rw [show cmZ a b = -1 by unfold cmZ; rw [if_pos h1]]; omega
  · by_cases h2 : b < a
    · rw [show cmZ a b = 1 by unfold cmZ; rw [if_neg h1, if_pos h2]]; omega
    · rw [show cmZ a b = 0 by unfold cmZ; rw [if_neg h1, if_neg h2]]; omega
theorem cmB_bd : ∀ (a b : List UInt8), -1 ≤ cmB a b ∧ cmB a b ≤ 1
  | [], [] => by simp [cmB]
  | [], _ :: _ => by simp [cmB]
  | _ :: _, [] => by simp [cmB]
  | x :: l, y :: m => by
    simp only [cmB]
    split
    · omega
    · split
      · omega
      · exact cmB_bd l m
set_option maxHeartbeats 1000000 in
theorem against_calls (n m : Nm) (w : World) (hn : -1 ≤ n.inf ∧ n.inf ≤ 1) (hm : -1 ≤ m.inf ∧ m.inf ≤ 1) :
    Calls Tryz.prog 30 #[n.val, m.val] w fun e w' => e = .returned (.tuple #[.int .i64 (agN n m).1, .bool (agN n m).2]) ∧ Below w.heap.size w w' := by
  have hrn := fun w => rank_calls n w hn
  have hrm := fun w => rank_calls m w hm
  have bn := rkN_bd n hn
  have bm := rkN_bd m hm
  obtain ⟨rn, hrn'⟩ : ∃ r, r = rkN n := ⟨_, rfl⟩
  obtain ⟨rm, hrm'⟩ : ∃ r, r = rkN m := ⟨_, rfl⟩
  rw [← hrn'] at hrn bn
  rw [← hrm'] at hrm bm
  have ag : agN n m = if n.nan = true ∨ m.nan = true then (0, false) else if rn ≠ rm ∨ rn ≠ 1 ∧ rn ≠ -1 then (cmZ rn rm, true) else (rn * (if cmZ n.pw m.pw = 0 then cmB n.dg m.dg else cmZ n.pw m.pw), true) := by
    unfold agN; rw [← hrn', ← hrm']
  have HRN := Lib.hid hrn
  have HRM := Lib.hid hrm
  clear hrn hrm hrn' hrm'
  obtain ⟨b1, d1, p1, i1, a1⟩ := n
  obtain ⟨b2, d2, p2, i2, a2⟩ := m
  unfold Nm.val at HRN HRM ⊢
  dsimp only at HRN HRM ag hn hm ⊢
  by_cases hnan : a1 = true ∨ a2 = true
  · rw [if_pos hnan] at ag
    rw [ag]
    clear ag
    cases a1 with
    | true =>
      clear hnan
      go_enter Tryz.func30, Tryz.ntmps30
      go_wp2_with fail
      go_ret2
      exact ⟨rfl, ((Below.refl _ _).alloc (Nat.le_refl _) _).alloc (by simp) _⟩
    | false =>
      obtain rfl : a2 = true := by simpa using hnan
      clear hnan
      go_enter Tryz.func30, Tryz.ntmps30
      go_wp2_with fail
      go_ret2
      exact ⟨rfl, ((Below.refl _ _).alloc (Nat.le_refl _) _).alloc (by simp) _⟩
  · rw [if_neg hnan] at ag
    obtain rfl : a1 = false := by cases a1 <;> simp_all
    obtain rfl : a2 = false := by cases a2 <;> simp_all
    clear hnan
    have AG := Lib.hid ag
    clear ag
    go_enter Tryz.func30, Tryz.ntmps30
    go_upto_region 3 with fail
    obtain ⟨r1, r2, hb⟩ := box2 w (.cells #[.bool b1, .string ⟨d1.toArray⟩, .int .i64 p1, .int .i64 i1, .bool false] 55) (.cells #[.bool b2, .string ⟨d2.toArray⟩, .int .i64 p2, .int .i64 i2, .bool false] 55)
    generalize World.alloc (World.alloc w _) _ = w2 at r1 r2 hb ⊢
    have hz := lt_of_block r2
    have q1 := Lw.row r1
    have q2 := Lw.row r2
    have x0 := fun x => (row_cell (q1 x) 0)
    have x1 := fun x => (row_cell (q1 x) 1)
    have x2 := fun x => (row_cell (q1 x) 2)
    have x3 := fun x => (row_cell (q1 x) 3)
    have x4 := fun x => (row_cell (q1 x) 4)
    have y0 := fun x => (row_cell (q2 x) 0)
    have y1 := fun x => (row_cell (q2 x) 1)
    have y2 := fun x => (row_cell (q2 x) 2)
    have y3 := fun x => (row_cell (q2 x) 3)
    have y4 := fun x => (row_cell (q2 x) 4)
    simp at x0 x1 x2 x3 x4 y0 y1 y2 y3 y4
    clear q1 q2
    refine wp_region_lw (by kernel_rfl) (by kernel_rfl) ?_
    repeat (go_big_quiet_step (first | exact rfl | (go_at_call 78; with_reducible exact lw_call (HRN.out _)) | (go_at_call 78; with_reducible exact lw_call (HRM.out _))))
    refine wpQuiet_nil ?_
    rintro ⟨w3, hb3⟩
    have u0 := x0 ⟨w3, hb3⟩
    have u1 := x1 ⟨w3, hb3⟩
    have u2 := x2 ⟨w3, hb3⟩
    have v0 := y0 ⟨w3, hb3⟩
    have v1 := y1 ⟨w3, hb3⟩
    have v2 := y2 ⟨w3, hb3⟩
    dsimp only at u0 u1 u2 v0 v1 v2 ⊢
    have hb4 := hb.trans (hb3.mono hb.size)
    clear x0 x1 x2 x3 x4 y0 y1 y2 y3 y4 r1 r2 hb hb3
    have ag := AG.out
    by_cases hne : rn = rm
    · subst hne
      have bne : (rn != rn) = false := by simp
      by_cases h1 : rn = 1 ∨ rn = -1
      · rw [if_neg (by omega)] at ag
        have cb := cmZ_bd p1 p2
        have db := cmB_bd d1 d2
        obtain ⟨cz, hcz⟩ : ∃ c, c = cmZ p1 p2 := ⟨_, rfl⟩
        obtain ⟨cb', hcb⟩ : ∃ c, c = cmB d1 d2 := ⟨_, rfl⟩
        have hoc := fun w => order_calls p1 p2 w
        have hcc := fun w => compare_calls ⟨d1.toArray⟩ ⟨d2.toArray⟩ w
        rw [← hcz] at ag cb hoc
        rw [← hcb] at ag db
        have hcc : ∀ w, Calls Tryz.prog 32 #[.string ⟨d1.toArray⟩, .string ⟨d2.toArray⟩] w fun e w' => e = .returned (.int .i64 cb') ∧ w = w' := fun w => by rw [hcb]; exact hcc w
        have HOC := Lib.hid hoc
        have HCC := Lib.hid hcc
        have HF := Lib.hid ag
        clear hcz hcb hoc hcc ag AG HRN HRM
        by_cases hc0 : cz = 0
        · subst hc0
          have hf := HF.out
          rw [if_pos rfl] at hf
          have HF := Lib.hid hf
          clear hf
          rcases h1 with rfl | rfl
          all_goals
            go_wp2_with (first | (go_at_call 79; (with_reducible refine (HOC.out _).mono ?_); rintro e w' ⟨rfl, rfl⟩) | (go_at_call 32; (with_reducible refine (HCC.out _).mono ?_); rintro e w' ⟨rfl, rfl⟩))
            go_ret2
            first | exact ⟨ret_p HF.out, hb4⟩ | exact ⟨ret_p (HF.out.trans (by simp)), hb4⟩
        · have hf := HF.out
          rw [if_neg hc0] at hf
          have HF := Lib.hid hf
          have hc0' : (cz == 0) = false := by rw [beq_eq_false_iff_ne]; exact hc0
          clear hf
          rcases h1 with rfl | rfl
          all_goals
            go_wp2_with (first | (go_at_call 79; (with_reducible refine (HOC.out _).mono ?_); rintro e w' ⟨rfl, rfl⟩) | (go_at_call 32; (with_reducible refine (HCC.out _).mono ?_); rintro e w' ⟨rfl, rfl⟩))
            go_ret2
            first | exact ⟨ret_p HF.out, hb4⟩ | exact ⟨ret_p (HF.out.trans (by simp)), hb4⟩
      · rw [if_pos (by omega)] at ag
        have HF := Lib.hid ag
        have e1 : (rn != 1) = true := by rw [bne_iff_ne]; omega
        have e2 : (rn != -1) = true := by rw [bne_iff_ne]; omega
        clear ag AG HRN HRM h1
        go_wp2_with (go_at_call 79; refine (order_calls _ _ _).mono ?_; rintro e w' ⟨rfl, rfl⟩)
        go_ret2
        first | exact ⟨ret_p HF.out, hb4⟩ | exact ⟨ret_p (HF.out.trans (by simp)), hb4⟩
    · rw [if_pos (.inl hne)] at ag
      have HF := Lib.hid ag
      have e1 : (rn != rm) = true := by rw [bne_iff_ne]; exact hne
      clear ag AG HRN HRM hne
      go_wp2_with (go_at_call 79; refine (order_calls _ _ _).mono ?_; rintro e w' ⟨rfl, rfl⟩)
      go_ret2
      first | exact ⟨ret_p HF.out, hb4⟩ | exact ⟨ret_p (HF.out.trans (by simp)), hb4⟩
end Go.Proofs.YtlhcejbimlilaaaGreatDoor
