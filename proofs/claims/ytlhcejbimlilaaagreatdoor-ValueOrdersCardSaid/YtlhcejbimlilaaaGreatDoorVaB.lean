/- VaL VaB, laid as one. -/
import Derived.Test.YtlhcejbimlilaaaGreatDoorVaD
import Derived.Test.YtlhcejbimlilaaaGreatDoorQuL
import Derived.Test.YtlhcejbimlilaaaGreatDoorVaU
import Derived.Lib.AtoiErrMem
import Derived.Lib.AtoiAll
import Derived.Sort.Grow
import Derived.Deep.DeepMust
import Derived.Deep.DeepCutAuto
import Derived.Deep.CutBlock
import Derived.Laws.Tables
import Derived.OneCell
set_option linter.unusedVariables false
set_option linter.unusedSimpArgs false
/- The library's functions that chapter 8 calls, in its own words. -/
namespace Go.Tk
open Go Go.RowKit
theorem cmB_lib : ∀ (a b : List UInt8), Lib.compareBytes a b = cmB a b
  | [], [] => rfl
  | [], _ :: _ => rfl
  | _ :: _, [] => rfl
  | x :: a, y :: b => by simp only [Lib.compareBytes, cmB, cmB_lib a b]
theorem ct_none : ∀ {l : List UInt8}, Lib.indexByte l 46 = -1 → ctA l = l ∧ ctB l = []
  | [], _ => ⟨rfl, rfl⟩
  | x :: l, h => by
    have hx : ¬ x = 46 := by rintro rfl; simp [Lib.indexByte] at h
    have e1 : Lib.indexByte (x :: l) 46 = if Lib.indexByte l 46 = -1 then -1 else Lib.indexByte l 46 + 1 := by simp [Lib.indexByte, hx]
    have hg := Lib.indexByte_ge l 46
    have hl : Lib.indexByte l 46 = -1 := by rw [e1] at h; split at h <;> omega
    obtain ⟨a, b⟩ := ct_none hl
    have hb : (x != 46) = true := by simpa using hx
    unfold ctA ctB at *
    rw [List.takeWhile_cons, List.dropWhile_cons, hb]
    exact ⟨by simpa using a, by simpa using b⟩
theorem ct_some : ∀ {l : List UInt8}, 0 ≤ Lib.indexByte l 46 → ctA l = l.take (Lib.indexByte l 46).toNat ∧ ctB l = l.drop ((Lib.indexByte l 46).toNat + 1) ∧ (Lib.indexByte l 46).toNat < l.length
  | [], h => by simp [Lib.indexByte] at h
  | x :: l, h => by
    by_cases hx : x = 46
    · subst hx; simp [Lib.indexByte, ctA, ctB]
    · have e1 : Lib.indexByte (x :: l) 46 = if Lib.indexByte l 46 = -1 then -1 else Lib.indexByte l 46 + 1 := by simp [Lib.indexByte, hx]
      have hg := Lib.indexByte_ge l 46
      have hl : 0 ≤ Lib.indexByte l 46 := by rw [e1] at h; split at h <;> omega
      have e2 : Lib.indexByte (x :: l) 46 = Lib.indexByte l 46 + 1 := by rw [e1, if_neg (by omega)]
      obtain ⟨a, b, c⟩ := ct_some hl
      have hb : (x != 46) = true := by simpa using hx
      have e3 : (Lib.indexByte (x :: l) 46).toNat = (Lib.indexByte l 46).toNat + 1 := by rw [e2]; omega
      rw [e3]
      unfold ctA ctB at *
      rw [List.takeWhile_cons, List.dropWhile_cons, hb]
      exact ⟨by simpa using a, by simpa using b, by simpa using c⟩
theorem anyE (l : List UInt8) : anyI [101, 69] l = if l.any isE = true then ((hdE l).length : Int) else -1 := by
  have hu : ∀ l : List UInt8, unt (among [101, 69]) l = (hdE l).length ∧ (l.any isE = true ↔ (hdE l).length < l.length) := by
    intro l
    induction l with
    | nil => simp [unt, hdE]
    | cons x l ih =>
      have he : among [101, 69] x = isE x := by unfold among isE; rw [List.contains_cons, List.contains_cons, List.contains_nil, Bool.or_false]
      cases hx : isE x with
      | true => rw [unt_yes (by rw [he, hx])]; simp [hdE, hx]
      | false =>
        rw [unt_no (by rw [he, hx]), ih.1]
        constructor
        · simp [hdE, hx]
        · rw [List.any_cons, hx, Bool.false_or, ih.2]; simp [hdE, hx]
  unfold anyI
  rw [(hu l).1]
  by_cases h : l.any isE = true
  · rw [if_pos h, if_pos ((hu l).2.1 h)]
  · rw [if_neg h, if_neg (fun e => h ((hu l).2.2 e))]
theorem hdE_lt {l : List UInt8} (h : l.any isE = true) : (hdE l).length < l.length ∧ hdE l = l.take (hdE l).length ∧ tlE l = l.drop ((hdE l).length + 1) := by
  induction l with
  | nil => simp at h
  | cons x l ih =>
    cases hx : isE x with
    | true => simp [hdE, tlE, hx]
    | false =>
      rw [List.any_cons, hx, Bool.false_or] at h
      obtain ⟨a, b, c⟩ := ih h
      have e1 : hdE (x :: l) = x :: hdE l := by simp [hdE, hx]
      have e2 : tlE (x :: l) = tlE l := by simp [tlE, hx]
      rw [e1, e2]
      refine ⟨by simpa using a, by simpa using b, by rw [c]; simp⟩
theorem digitVal_dg {c : UInt8} (h1 : 48 ≤ c.toNat) (h2 : c.toNat ≤ 57) : Lib.digitVal c = some (c.toNat - 48) := by
  unfold Lib.digitVal
  simp [h1, h2]
theorem dgB_step {c : UInt8} {t : List UInt8} (h : dgB (c :: t) = true) : 48 ≤ c.toNat ∧ c.toNat ≤ 57 ∧ dgB t = true := by
  rw [dgB_cons] at h
  simp at h
  exact ⟨h.1.1, h.1.2, h.2⟩
def numA (acc : Nat) (l : List UInt8) : Nat := l.foldl (fun n c => 10 * n + (c.toNat - 48)) acc
theorem numA_cons (acc : Nat) (c : UInt8) (t : List UInt8) : numA acc (c :: t) = numA (10 * acc + (c.toNat - 48)) t := by unfold numA; rw [List.foldl_cons]
theorem numN_eq (l : List UInt8) : numN l = numA 0 l := rfl
theorem decFrom_num : ∀ (l : List UInt8) (acc : Nat), dgB l = true → Lib.decFrom acc l = some (numA acc l)
  | [], acc, _ => rfl
  | c :: t, acc, h => by
    obtain ⟨h1, h2, h3⟩ := dgB_step h
    rw [numA_cons, Lib.decFrom, digitVal_dg h1 h2]
    simp only
    rw [decFrom_num t _ h3, Nat.mul_comm acc 10]
theorem numA_lt : ∀ (l : List UInt8) (acc : Nat), dgB l = true → numA acc l < (acc + 1) * 10 ^ l.length
  | [], acc, _ => by simp [numA]
  | c :: t, acc, h => by
    obtain ⟨h1, h2, h3⟩ := dgB_step h
    rw [numA_cons]
    have := numA_lt t (10 * acc + (c.toNat - 48)) h3
    rw [List.length_cons, Nat.pow_succ]
    have h4 : (10 * acc + (c.toNat - 48) + 1) ≤ (acc + 1) * 10 := by omega
    calc numA (10 * acc + (c.toNat - 48)) t < (10 * acc + (c.toNat - 48) + 1) * 10 ^ t.length := this
      _ ≤ ((acc + 1) * 10) * 10 ^ t.length := Nat.mul_le_mul_right _ h4
      _ = (acc + 1) * (10 ^ t.length * 10) := by rw [Nat.mul_assoc, Nat.mul_comm 10]
theorem pow10_mono {a b : Nat} (h : a ≤ b) : 10 ^ a ≤ 10 ^ b := Nat.pow_le_pow_right (by omega) h
theorem numN_lt (l : List UInt8) (h : dgB l = true) (hl : l.length ≤ 9) : numN l < 1000000000 := by
  have h1 := numA_lt l 0 h
  have h2 := pow10_mono hl
  rw [numN_eq]
  simp at h1 h2
  omega
theorem parseM_num : ∀ (l : List UInt8) (acc : Nat), dgB l = true → (acc + 1) * 10 ^ l.length ≤ 1000000000000000000 → Lib.parseUintM (2 ^ 64 - 1) acc l = .ok (numA acc l)
  | [], acc, _, _ => rfl
  | c :: t, acc, h, hb => by
    obtain ⟨h1, h2, h3⟩ := dgB_step h
    rw [List.length_cons, Nat.pow_succ] at hb
    have hp : 1 ≤ 10 ^ t.length := Nat.one_le_pow _ _ (by omega)
    have h4 : (10 * acc + (c.toNat - 48) + 1) ≤ (acc + 1) * 10 := by omega
    have h5 : (10 * acc + (c.toNat - 48) + 1) * 10 ^ t.length ≤ 1000000000000000000 := by
      refine Nat.le_trans (Nat.mul_le_mul_right _ h4) ?_
      rw [Nat.mul_assoc, Nat.mul_comm 10]; exact hb
    have h6 : 10 * acc + (c.toNat - 48) + 1 ≤ 1000000000000000000 := Nat.le_trans (Nat.le_mul_of_pos_right _ hp) h5
    rw [numA_cons, Lib.parseUintM, if_pos ⟨h1, h2⟩, if_neg (by omega), if_neg (by omega), Nat.mul_comm acc 10]
    exact parseM_num t _ h3 h5
end Go.Tk
namespace Go.Proofs.YtlhcejbimlilaaaGreatDoor
open Go.RowKit Go.Tk
theorem compare_calls (a b : ByteArray) (w : World) : Calls Tryz.prog 32 #[.string a, .string b] w fun e w' => e = .returned (.int .i64 (cmB a.data.toList b.data.toList)) ∧ w = w' :=
  (Tryz.strings_Compare a b w).mono fun _ _ ⟨h, h2⟩ => ⟨by rw [h, cmB_lib], h2.symm⟩
theorem trimL_calls (s : ByteArray) (w : World) : Calls Tryz.prog 134 #[.string s, .string ⟨#[48]⟩] w fun e w' => e = .returned (.string ⟨(tl0 s.data.toList).toArray⟩) ∧ w = w' :=
  (Tryz.strings_TrimLeft_one s 48 (by decide) w).mono fun _ _ ⟨h, h2⟩ => ⟨h, h2.symm⟩
theorem trimR_calls (s : ByteArray) (w : World) (hs : s.size ≤ 9223372036854775807) : Calls Tryz.prog 82 #[.string s, .string ⟨#[48]⟩] w fun e w' => e = .returned (.string ⟨(tr0 s.data.toList).toArray⟩) ∧ w = w' :=
  (Tryz.strings_TrimRight_one s 48 (by decide) w hs).mono fun _ _ ⟨h, h2⟩ => ⟨h, h2.symm⟩
theorem scut_calls (s : ByteArray) (w : World) (hs : s.size ≤ 9223372036854770000) : Calls Tryz.prog 133 #[.string s, .string ⟨#[46]⟩] w fun e w' => (∃ b : Bool, e = .returned (.tuple #[.string ⟨(ctA s.data.toList).toArray⟩, .string ⟨(ctB s.data.toList).toArray⟩, .bool b])) ∧ ∃ n, w' = w.drewN n := by
  have hix := fun w => Tryz.stringslite_Index_one s 46 w
  obtain ⟨k, hk⟩ : ∃ k, k = Lib.indexByte s.data.toList 46 := ⟨_, rfl⟩
  have hkg := Lib.indexByte_ge s.data.toList 46
  rw [← hk] at hix hkg
  have HIX := Lib.hid hix
  by_cases hn : k = -1
  · obtain ⟨e1, e2⟩ := ct_none (hk.symm.trans hn)
    rw [e1, e2, str_mk]
    subst hn
    clear hix hk e1 e2 hkg
    go_enter Tryz.func133, Tryz.ntmps133
    go_wp2_with (go_at_call 161; refine (HIX.out _).mono ?_; rintro e w' ⟨rfl, rfl⟩)
    refine bodyPost_ret (v := .tuple #[.string s, .string ⟨#[]⟩, .bool false]) (by simp [results, Tryz.results133, go_sem]) rfl ⟨⟨false, rfl⟩, 0, rfl⟩
  · have hk0 : 0 ≤ k := by omega
    obtain ⟨e1, e2, e3⟩ := ct_some (l := s.data.toList) (by rw [← hk]; exact hk0)
    rw [← hk] at e1 e2 e3
    rw [← Lib.size_eq] at e3
    obtain ⟨m, rfl⟩ : ∃ m : Nat, k = m := ⟨k.toNat, by omega⟩
    rw [Int.toNat_natCast] at e1 e2 e3
    have h1 := ex_take s m
    have h2 := ex_drop s (m + 1)
    rw [e1, e2, ← h1, ← h2]
    have hw1 : IntKind.i64.wrap ((m : Int) + 1) = (m : Int) + 1 := by rw [IntKind.wrap_i64]; omega
    have ht : ((m : Int) + 1).toNat = m + 1 := by omega
    clear hix hk e1 e2 hkg hn h1 h2
    go_enter Tryz.func133, Tryz.ntmps133
    go_wp2_with (go_at_call 161; refine (HIX.out _).mono ?_; rintro e w' ⟨rfl, rfl⟩)
    go_quiet (fail)
    go_wp2_with fail
    refine bodyPost_ret (v := .tuple #[.string (s.extract 0 m), .string (s.extract (m + 1) s.size), .bool true]) (by simp [results, Tryz.results133, go_sem]) rfl ⟨⟨true, rfl⟩, _, rfl⟩
theorem cut_calls (s : ByteArray) (w : World) (hs : s.size ≤ 9223372036854770000) : Calls Tryz.prog 95 #[.string s, .string ⟨#[46]⟩] w fun e w' => (∃ b : Bool, e = .returned (.tuple #[.string ⟨(ctA s.data.toList).toArray⟩, .string ⟨(ctB s.data.toList).toArray⟩, .bool b])) ∧ ∃ n, w' = w.drewN n := by
  have h := fun w => scut_calls s w hs
  have H := Lib.hid h
  clear h
  go_enter Tryz.func95, Tryz.ntmps95
  go_wp2_with (go_at_call 133; refine (H.out _).mono ?_; rintro e w' ⟨⟨b, rfl⟩, n, rfl⟩)
  refine bodyPost_ret (v := .tuple #[.string ⟨(ctA s.data.toList).toArray⟩, .string ⟨(ctB s.data.toList).toArray⟩, .bool b]) (by simp [results, Tryz.results95, go_sem]) rfl ⟨⟨b, rfl⟩, n, rfl⟩
theorem atoi_calls (s : ByteArray) (w : World) (hd : dgB s.data.toList = true) (h0 : s.data.toList ≠ []) (h9 : s.data.toList.length ≤ 9) :
    Calls Tryz.prog 100 #[.string s] w fun e w' => e = .returned (.tuple #[.int .i64 (numN s.data.toList : Nat), .nilIface]) ∧ Below w.heap.size w w' := by
  have ha : Lib.atoi s.data.toList = some ((numN s.data.toList : Nat) : Int) := by
    cases hl : s.data.toList with
    | nil => exact absurd hl h0
    | cons c t =>
      rw [hl] at hd
      obtain ⟨h1, h2, h3⟩ := dgB_step hd
      have n1 : (c == 45) = false := u8_ne (n := 45) (by omega) (by omega)
      have n2 : (c == 43) = false := u8_ne (n := 43) (by omega) (by omega)
      simp only [Lib.atoi, n1, n2, Lib.decNat, List.isEmpty_cons, decFrom_num _ 0 hd]
      rfl
  exact (Tryz.strconv_Atoi s _ (by rw [Lib.size_eq]; omega) ha w).mono fun _ _ ⟨h, t, ht⟩ => ⟨h, by rw [ht]; exact Lib.bytesWorld_below _ _ _⟩
theorem parse_calls (s : ByteArray) (w : World) (hd : dgB s.data.toList = true) (h0 : s.data.toList ≠ []) (h9 : s.data.toList.length ≤ 9) :
    Calls Tryz.prog 124 #[.string s, .int .i64 10, .int .i64 64] w fun e w' => e = .returned (.tuple #[.int .i64 (numN s.data.toList : Nat), .nilIface]) ∧ Below w.heap.size w w' := by
  have hlt := numN_lt _ hd h9
  have ha : Lib.parseIntB 64 s.data.toList = .ok ((numN s.data.toList : Nat) : Int) := by
    cases hl : s.data.toList with
    | nil => exact absurd hl h0
    | cons c t =>
      rw [hl] at hd hlt h9
      obtain ⟨h1, h2, h3⟩ := dgB_step hd
      have hp := parseM_num (c :: t) 0 hd (by have := pow10_mono h9; simp at this ⊢; omega)
      rw [← numN_eq] at hp
      have hpu : Lib.parseUintB 64 (c :: t) = .ok (numN (c :: t)) := by unfold Lib.parseUintB; rw [if_neg (by simp)]; exact hp
      simp only [Lib.parseIntB]
      rw [if_neg (show ¬ (c.toNat = 43 ∨ c.toNat = 45) by omega), hpu]
      simp only
      rw [if_neg (by omega), if_neg (by omega), if_neg (by omega)]
  refine (Tryz.strconv_ParseInt_10_at64_ok s (by rw [Lib.size_eq]; omega) _ ha w).mono fun _ w' ⟨h, ht⟩ => ⟨h, ?_⟩
  rcases ht with rfl | ⟨t, rfl⟩
  · exact Below.refl _ _
  · exact Lib.bytesWorld_below _ _ _
/-- The library's table of powers is laid. -/
def Pow (w : World) : Prop := Lib.TabIs Tryz.prog w "internal/strconv.uint64pow10" .u64 Lib.pow10Tab
theorem Pow.below {w w' : World} (h : Pow w) (hb : Below w.heap.size w w') : Pow w' := by
  unfold Pow Lib.TabIs World.var? at h ⊢
  obtain ⟨g, hg, h2⟩ := Option.bind_eq_some_iff.1 h
  rw [hg]
  show (match w'.heap[g]? with | some (.cells cs _ _) => some cs | _ => none) = _
  cases hc : w.heap[g]? with
  | none => rw [hc] at h2; cases h2
  | some o =>
    have hlt := (Array.getElem?_eq_some_iff.1 hc).1
    rw [hb.block g hlt]
    exact h2
theorem anyE_calls (s : ByteArray) (w : World) (hs : s.size < 4294967281) : Calls Tryz.prog 99 #[.string s, .string ⟨#[101, 69]⟩] w fun e w' => e = .returned (.int .i64 (if s.data.toList.any isE = true then ((hdE s.data.toList).length : Int) else -1)) ∧ Below w.heap.size w w' := by
  have h := indexAny_calls s ⟨#[101, 69]⟩ w hs (fun b hb => by
    have : b = 101 ∨ b = 69 := by simpa using hb
    rcases this with rfl | rfl <;> decide) (by decide) (by decide)
  exact h.mono fun _ _ ⟨a, b⟩ => ⟨by rw [a, ← anyE], b⟩
end Go.Proofs.YtlhcejbimlilaaaGreatDoor
/- The program's numbers read from texts: made, decimal, integer. -/
namespace Go.Tk
open Go Go.RowKit
theorem cat_ba (a b : ByteArray) : (a ++ b).data.toList = a.data.toList ++ b.data.toList := by
  rw [ByteArray.data_append]; simp
theorem tl0_le (l : List UInt8) : (tl0 l).length ≤ l.length := by
  unfold tl0; induction l with
  | nil => simp
  | cons c t ih => rw [List.dropWhile_cons]; split
                   · simp only [List.length_cons]; omega
                   · exact Nat.le_refl _
theorem tr0_le (l : List UInt8) : (tr0 l).length ≤ l.length := by
  have := tl0_le l.reverse
  unfold tl0 at this
  unfold tr0
  rw [List.length_reverse]
  rw [List.length_reverse] at this
  exact this
theorem emp_ba (l : List UInt8) : ((⟨l.toArray⟩ : ByteArray).toList == []) = decide (l = []) := by
  rw [Lib.toList_data]; cases l <;> simp
end Go.Tk
namespace Go.Proofs.YtlhcejbimlilaaaGreatDoor
open Go.RowKit Go.Tk
set_option maxHeartbeats 1000000 in
theorem made_calls (bl : Bool) (a b : ByteArray) (e : Int) (w : World) (hs : a.size + b.size ≤ 100000000000) (he0 : -100000000000 ≤ e) (he1 : e ≤ 100000000000) :
    Calls Tryz.prog 97 #[.bool bl, .string a, .string b, .int .i64 e] w fun e' w' => e' = .returned (mkN bl a.data.toList b.data.toList e).val ∧ Below w.heap.size w w' := by
  have hcat := cat_ba a b
  have hAs : (a ++ b).size = a.size + b.size := ByteArray.size_append
  obtain ⟨A, hA⟩ : ∃ A, A = a ++ b := ⟨_, rfl⟩
  rw [← hA] at hcat hAs
  have hLs : A.data.toList.length = A.size := (Lib.size_eq A).symm
  have hla : a.data.toList.length = a.size := (Lib.size_eq a).symm
  have hlb : b.data.toList.length = b.size := (Lib.size_eq b).symm
  obtain ⟨F, hF⟩ : ∃ F : ByteArray, F = ⟨(tl0 A.data.toList).toArray⟩ := ⟨_, rfl⟩
  have hFd : F.data.toList = tl0 A.data.toList := by rw [hF]
  have hFs : F.size = (tl0 A.data.toList).length := by rw [Lib.size_eq, hFd]
  have hF1 := tl0_le A.data.toList
  obtain ⟨D, hD⟩ : ∃ D : ByteArray, D = ⟨(tr0 F.data.toList).toArray⟩ := ⟨_, rfl⟩
  have hDd : D.data.toList = tr0 (tl0 A.data.toList) := by rw [hD, hFd]
  have htl := fun w => trimL_calls A w
  have htr := fun w => trimR_calls F w (by rw [hFs]; omega)
  rw [← hF] at htl
  rw [← hD] at htr
  have hm : mkN bl a.data.toList b.data.toList e = if D.data.toList = [] then nmZ else ⟨bl, D.data.toList, (a.size : Int) + e - ((A.size : Int) - (F.size : Int)), 0, false⟩ := by
    rw [hDd]
    unfold mkN
    rw [← hcat, hLs, hla, hFs]
  have hAF : F.size ≤ A.size := by rw [hFs, ← hLs]; exact hF1
  have hAe : a ++ b = A := hA.symm
  have HM := Lib.hid hm
  have HTL := Lib.hid htl
  have HTR := Lib.hid htr
  have hDm : D = ⟨D.data.toList.toArray⟩ := (str_mk D).symm
  have HD := Lib.hid hDm
  have hAs2 : A.size ≤ 100000000000 := by omega
  have ha2 : a.size ≤ 100000000000 := by omega
  have hb2 : b.size ≤ 100000000000 := by omega
  have HAE := Lib.hid hAe
  clear hcat hAs hA hLs hla hlb hF hFd hFs hF1 hD hDd htl htr hm hDm hAe
  by_cases hz : D.data.toList = []
  · have hm := HM.out
    rw [if_pos hz] at hm
    rw [hm]
    have hDe : (D.toList == []) = true := by rw [Lib.toList_data, hz]; rfl
    clear hm HM hz
    have hAe := HAE.out
    go_enter Tryz.func97, Tryz.ntmps97
    go_wp2_with (first | (go_at_call 134; (with_reducible refine (HTL.out _).mono ?_); rintro e w' ⟨rfl, rfl⟩) | (go_at_call 82; (with_reducible refine (HTR.out _).mono ?_); rintro e w' ⟨rfl, rfl⟩))
    refine bodyPost_ret (v := nmZ.val) (by simp [results, Tryz.results97, go_sem, nmZ, Nm.val]) rfl ⟨rfl, (Below.refl _ _).alloc (Nat.le_refl _) _⟩
  · have hm := HM.out
    rw [if_neg hz] at hm
    rw [hm]
    have hDe : (D.toList == []) = false := by rw [Lib.toList_data]; exact beq_false_of_ne hz
    clear hm HM hz
    have hAe := HAE.out
    unfold Nm.val
    dsimp only
    rw [← HD.out]
    go_enter Tryz.func97, Tryz.ntmps97
    go_wp2_with (first | (go_at_call 134; (with_reducible refine (HTL.out _).mono ?_); rintro e w' ⟨rfl, rfl⟩) | (go_at_call 82; (with_reducible refine (HTR.out _).mono ?_); rintro e w' ⟨rfl, rfl⟩))
    refine bodyPost_ret (v := .agg #[.bool bl, .string D, .int .i64 ((a.size : Int) + e - ((A.size : Int) - (F.size : Int))), .int .i64 0, .bool false]) (by simp [results, Tryz.results97, go_sem]) rfl ⟨rfl, (Below.refl _ _).alloc (Nat.le_refl _) _⟩
theorem sgnR_le (l : List UInt8) : (sgnR l).length ≤ l.length := by
  cases l with
  | nil => simp [sgnR]
  | cons c t => simp only [sgnR]; split <;> simp
theorem ct_le (l : List UInt8) : (ctA l).length + (ctB l).length ≤ l.length := by
  unfold ctA ctB
  have := List.takeWhile_append_dropWhile (p := (· != 46)) (l := l)
  have h2 := congrArg List.length this
  rw [List.length_append] at h2
  rw [List.length_drop]
  omega
theorem nm_opt (o : Option Nm) (n : Nm) (b : Bool) (h : o = if b = true then some n else none) : (o.getD nmZ).val = (if b = true then n else nmZ).val ∧ o.isSome = b := by
  subst h; cases b <;> exact ⟨rfl, rfl⟩
set_option maxHeartbeats 1000000 in
theorem decimal_calls (s : ByteArray) (w : World) (hs : s.size ≤ 50000000000) :
    Calls Tryz.prog 51 #[.string s] w fun e w' => e = .returned (.tuple #[((decP s.data.toList).getD nmZ).val, .bool (decP s.data.toList).isSome]) ∧ Below w.heap.size w w' := by
  have hsg := fun w => sign_calls s w (by omega)
  obtain ⟨R, hR⟩ : ∃ R : ByteArray, R = ⟨(sgnR s.data.toList).toArray⟩ := ⟨_, rfl⟩
  have hRd : R.data.toList = sgnR s.data.toList := by rw [hR]
  have hRs : R.size ≤ s.size := by rw [Lib.size_eq, hRd, Lib.size_eq]; exact sgnR_le _
  rw [← hR] at hsg
  have hct := fun w => cut_calls R w (by omega)
  obtain ⟨A, hA⟩ : ∃ A : ByteArray, A = ⟨(ctA R.data.toList).toArray⟩ := ⟨_, rfl⟩
  obtain ⟨B, hB⟩ : ∃ B : ByteArray, B = ⟨(ctB R.data.toList).toArray⟩ := ⟨_, rfl⟩
  have hAd : A.data.toList = ctA R.data.toList := by rw [hA]
  have hBd : B.data.toList = ctB R.data.toList := by rw [hB]
  have hAB : A.size + B.size ≤ R.size := by rw [Lib.size_eq A, Lib.size_eq B, Lib.size_eq R, hAd, hBd]; exact ct_le _
  rw [← hA, ← hB] at hct
  have hdp : decP s.data.toList = if okP A.data.toList B.data.toList = true then some (mkN (sgnB s.data.toList) A.data.toList B.data.toList 0) else none := by
    unfold decP; rw [hAd, hBd, hRd]
  obtain ⟨bl, hbl⟩ : ∃ bl, bl = sgnB s.data.toList := ⟨_, rfl⟩
  rw [← hbl] at hsg hdp
  have hda := fun w => allDigits_calls A w (by omega)
  have hdb := fun w => allDigits_calls B w (by omega)
  have hmd := fun w => made_calls bl A B 0 w (by omega) (by omega) (by omega)
  have hcat := cat_ba A B
  have he1 : ((A ++ B).toList == []) = (A.data.toList ++ B.data.toList).isEmpty := by rw [Lib.toList_data, hcat]; cases (A.data.toList ++ B.data.toList) <;> rfl
  obtain ⟨h1, h2⟩ := nm_opt _ _ _ hdp
  rw [h1, h2]
  have hok : okP A.data.toList B.data.toList = (dgB A.data.toList && dgB B.data.toList && !(A.data.toList ++ B.data.toList).isEmpty) := rfl
  rw [hok]
  have hAz : A.size ≤ 50000000000 := by omega
  have hBz : B.size ≤ 50000000000 := by omega
  obtain ⟨M, hM⟩ : ∃ M, M = mkN bl A.data.toList B.data.toList 0 := ⟨_, rfl⟩
  rw [← hM] at hmd ⊢
  obtain ⟨da, hda'⟩ : ∃ d, d = dgB A.data.toList := ⟨_, rfl⟩
  obtain ⟨db, hdb'⟩ : ∃ d, d = dgB B.data.toList := ⟨_, rfl⟩
  obtain ⟨em, hem⟩ : ∃ d, d = (A.data.toList ++ B.data.toList).isEmpty := ⟨_, rfl⟩
  rw [← hda'] at hda ⊢
  rw [← hdb'] at hdb ⊢
  rw [← hem] at he1 ⊢
  have HSG := Lib.hid hsg
  have HCT := Lib.hid hct
  have HDA := Lib.hid hda
  have HDB := Lib.hid hdb
  have HMD := Lib.hid hmd
  clear hsg hR hRd hct hA hB hAd hBd hdp hbl hda hdb hmd hcat h1 h2 hok hM hda' hdb' hem
  cases da with
  | false =>
    go_enter Tryz.func51, Tryz.ntmps51
    go_wp2_with (first | (go_at_call 94; (with_reducible refine (HSG.out _).mono ?_); rintro e w' ⟨rfl, n, rfl⟩) | (go_at_call 95; (with_reducible refine (HCT.out _).mono ?_); rintro e w' ⟨⟨b, rfl⟩, n2, rfl⟩) | (go_at_call 96; (with_reducible refine (HDA.out _).mono ?_); rintro e w' ⟨rfl, rfl⟩) | (go_at_call 96; (with_reducible refine (HDB.out _).mono ?_); rintro e w' ⟨rfl, rfl⟩) | (go_at_call 97; (with_reducible refine (HMD.out _).mono ?_); rintro e w4 ⟨rfl, hb4⟩; (have hz4 := hb4.size); (have hc4 := fun (p : Addr) (h : p.block < _) => hb4.cell (p := p) h); (have hf4 := fun (p : Addr) (h : p.block < _) => hb4.frozen (p := p) h)))
    refine bodyPost_ret (v := .tuple #[.agg #[.bool false, .string ⟨#[]⟩, .int .i64 0, .int .i64 0, .bool false], .bool false]) (by simp [results, Tryz.results51, go_sem]) rfl ⟨rfl, ?_⟩
    repeat (first | with_reducible exact Below.refl _ _ | with_reducible refine below_drewN ?_ _ | (with_reducible refine Below.setCell ?_ (by simp) _) | (with_reducible refine Below.alloc ?_ (by simp) _))
  | true =>
  cases db with
  | false =>
    go_enter Tryz.func51, Tryz.ntmps51
    go_wp2_with (first | (go_at_call 94; (with_reducible refine (HSG.out _).mono ?_); rintro e w' ⟨rfl, n, rfl⟩) | (go_at_call 95; (with_reducible refine (HCT.out _).mono ?_); rintro e w' ⟨⟨b, rfl⟩, n2, rfl⟩) | (go_at_call 96; (with_reducible refine (HDA.out _).mono ?_); rintro e w' ⟨rfl, rfl⟩) | (go_at_call 96; (with_reducible refine (HDB.out _).mono ?_); rintro e w' ⟨rfl, rfl⟩) | (go_at_call 97; (with_reducible refine (HMD.out _).mono ?_); rintro e w4 ⟨rfl, hb4⟩; (have hz4 := hb4.size); (have hc4 := fun (p : Addr) (h : p.block < _) => hb4.cell (p := p) h); (have hf4 := fun (p : Addr) (h : p.block < _) => hb4.frozen (p := p) h)))
    refine bodyPost_ret (v := .tuple #[.agg #[.bool false, .string ⟨#[]⟩, .int .i64 0, .int .i64 0, .bool false], .bool false]) (by simp [results, Tryz.results51, go_sem]) rfl ⟨rfl, ?_⟩
    repeat (first | with_reducible exact Below.refl _ _ | with_reducible refine below_drewN ?_ _ | (with_reducible refine Below.setCell ?_ (by simp) _) | (with_reducible refine Below.alloc ?_ (by simp) _))
  | true =>
  cases em with
  | true =>
    go_enter Tryz.func51, Tryz.ntmps51
    go_wp2_with (first | (go_at_call 94; (with_reducible refine (HSG.out _).mono ?_); rintro e w' ⟨rfl, n, rfl⟩) | (go_at_call 95; (with_reducible refine (HCT.out _).mono ?_); rintro e w' ⟨⟨b, rfl⟩, n2, rfl⟩) | (go_at_call 96; (with_reducible refine (HDA.out _).mono ?_); rintro e w' ⟨rfl, rfl⟩) | (go_at_call 96; (with_reducible refine (HDB.out _).mono ?_); rintro e w' ⟨rfl, rfl⟩) | (go_at_call 97; (with_reducible refine (HMD.out _).mono ?_); rintro e w4 ⟨rfl, hb4⟩; (have hz4 := hb4.size); (have hc4 := fun (p : Addr) (h : p.block < _) => hb4.cell (p := p) h); (have hf4 := fun (p : Addr) (h : p.block < _) => hb4.frozen (p := p) h)))
    refine bodyPost_ret (v := .tuple #[.agg #[.bool false, .string ⟨#[]⟩, .int .i64 0, .int .i64 0, .bool false], .bool false]) (by simp [results, Tryz.results51, go_sem]) rfl ⟨rfl, ?_⟩
    repeat (first | with_reducible exact Below.refl _ _ | with_reducible refine below_drewN ?_ _ | (with_reducible refine Below.setCell ?_ (by simp) _) | (with_reducible refine Below.alloc ?_ (by simp) _))
  | false =>
    obtain ⟨mb, md, mp, mi, mn⟩ := M
    have hmd := HMD.out
    unfold Nm.val at hmd ⊢
    simp only [Bool.and_self, Bool.not_false, if_true] at hmd ⊢
    have HMD := Lib.hid hmd
    clear hmd
    go_enter Tryz.func51, Tryz.ntmps51
    go_wp2_with (first | (go_at_call 94; (with_reducible refine (HSG.out _).mono ?_); rintro e w' ⟨rfl, n, rfl⟩) | (go_at_call 95; (with_reducible refine (HCT.out _).mono ?_); rintro e w' ⟨⟨b, rfl⟩, n2, rfl⟩) | (go_at_call 96; (with_reducible refine (HDA.out _).mono ?_); rintro e w' ⟨rfl, rfl⟩) | (go_at_call 96; (with_reducible refine (HDB.out _).mono ?_); rintro e w' ⟨rfl, rfl⟩) | (go_at_call 97; (with_reducible refine (HMD.out _).mono ?_); rintro e w4 ⟨rfl, hb4⟩; (have hz4 := hb4.size); (have hc4 := fun (p : Addr) (h : p.block < _) => hb4.cell (p := p) h); (have hf4 := fun (p : Addr) (h : p.block < _) => hb4.frozen (p := p) h)))
    refine bodyPost_ret (v := .tuple #[.agg #[.bool mb, .string ⟨md.toArray⟩, .int .i64 mp, .int .i64 mi, .bool mn], .bool true]) (by simp [results, Tryz.results51, go_sem, hc4]) rfl ⟨rfl, ?_⟩
    repeat (with_reducible refine Below.setCell ?_ (by simp) _)
    refine Below.trans (b := _) ?_ (hb4.mono (by simp))
    repeat (first | with_reducible exact Below.refl _ _ | with_reducible refine below_drewN ?_ _ | (with_reducible refine Below.setCell ?_ (by simp) _) | (with_reducible refine Below.alloc ?_ (by simp) _))
set_option maxHeartbeats 1000000 in
theorem integer_calls (s : ByteArray) (w : World) (hs : s.size ≤ 50000000000) :
    Calls Tryz.prog 105 #[.string s] w fun e w' => e = .returned (.tuple #[((intP s.data.toList).getD nmZ).val, .bool (intP s.data.toList).isSome]) ∧ Below w.heap.size w w' := by
  have hsg := fun w => sign_calls s w (by omega)
  obtain ⟨R, hR⟩ : ∃ R : ByteArray, R = ⟨(sgnR s.data.toList).toArray⟩ := ⟨_, rfl⟩
  have hRd : R.data.toList = sgnR s.data.toList := by rw [hR]
  have hRs : R.size ≤ s.size := by rw [Lib.size_eq, hRd, Lib.size_eq]; exact sgnR_le _
  rw [← hR] at hsg
  have hdp : intP s.data.toList = if (!(R.data.toList).isEmpty && dgB R.data.toList) = true then some (mkN (sgnB s.data.toList) R.data.toList [] 0) else none := by
    unfold intP; rw [hRd]
  obtain ⟨bl, hbl⟩ : ∃ bl, bl = sgnB s.data.toList := ⟨_, rfl⟩
  rw [← hbl] at hsg hdp
  have hda := fun w => allDigits_calls R w (by omega)
  have hmd := fun w => made_calls bl R ⟨#[]⟩ 0 w (by show R.size + 0 ≤ _; omega) (by omega) (by omega)
  have hmk : mkN bl R.data.toList (ByteArray.data ⟨#[]⟩).toList 0 = mkN bl R.data.toList [] 0 := rfl
  rw [hmk] at hmd
  have he1 : (R.toList == []) = R.data.toList.isEmpty := by rw [Lib.toList_data]; cases R.data.toList <;> rfl
  obtain ⟨h1, h2⟩ := nm_opt _ _ _ hdp
  rw [h1, h2]
  obtain ⟨M, hM⟩ : ∃ M, M = mkN bl R.data.toList [] 0 := ⟨_, rfl⟩
  rw [← hM] at hmd ⊢
  obtain ⟨da, hda'⟩ : ∃ d, d = dgB R.data.toList := ⟨_, rfl⟩
  obtain ⟨em, hem⟩ : ∃ d, d = R.data.toList.isEmpty := ⟨_, rfl⟩
  rw [← hda'] at hda ⊢
  rw [← hem] at he1 ⊢
  have HSG := Lib.hid hsg
  have HDA := Lib.hid hda
  have HMD := Lib.hid hmd
  clear hsg hR hRd hdp hbl hda hmd hmk h1 h2 hM hda' hem
  cases em with
  | true =>
    go_enter Tryz.func105, Tryz.ntmps105
    go_wp2_with (first | (go_at_call 94; (with_reducible refine (HSG.out _).mono ?_); rintro e w' ⟨rfl, n, rfl⟩) | (go_at_call 96; (with_reducible refine (HDA.out _).mono ?_); rintro e w' ⟨rfl, rfl⟩) | (go_at_call 97; (with_reducible refine (HMD.out _).mono ?_); rintro e w4 ⟨rfl, hb4⟩; (have hz4 := hb4.size); (have hc4 := fun (p : Addr) (h : p.block < _) => hb4.cell (p := p) h); (have hf4 := fun (p : Addr) (h : p.block < _) => hb4.frozen (p := p) h)))
    refine bodyPost_ret (v := .tuple #[.agg #[.bool false, .string ⟨#[]⟩, .int .i64 0, .int .i64 0, .bool false], .bool false]) (by simp [results, Tryz.results105, go_sem]) rfl ⟨rfl, ?_⟩
    repeat (first | with_reducible exact Below.refl _ _ | with_reducible refine below_drewN ?_ _ | (with_reducible refine Below.setCell ?_ (by simp) _) | (with_reducible refine Below.alloc ?_ (by simp) _))
  | false =>
  cases da with
  | false =>
    go_enter Tryz.func105, Tryz.ntmps105
    go_wp2_with (first | (go_at_call 94; (with_reducible refine (HSG.out _).mono ?_); rintro e w' ⟨rfl, n, rfl⟩) | (go_at_call 96; (with_reducible refine (HDA.out _).mono ?_); rintro e w' ⟨rfl, rfl⟩) | (go_at_call 97; (with_reducible refine (HMD.out _).mono ?_); rintro e w4 ⟨rfl, hb4⟩; (have hz4 := hb4.size); (have hc4 := fun (p : Addr) (h : p.block < _) => hb4.cell (p := p) h); (have hf4 := fun (p : Addr) (h : p.block < _) => hb4.frozen (p := p) h)))
    refine bodyPost_ret (v := .tuple #[.agg #[.bool false, .string ⟨#[]⟩, .int .i64 0, .int .i64 0, .bool false], .bool false]) (by simp [results, Tryz.results105, go_sem]) rfl ⟨rfl, ?_⟩
    repeat (first | with_reducible exact Below.refl _ _ | with_reducible refine below_drewN ?_ _ | (with_reducible refine Below.setCell ?_ (by simp) _) | (with_reducible refine Below.alloc ?_ (by simp) _))
  | true =>
    obtain ⟨mb, md, mp, mi, mn⟩ := M
    have hmd := HMD.out
    unfold Nm.val at hmd ⊢
    simp only [Bool.and_self, Bool.not_false, if_true] at hmd ⊢
    have HMD := Lib.hid hmd
    clear hmd
    go_enter Tryz.func105, Tryz.ntmps105
    go_wp2_with (first | (go_at_call 94; (with_reducible refine (HSG.out _).mono ?_); rintro e w' ⟨rfl, n, rfl⟩) | (go_at_call 96; (with_reducible refine (HDA.out _).mono ?_); rintro e w' ⟨rfl, rfl⟩) | (go_at_call 97; (with_reducible refine (HMD.out _).mono ?_); rintro e w4 ⟨rfl, hb4⟩; (have hz4 := hb4.size); (have hc4 := fun (p : Addr) (h : p.block < _) => hb4.cell (p := p) h); (have hf4 := fun (p : Addr) (h : p.block < _) => hb4.frozen (p := p) h)))
    refine bodyPost_ret (v := .tuple #[.agg #[.bool mb, .string ⟨md.toArray⟩, .int .i64 mp, .int .i64 mi, .bool mn], .bool true]) (by simp [results, Tryz.results105, go_sem, hc4]) rfl ⟨rfl, ?_⟩
    repeat (with_reducible refine Below.setCell ?_ (by simp) _)
    refine Below.trans (b := _) ?_ (hb4.mono (by simp))
    repeat (first | with_reducible exact Below.refl _ _ | with_reducible refine below_drewN ?_ _ | (with_reducible refine Below.setCell ?_ (by simp) _) | (with_reducible refine Below.alloc ?_ (by simp) _))
end Go.Proofs.YtlhcejbimlilaaaGreatDoor
