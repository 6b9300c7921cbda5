/- The program's numbers read from texts: made, decimal, integer. -/
import Derived.Test.YtlhcejbimlilaaaGreatDoorVaC
import Derived.Deep.DeepMust
import Derived.Deep.DeepCutAuto
import Derived.Deep.CutBlock
import Derived.Laws.Tables
import Derived.OneCell
set_option linter.unusedVariables false
set_option linter.unusedSimpArgs false
namespace Go.Tk
open Go Go.RowKit
theorem cat_ba (a b : ByteArray) : (a ++ b).data.toList = a.data.toList ++ b.data.toList := by
  rw [ByteArray.data_append]; simp
theorem tl0_le (l : List UInt8) : (tl0 l).length ≤ l.length := by
  unfold tl0; induction l with
  | nil => simp
  | cons c t ih => rw [List.dropWhile_cons]; split
                   · simp only [List.length_cons]; omega
                   · exact Nat.le_refl _
theorem tr0_le (l : List UInt8) : (tr0 l).length ≤ l.length := by
  have := tl0_le l.reverse
  unfold tl0 at this
  unfold tr0
  rw [List.length_reverse]
  rw [List.length_reverse] at this
  exact this
theorem emp_ba (l : List UInt8) : ((⟨l.toArray⟩ : ByteArray).toList == []) = decide (l = []) := by
  rw [Lib.toList_data]; cases l <;> simp
end Go.Tk
namespace Go.Proofs.YtlhcejbimlilaaaGreatDoor
open Go.RowKit Go.Tk
set_option maxHeartbeats 1000000 in
theorem made_calls (bl : Bool) (a b : ByteArray) (e : Int) (w : World) (hs : a.size + b.size ≤ 100000000000) (he0 : -100000000000 ≤ e) (he1 : e ≤ 100000000000) :
    Calls Tryz.prog 97 #[.bool bl, .string a, .string b, .int .i64 e] w fun e' w' => e' = .returned (mkN bl a.data.toList b.data.toList e).val ∧ Below w.heap.size w w' := by
  have hcat := cat_ba a b
  have hAs : (a ++ b).size = a.size + b.size := ByteArray.size_append
  obtain ⟨A, hA⟩ : ∃ A, A = a ++ b := ⟨_, rfl⟩
  rw [← hA] at hcat hAs
  have hLs : A.data.toList.length = A.size := (Lib.size_eq A).symm
  have hla : a.data.toList.length = a.size := (Lib.size_eq a).symm
  have hlb : b.data.toList.length = b.size := (Lib.size_eq b).symm
  obtain ⟨F, hF⟩ : ∃ F : ByteArray, F = ⟨(tl0 A.data.toList).toArray⟩ := ⟨_, rfl⟩
  have hFd : F.data.toList = tl0 A.data.toList := by rw [hF]
  have hFs : F.size = (tl0 A.data.toList).length := by rw [Lib.size_eq, hFd]
  have hF1 := tl0_le A.data.toList
  obtain ⟨D, hD⟩ : ∃ D : ByteArray, D = ⟨(tr0 F.data.toList).toArray⟩ := ⟨_, rfl⟩
  have hDd : D.data.toList = tr0 (tl0 A.data.toList) := by rw [hD, hFd]
  have htl := fun w => trimL_calls A w
  have htr := fun w => trimR_calls F w (by rw [hFs]; omega)
  rw [← hF] at htl
  rw [← hD] at htr
  have hm : mkN bl a.data.toList b.data.toList e = if D.data.toList = [] then nmZ else ⟨bl, D.data.toList, (a.size : Int) + e - ((A.size : Int) - (F.size : Int)), 0, false⟩ := by
    rw [hDd]
    unfold mkN
    rw [← hcat, hLs, hla, hFs]
  have hAF : F.size ≤ A.size := by rw [hFs, ← hLs]; exact hF1
  have hAe : a ++ b = A := hA.symm
  have HM := Lib.hid hm
  have HTL := Lib.hid htl
  have HTR := Lib.hid htr
  have hDm : D = ⟨D.data.toList.toArray⟩ := (str_mk D).symm
  have HD := Lib.hid hDm
  have hAs2 : A.size ≤ 100000000000 := by omega
  have ha2 : a.size ≤ 100000000000 := by omega
  have hb2 : b.size ≤ 100000000000 := by omega
  have HAE := Lib.hid hAe
  clear hcat hAs hA hLs hla hlb hF hFd hFs hF1 hD hDd htl htr hm hDm hAe
  by_cases hz : D.data.toList = []
  · have hm := HM.out
    rw [if_pos hz] at hm
    rw [hm]
    have hDe : (D.toList == []) = true := by rw [Lib.toList_data, hz]; rfl
    clear hm HM hz
    have hAe := HAE.out
    go_enter Tryz.func97, Tryz.ntmps97
    go_wp2_with (first | (go_at_call 134; (with_reducible refine (HTL.out _).mono ?_); rintro e w' ⟨rfl, rfl⟩) | (go_at_call 82; (with_reducible refine (HTR.out _).mono ?_); rintro e w' ⟨rfl, rfl⟩))
    refine bodyPost_ret (v := nmZ.val) (by simp [results, Tryz.results97, go_sem, nmZ, Nm.val]) rfl ⟨rfl, (Below.refl _ _).alloc (Nat.le_refl _) _⟩
  · have hm := HM.out
    rw [if_neg hz] at hm
    rw [hm]
    have hDe : (D.toList == []) = false := by rw [Lib.toList_data]; exact beq_false_of_ne hz
    clear hm HM hz
    have hAe := HAE.out
    unfold Nm.val
    dsimp only
    rw [← HD.out]
    go_enter Tryz.func97, Tryz.ntmps97
    go_wp2_with (first | (go_at_call 134; (with_reducible refine (HTL.out _).mono ?_); rintro e w' ⟨rfl, rfl⟩) | (go_at_call 82; (with_reducible refine (HTR.out _).mono ?_); rintro e w' ⟨rfl, rfl⟩))
    refine bodyPost_ret (v := .agg #[.bool bl, .string D, .int .i64 ((a.size : Int) + e - ((A.size : Int) - (F.size : Int))), .int .i64 0, .bool false]) (by simp [results, Tryz.results97, go_sem]) rfl ⟨rfl, (Below.refl _ _).alloc (Nat.le_refl _) _⟩
theorem sgnR_le (l : List UInt8) : (sgnR l).length ≤ l.length := by
  cases l with
  | nil => simp [sgnR]
  | cons c t => simp only [sgnR]; split <;> simp
theorem ct_le (l : List UInt8) : (ctA l).length + (ctB l).length ≤ l.length := by
  unfold ctA ctB
  have := List.takeWhile_append_dropWhile (p := (· != 46)) (l := l)
  have h2 := congrArg List.length this
  rw [List.length_append] at h2
  rw [List.length_drop]
  omega
theorem nm_opt (o : Option Nm) (n : Nm) (b : Bool) (h : o = if b = true then some n else none) : (o.getD nmZ).val = (if b = true then n else nmZ).val ∧ o.isSome = b := by
  subst h; cases b <;> exact ⟨rfl, rfl⟩
set_option maxHeartbeats 1000000 in
theorem decimal_calls (s : ByteArray) (w : World) (hs : s.size ≤ 50000000000) :
    Calls Tryz.prog 51 #[.string s] w fun e w' => e = .returned (.tuple #[((decP s.data.toList).getD nmZ).val, .bool (decP s.data.toList).isSome]) ∧ Below w.heap.size w w' := by
  have hsg := fun w => sign_calls s w (by omega)
  obtain ⟨R, hR⟩ : ∃ R : ByteArray, R = ⟨(sgnR s.data.toList).toArray⟩ := ⟨_, rfl⟩
  have hRd : R.data.toList = sgnR s.data.toList := by rw [hR]
  have hRs : R.size ≤ s.size := by rw [Lib.size_eq, hRd, Lib.size_eq]; exact sgnR_le _
  rw [← hR] at hsg
  have hct := fun w => cut_calls R w (by omega)
  obtain ⟨A, hA⟩ : ∃ A : ByteArray, A = ⟨(ctA R.data.toList).toArray⟩ := ⟨_, rfl⟩
  obtain ⟨B, hB⟩ : ∃ B : ByteArray, B = ⟨(ctB R.data.toList).toArray⟩ := ⟨_, rfl⟩
  have hAd : A.data.toList = ctA R.data.toList := by rw [hA]
  have hBd : B.data.toList = ctB R.data.toList := by rw [hB]
  have hAB : A.size + B.size ≤ R.size := by rw [Lib.size_eq A, Lib.size_eq B, Lib.size_eq R, hAd, hBd]; exact ct_le _
  rw [← hA, ← hB] at hct
  have hdp : decP s.data.toList = if okP A.data.toList B.data.toList = true then some (mkN (sgnB s.data.toList) A.data.toList B.data.toList 0) else none := by
    unfold decP; rw [hAd, hBd, hRd]
  obtain ⟨bl, hbl⟩ : ∃ bl, bl = sgnB s.data.toList := ⟨_, rfl⟩
  rw [← hbl] at hsg hdp
  have hda := fun w => allDigits_calls A w (by omega)
  have hdb := fun w => allDigits_calls B w (by omega)
  have hmd := fun w => made_calls bl A B 0 w (by omega) (by omega) (by omega)
  have hcat := cat_ba A B
  have he1 : ((A ++ B).toList == []) = (A.data.toList ++ B.data.toList).isEmpty := by rw [Lib.toList_data, hcat]; cases (A.data.toList ++ B.data.toList) <;> rfl
  obtain ⟨h1, h2⟩ := nm_opt _ _ _ hdp
  rw [h1, h2]
  have hok : okP A.data.toList B.data.toList = (dgB A.data.toList && dgB B.data.toList && !(A.data.toList ++ B.data.toList).isEmpty) := rfl
  rw [hok]
  have hAz : A.size ≤ 50000000000 := by omega
  have hBz : B.size ≤ 50000000000 := by omega
  obtain ⟨M, hM⟩ : ∃ M, M = mkN bl A.data.toList B.data.toList 0 := ⟨_, rfl⟩
  rw [← hM] at hmd ⊢
  obtain ⟨da, hda'⟩ : ∃ d, d = dgB A.data.toList := ⟨_, rfl⟩
  obtain ⟨db, hdb'⟩ : ∃ d, d = dgB B.data.toList := ⟨_, rfl⟩
  obtain ⟨em, hem⟩ : ∃ d, d = (A.data.toList ++ B.data.toList).isEmpty := ⟨_, rfl⟩
  rw [← hda'] at hda ⊢
  rw [← hdb'] at hdb ⊢
  rw [← hem] at he1 ⊢
  have HSG := Lib.hid hsg
  have HCT := Lib.hid hct
  have HDA := Lib.hid hda
  have HDB := Lib.hid hdb
  have HMD := Lib.hid hmd
  clear hsg hR hRd hct hA hB hAd hBd hdp hbl hda hdb hmd hcat h1 h2 hok hM hda' hdb' hem
  cases da with
  | false =>
    go_enter Tryz.func51, Tryz.ntmps51
    go_wp2_with (first | (go_at_call 94; (with_reducible refine (HSG.out _).mono ?_); rintro e w' ⟨rfl, n, rfl⟩) | (go_at_call 95; (with_reducible refine (HCT.out _).mono ?_); rintro e w' ⟨⟨b, rfl⟩, n2, rfl⟩) | (go_at_call 96; (with_reducible refine (HDA.out _).mono ?_); rintro e w' ⟨rfl, rfl⟩) | (go_at_call 96; (with_reducible refine (HDB.out _).mono ?_); rintro e w' ⟨rfl, rfl⟩) | (go_at_call 97; (with_reducible refine (HMD.out _).mono ?_); rintro e w4 ⟨rfl, hb4⟩; (have hz4 := hb4.size); (have hc4 := fun (p : Addr) (h : p.block < _) => hb4.cell (p := p) h); (have hf4 := fun (p : Addr) (h : p.block < _) => hb4.frozen (p := p) h)))
    refine bodyPost_ret (v := .tuple #[.agg #[.bool false, .string ⟨#[]⟩, .int .i64 0, .int .i64 0, .bool false], .bool false]) (by simp [results, Tryz.results51, go_sem]) rfl ⟨rfl, ?_⟩
    repeat (first | with_reducible exact Below.refl _ _ | with_reducible refine below_drewN ?_ _ | (with_reducible refine Below.setCell ?_ (by simp) _) | (with_reducible refine Below.alloc ?_ (by simp) _))
  | true =>
  cases db with
  | false =>
    go_enter Tryz.func51, Tryz.ntmps51
    go_wp2_with (first | (go_at_call 94; (with_reducible refine (HSG.out _).mono ?_); rintro e w' ⟨rfl, n, rfl⟩) | (go_at_call 95; (with_reducible refine (HCT.out _).mono ?_); rintro e w' ⟨⟨b, rfl⟩, n2, rfl⟩) | (go_at_call 96; (with_reducible refine (HDA.out _).mono ?_); rintro e w' ⟨rfl, rfl⟩) | (go_at_call 96; (with_reducible refine (HDB.out _).mono ?_); rintro e w' ⟨rfl, rfl⟩) | (go_at_call 97; (with_reducible refine (HMD.out _).mono ?_); rintro e w4 ⟨rfl, hb4⟩; (have hz4 := hb4.size); (have hc4 := fun (p : Addr) (h : p.block < _) => hb4.cell (p := p) h); (have hf4 := fun (p : Addr) (h : p.block < _) => hb4.frozen (p := p) h)))
    refine bodyPost_ret (v := .tuple #[.agg #[.bool false, .string ⟨#[]⟩, .int .i64 0, .int .i64 0, .bool false], .bool false]) (by simp [results, Tryz.results51, go_sem]) rfl ⟨rfl, ?_⟩
    repeat (first | with_reducible exact Below.refl _ _ | with_reducible refine below_drewN ?_ _ | (with_reducible refine Below.setCell ?_ (by simp) _) | (with_reducible refine Below.alloc ?_ (by simp) _))
  | true =>
  cases em with
  | true =>
    go_enter Tryz.func51, Tryz.ntmps51
    go_wp2_with (first | (go_at_call 94; (with_reducible refine (HSG.out _).mono ?_); rintro e w' ⟨rfl, n, rfl⟩) | (go_at_call 95; (with_reducible refine (HCT.out _).mono ?_); rintro e w' ⟨⟨b, rfl⟩, n2, rfl⟩) | (go_at_call 96; (with_reducible refine (HDA.out _).mono ?_); rintro e w' ⟨rfl, rfl⟩) | (go_at_call 96; (with_reducible refine (HDB.out _).mono ?_); rintro e w' ⟨rfl, rfl⟩) | (go_at_call 97; (with_reducible refine (HMD.out _).mono ?_); rintro e w4 ⟨rfl, hb4⟩; (have hz4 := hb4.size); (have hc4 := fun (p : Addr) (h : p.block < _) => hb4.cell (p := p) h); (have hf4 := fun (p : Addr) (h : p.block < _) => hb4.frozen (p := p) h)))
    refine bodyPost_ret (v := .tuple #[.agg #[.bool false, .string ⟨#[]⟩, .int .i64 0, .int .i64 0, .bool false], .bool false]) (by simp [results, Tryz.results51, go_sem]) rfl ⟨rfl, ?_⟩
    repeat (first | with_reducible exact Below.refl _ _ | with_reducible refine below_drewN ?_ _ | (with_reducible refine Below.setCell ?_ (by simp) _) | (with_reducible refine Below.alloc ?_ (by simp) _))
  | false =>
    obtain ⟨mb, md, mp, mi, mn⟩ := M
    have hmd := HMD.out
    unfold Nm.val at hmd ⊢
    simp only [Bool.and_self, Bool.not_false, if_true] at hmd ⊢
    have HMD := Lib.hid hmd
    clear hmd
    go_enter Tryz.func51, Tryz.ntmps51
    go_wp2_with (first | (go_at_call 94; (with_reducible refine (HSG.out _).mono ?_); rintro e w' ⟨rfl, n, rfl⟩) | (go_at_call 95; (with_reducible refine (HCT.out _).mono ?_); rintro e w' ⟨⟨b, rfl⟩, n2, rfl⟩) | (go_at_call 96; (with_reducible refine (HDA.out _).mono ?_); rintro e w' ⟨rfl, rfl⟩) | (go_at_call 96; (with_reducible refine (HDB.out _).mono ?_); rintro e w' ⟨rfl, rfl⟩) | (go_at_call 97; (with_reducible refine (HMD.out _).mono ?_); rintro e w4 ⟨rfl, hb4⟩; (have hz4 := hb4.size); (have hc4 := fun (p : Addr) (h : p.block < _) => hb4.cell (p := p) h); (have hf4 := fun (p : Addr) (h : p.block < _) => hb4.frozen (p := p) h)))
    refine bodyPost_ret (v := .tuple #[.agg #[.bool mb, .string ⟨md.toArray⟩, .int .i64 mp, .int .i64 mi, .bool mn], .bool true]) (by simp [results, Tryz.results51, go_sem, hc4]) rfl ⟨rfl, ?_⟩
    repeat (with_reducible refine Below.setCell ?_ (by simp) _)
    refine Below.trans (b := _) ?_ (hb4.mono (by simp))
    repeat (first | with_reducible exact Below.refl _ _ | with_reducible refine below_drewN ?_ _ | (with_reducible refine Below.setCell ?_ (by simp) _) | (with_reducible refine Below.alloc ?_ (by simp) _))
set_option maxHeartbeats 1000000 in
theorem integer_calls (s : ByteArray) (w : World) (hs : s.size ≤ 50000000000) :
    Calls Tryz.prog 105 #[.string s] w fun e w' => e = .returned (.tuple #[((intP s.data.toList).getD nmZ).val, .bool (intP s.data.toList).isSome]) ∧ Below w.heap.size w w' := by
  have hsg := fun w => sign_calls s w (by omega)
  obtain ⟨R, hR⟩ : ∃ R : ByteArray, R = ⟨(sgnR s.data.toList).toArray⟩ := ⟨_, rfl⟩
  have hRd : R.data.toList = sgnR s.data.toList := by rw [hR]
  have hRs : R.size ≤ s.size := by rw [Lib.size_eq, hRd, Lib.size_eq]; exact sgnR_le _
  rw [← hR] at hsg
  have hdp : intP s.data.toList = if (!(R.data.toList).isEmpty && dgB R.data.toList) = true then some (mkN (sgnB s.data.toList) R.data.toList [] 0) else none := by
    unfold intP; rw [hRd]
  obtain ⟨bl, hbl⟩ : ∃ bl, bl = sgnB s.data.toList := ⟨_, rfl⟩
  rw [← hbl] at hsg hdp
  have hda := fun w => allDigits_calls R w (by omega)
  have hmd := fun w => made_calls bl R ⟨#[]⟩ 0 w (by show R.size + 0 ≤ _; omega) (by omega) (by omega)
  have hmk : mkN bl R.data.toList (ByteArray.data ⟨#[]⟩).toList 0 = mkN bl R.data.toList [] 0 := rfl
  rw [hmk] at hmd
  have he1 : (R.toList == []) = R.data.toList.isEmpty := by rw [Lib.toList_data]; cases R.data.toList <;> rfl
  obtain ⟨h1, h2⟩ := nm_opt _ _ _ hdp
  rw [h1, h2]
  obtain ⟨M, hM⟩ : ∃ M, M = mkN bl R.data.toList [] 0 := ⟨_, rfl⟩
  rw [← hM] at hmd ⊢
  obtain ⟨da, hda'⟩ : ∃ d, d = dgB R.data.toList := ⟨_, rfl⟩
  obtain ⟨em, hem⟩ : ∃ d, d = R.data.toList.isEmpty := ⟨_, rfl⟩
  rw [← hda'] at hda ⊢
  rw [← hem] at he1 ⊢
  have HSG := Lib.hid hsg
  have HDA := Lib.hid hda
  have HMD := Lib.hid hmd
  clear hsg hR hRd hdp hbl hda hmd hmk h1 h2 hM hda' hem
  cases em with
  | true =>
    go_enter Tryz.func105, Tryz.ntmps105
    go_wp2_with (first | (go_at_call 94; (with_reducible refine (HSG.out _).mono ?_); rintro e w' ⟨rfl, n, rfl⟩) | (go_at_call 96; (with_reducible refine (HDA.out _).mono ?_); rintro e w' ⟨rfl, rfl⟩) | (go_at_call 97; (with_reducible refine (HMD.out _).mono ?_); rintro e w4 ⟨rfl, hb4⟩; (have hz4 := hb4.size); (have hc4 := fun (p : Addr) (h : p.block < _) => hb4.cell (p := p) h); (have hf4 := fun (p : Addr) (h : p.block < _) => hb4.frozen (p := p) h)))
    refine bodyPost_ret (v := .tuple #[.agg #[.bool false, .string ⟨#[]⟩, .int .i64 0, .int .i64 0, .bool false], .bool false]) (by simp [results, Tryz.results105, go_sem]) rfl ⟨rfl, ?_⟩
    repeat (first | with_reducible exact Below.refl _ _ | with_reducible refine below_drewN ?_ _ | (with_reducible refine Below.setCell ?_ (by simp) _) | (with_reducible refine Below.alloc ?_ (by simp) _))
  | false =>
  cases da with
  | false =>
    go_enter Tryz.func105, Tryz.ntmps105
    go_wp2_with (first | (go_at_call 94; (with_reducible refine (HSG.out _).mono ?_); rintro e w' ⟨rfl, n, rfl⟩) | (go_at_call 96; (with_reducible refine (HDA.out _).mono ?_); rintro e w' ⟨rfl, rfl⟩) | (go_at_call 97; (with_reducible refine (HMD.out _).mono ?_); rintro e w4 ⟨rfl, hb4⟩; (have hz4 := hb4.size); (have hc4 := fun (p : Addr) (h : p.block < _) => hb4.cell (p := p) h); (have hf4 := fun (p : Addr) (h : p.block < _) => hb4.frozen (p := p) h)))
    refine bodyPost_ret (v := .tuple #[.agg #[.bool false, .string ⟨#[]⟩, .int .i64 0, .int .i64 0, .bool false], .bool false]) (by simp [results, Tryz.results105, go_sem]) rfl ⟨rfl, ?_⟩
    repeat (first | with_reducible exact Below.refl _ _ | with_reducible refine below_drewN ?_ _ | (with_reducible refine Below.setCell ?_ (by simp) _) | (with_reducible refine Below.alloc ?_ (by simp) _))
  | true =>
    obtain ⟨mb, md, mp, mi, mn⟩ := M
    have hmd := HMD.out
    unfold Nm.val at hmd ⊢
    simp only [Bool.and_self, Bool.not_false, if_true] at hmd ⊢
    have HMD := Lib.hid hmd
    clear hmd
    go_enter Tryz.func105, Tryz.ntmps105
    go_wp2_with (first | (go_at_call 94; (with_reducible refine (HSG.out _).mono ?_); rintro e w' ⟨rfl, n, rfl⟩) | (go_at_call 96; (with_reducible refine (HDA.out _).mono ?_); rintro e w' ⟨rfl, rfl⟩) | (go_at_call 97; (with_reducible refine (HMD.out _).mono ?_); rintro e w4 ⟨rfl, hb4⟩; (have hz4 := hb4.size); (have hc4 := fun (p : Addr) (h : p.block < _) => hb4.cell (p := p) h); (have hf4 := fun (p : Addr) (h : p.block < _) => hb4.frozen (p := p) h)))
    refine bodyPost_ret (v := .tuple #[.agg #[.bool mb, .string ⟨md.toArray⟩, .int .i64 mp, .int .i64 mi, .bool mn], .bool true]) (by simp [results, Tryz.results105, go_sem, hc4]) rfl ⟨rfl, ?_⟩
    repeat (with_reducible refine Below.setCell ?_ (by simp) _)
    refine Below.trans (b := _) ?_ (hb4.mono (by simp))
    repeat (first | with_reducible exact Below.refl _ _ | with_reducible refine below_drewN ?_ _ | (with_reducible refine Below.setCell ?_ (by simp) _) | (with_reducible refine Below.alloc ?_ (by simp) _))
end Go.Proofs.YtlhcejbimlilaaaGreatDoor
