/- VaR VaS, laid as one. -/
import Derived.Test.YtlhcejbimlilaaaGreatDoorVaF
import Derived.Test.YtlhcejbimlilaaaGreatDoorVaI
set_option linter.unusedVariables false
set_option linter.unusedSimpArgs false
/- The program's readDate. -/
namespace Go.Tk
open Go Go.RowKit
def rdY3 (y m : Int) (o : Option (Int × List UInt8)) : Option (Int × Int × Int × List UInt8) := match o with
  | none => none
  | some (d, e) => if d < 1 ∨ mdP y m < d then none else some (y, m, d, e)
def rdY2 (y : Int) (o : Option (Int × List UInt8)) : Option (Int × Int × Int × List UInt8) := match o with
  | none => none
  | some (m, r) => if m < 1 ∨ 12 < m then none else rdY3 y m (twoP r [])
theorem rdY_eq (s : List UInt8) : rdY s = if okY (ngR s) = true then rdY2 (yrZ s) (twoP ((ngR s).drop ((yrI (ngR s)).toNat + 1)) [45]) else none := rfl
def dtO (o : Option (Int × Int × Int × List UInt8)) : Option (Int × List UInt8) := o.map fun x => (dyP x.1 x.2.1 x.2.2.1, x.2.2.2)
theorem rdD_eq (s : List UInt8) : rdD s = dtO (rdY s) := rfl
def rdV (o : Option (Int × List UInt8)) : Value := match o with
  | none => .tuple #[.int .i64 0, .string ⟨#[]⟩, .bool false]
  | some x => .tuple #[.int .i64 x.1, .string ⟨x.2.toArray⟩, .bool true]
theorem ngR_le (s : List UInt8) : (ngR s).length ≤ s.length := by
  unfold ngR Lib.trimPrefix
  split
  · rw [List.length_drop]; omega
  · exact Nat.le_refl _
end Go.Tk
namespace Go.Proofs.YtlhcejbimlilaaaGreatDoor
open Go.RowKit Go.Tk
theorem cutPre_calls (s p : ByteArray) (w : World) : Calls Tryz.prog 85 #[.string s, .string p] w fun e w' => e = .returned (.tuple #[.string ⟨(Lib.trimPrefix s.data.toList p.data.toList).toArray⟩, .bool (Lib.hasPrefix s.data.toList p.data.toList)]) ∧ w = w' :=
  (Tryz.strings_CutPrefix s p w).mono fun _ _ ⟨h, h2⟩ => ⟨h, h2.symm⟩
set_option maxHeartbeats 4000000 in
set_option maxRecDepth 100000 in
theorem readDate_calls (s : ByteArray) (w : World) (hs : s.size ≤ 4000000000) :
    Calls Tryz.prog 84 #[.string s] w fun e w' => e = .returned (rdV (rdD s.data.toList)) ∧ Below w.heap.size w w' := by
  have hcp := fun w => cutPre_calls s ⟨#[45]⟩ w
  obtain ⟨L, hL⟩ : ∃ L : ByteArray, L = ⟨(ngR s.data.toList).toArray⟩ := ⟨_, rfl⟩
  have hLd : L.data.toList = ngR s.data.toList := by rw [hL]
  have hLs : L.size ≤ 4000000000 := by rw [Lib.size_eq, hLd]; have := ngR_le s.data.toList; rw [← Lib.size_eq] at this; omega
  obtain ⟨ng, hng⟩ : ∃ b, b = ngB s.data.toList := ⟨_, rfl⟩
  have hcp : ∀ w, Calls Tryz.prog 85 #[.string s, .string ⟨#[45]⟩] w fun e w' => e = .returned (.tuple #[.string L, .bool ng]) ∧ w = w' := fun w => by rw [hL, hng]; exact hcp w
  have hix := fun w => idx_calls L 45 w
  have hkg := Lib.indexByte_ge L.data.toList 45
  have hkl := indexByte_lt L.data.toList 45
  obtain ⟨at', hat⟩ : ∃ k, k = yrI L.data.toList := ⟨_, rfl⟩
  have hat2 : Lib.indexByte L.data.toList 45 = at' := hat.symm
  rw [hat2] at hix hkg hkl
  have hix : ∀ w, Calls Tryz.prog 81 #[.string L, .int .u8 45] w fun e w' => e = .returned (.int .i64 at') ∧ w = w' := hix
  rw [← Lib.size_eq] at hkl
  rw [rdD_eq, rdY_eq]
  have hyz : yrZ s.data.toList = if ng = true then -(numN (L.data.toList.take at'.toNat) : Int) else numN (L.data.toList.take at'.toNat) := by unfold yrZ; rw [← hng, ← hLd, hat]
  rw [hyz, ← hLd, ← hat]
  have hok : okY L.data.toList = (decide (4 ≤ at') && decide (at' ≤ 9) && dgB (L.data.toList.take at'.toNat) && !(decide (4 < at') && decide (L.data.toList.head? = some 48))) := by unfold okY; rw [← hat]
  rw [hok]
  have HCP := Lib.hid hcp
  have HIX := Lib.hid hix
  clear hcp hix hL hng hat hat2 hyz hok hLd
  by_cases a4 : ¬ 4 ≤ at'
  · rw [decide_eq_false a4]
    have a4' : at' < 4 := by omega
    clear a4
    show Calls _ _ _ _ fun e w' => e = .returned (.tuple #[.int .i64 0, .string ⟨#[]⟩, .bool false]) ∧ _
    go_enter Tryz.func84, Tryz.ntmps84
    go_wp2_with (first | (go_at_call 85; (with_reducible refine (HCP.out _).mono ?_); rintro e w' ⟨rfl, rfl⟩) | (go_at_call 81; (with_reducible refine (HIX.out _).mono ?_); rintro e w' ⟨rfl, rfl⟩))
    refine bodyPost_ret (v := .tuple #[.int .i64 0, .string ⟨#[]⟩, .bool false]) (by simp [results, Tryz.results84, go_sem]) rfl ⟨rfl, Below.refl _ _⟩
  have a4 := Decidable.not_not.1 a4
  by_cases a9 : ¬ at' ≤ 9
  · rw [decide_eq_true a4, decide_eq_false a9]
    have a9' : 9 < at' := by omega
    clear a9
    show Calls _ _ _ _ fun e w' => e = .returned (.tuple #[.int .i64 0, .string ⟨#[]⟩, .bool false]) ∧ _
    go_enter Tryz.func84, Tryz.ntmps84
    go_wp2_with (first | (go_at_call 85; (with_reducible refine (HCP.out _).mono ?_); rintro e w' ⟨rfl, rfl⟩) | (go_at_call 81; (with_reducible refine (HIX.out _).mono ?_); rintro e w' ⟨rfl, rfl⟩))
    refine bodyPost_ret (v := .tuple #[.int .i64 0, .string ⟨#[]⟩, .bool false]) (by simp [results, Tryz.results84, go_sem]) rfl ⟨rfl, Below.refl _ _⟩
  have a9 := Decidable.not_not.1 a9
  rw [decide_eq_true a4, decide_eq_true a9]
  obtain ⟨k, rfl⟩ : ∃ k : Nat, at' = k := ⟨at'.toNat, by omega⟩
  rw [Int.toNat_natCast]
  have hk4 : 4 ≤ k := by omega
  have hk9 : k ≤ 9 := by omega
  have hkL : k < L.size := by omega
  have x1 := ex_take L k
  have x2 := ex_drop L (k + 1)
  obtain ⟨P, hP⟩ : ∃ P, L.extract 0 k = P := ⟨_, rfl⟩
  obtain ⟨R, hR⟩ : ∃ R, L.extract (k + 1) L.size = R := ⟨_, rfl⟩
  rw [hP] at x1
  rw [hR] at x2
  have hPd : P.data.toList = L.data.toList.take k := by rw [x1]
  have hRd : R.data.toList = L.data.toList.drop (k + 1) := by rw [x2]
  have hPl : P.data.toList.length = k := by rw [hPd, List.length_take, ← Lib.size_eq]; omega
  have hRs : R.size ≤ 4000000000 := by rw [Lib.size_eq, hRd, List.length_drop, ← Lib.size_eq]; omega
  rw [← hPd, ← hRd]
  have hda := fun w => allDigits_calls P w (by rw [Lib.size_eq, hPl]; omega)
  have h0L : 0 < L.size := by omega
  have hcs := ba_cons L h0L
  obtain ⟨c, hc⟩ : ∃ c, L[0] = c := ⟨_, rfl⟩
  rw [hc] at hcs
  have hhd : decide (L.data.toList.head? = some 48) = decide (c = 48) := by rw [hcs]; simp
  rw [hhd]
  have gc : (((L[0]'h0L).toNat : Nat) : Int) = (c.toNat : Int) := by rw [hc]
  obtain ⟨x, hx⟩ : ∃ x : Int, x = (c.toNat : Int) := ⟨_, rfl⟩
  rw [← hx] at gc
  have b48 : (x == 48) = decide (c = 48) := by
    by_cases h : c = 48
    · rw [decide_eq_true h, beq_iff_eq, hx, h]; rfl
    · rw [decide_eq_false h, beq_eq_false_iff_ne]; intro e; exact h (u8_eq (n := 48) (by omega) (by omega))
  obtain ⟨z48, hz48⟩ : ∃ d, d = decide (c = 48) := ⟨_, rfl⟩
  rw [← hz48] at b48 ⊢
  obtain ⟨dg, hdg⟩ : ∃ d, d = dgB P.data.toList := ⟨_, rfl⟩
  rw [← hdg] at hda ⊢
  have HDA := Lib.hid hda
  have HDG := Lib.hid hdg
  have HPL := Lib.hid hPl
  have hw1 : IntKind.i64.wrap ((k : Int) + 1) = (k : Int) + 1 := by rw [IntKind.wrap_i64]; omega
  have hn1 : ((k : Int) + 1).toNat = k + 1 := by omega
  have b9 : ((k : Int) < 4) = False := by simp; omega
  clear hkg hkl a4 a9 x1 x2 hPd hRd hPl hda hcs hc hhd hx hz48 hdg b9
  have A4 : decide (4 < (k : Int)) = decide (4 < k) := by by_cases h : 4 < k <;> simp [h] <;> omega
  rw [A4]
  clear A4
  cases dg with
  | false =>
    show Calls _ _ _ _ fun e w' => e = .returned (.tuple #[.int .i64 0, .string ⟨#[]⟩, .bool false]) ∧ _
    go_enter Tryz.func84, Tryz.ntmps84
    go_wp2_with (first | (go_at_call 85; (with_reducible refine (HCP.out _).mono ?_); rintro e w' ⟨rfl, rfl⟩) | (go_at_call 81; (with_reducible refine (HIX.out _).mono ?_); rintro e w' ⟨rfl, rfl⟩) | (go_at_call 96; (with_reducible refine (HDA.out _).mono ?_); rintro e w' ⟨rfl, rfl⟩))
    refine bodyPost_ret (v := .tuple #[.int .i64 0, .string ⟨#[]⟩, .bool false]) (by simp [results, Tryz.results84, go_sem]) rfl ⟨rfl, Below.refl _ _⟩
  | true =>
  have hbad : (4 < k ∧ z48 = true) ∨ (k = 4 ∨ 4 < k ∧ z48 = false) := by
    by_cases h : 4 < k
    · cases z48
      · exact .inr (.inr ⟨h, rfl⟩)
      · exact .inl ⟨h, rfl⟩
    · exact .inr (.inl (by omega))
  rcases hbad with ⟨h4, rfl⟩ | hgood
  · rw [decide_eq_true h4]
    show Calls _ _ _ _ fun e w' => e = .returned (.tuple #[.int .i64 0, .string ⟨#[]⟩, .bool false]) ∧ _
    go_enter Tryz.func84, Tryz.ntmps84
    go_wp2_with (first | (go_at_call 85; (with_reducible refine (HCP.out _).mono ?_); rintro e w' ⟨rfl, rfl⟩) | (go_at_call 81; (with_reducible refine (HIX.out _).mono ?_); rintro e w' ⟨rfl, rfl⟩) | (go_at_call 96; (with_reducible refine (HDA.out _).mono ?_); rintro e w' ⟨rfl, rfl⟩))
    refine bodyPost_ret (v := .tuple #[.int .i64 0, .string ⟨#[]⟩, .bool false]) (by simp [results, Tryz.results84, go_sem]) rfl ⟨rfl, Below.refl _ _⟩
  have hok : (true && true && true && !(decide (4 < k) && z48)) = true := by
    rcases hgood with rfl | ⟨h, rfl⟩ <;> simp
  rw [hok, if_pos rfl]
  clear hok
  have hpi := fun w => parse_calls P w HDG.out.symm (by intro e; have := HPL.out; rw [e] at this; simp at this; omega) (by rw [HPL.out]; exact hk9)
  have hnl := numN_lt _ HDG.out.symm (by rw [HPL.out]; exact hk9)
  obtain ⟨Nn, hNn⟩ : ∃ n, n = numN P.data.toList := ⟨_, rfl⟩
  rw [← hNn] at hpi hnl ⊢
  obtain ⟨y, hy⟩ : ∃ y : Int, y = if ng = true then -(Nn : Int) else Nn := ⟨_, rfl⟩
  rw [← hy]
  have hyb : -1000000000 < y ∧ y < 1000000000 := by rw [hy]; split <;> omega
  obtain ⟨hyb1, hyb2⟩ := hyb
  have ht1 := fun w => two_calls R ⟨#[45]⟩ w (by omega) (by decide)
  obtain ⟨o1, ho1⟩ : ∃ o, o = twoP R.data.toList [45] := ⟨_, rfl⟩
  have ht1 : ∀ w, Calls Tryz.prog 125 #[.string R, .string ⟨#[45]⟩] w fun e w' => e = .returned (twV o1) ∧ ∃ n, w' = w.drewN n := fun w => by rw [ho1]; exact ht1 w
  rw [← ho1]
  have HPI := Lib.hid hpi
  have HO1 := Lib.hid ho1
  clear hpi hNn ho1
  cases o1 with
  | none =>
    have ht1 : ∀ w, Calls Tryz.prog 125 #[.string R, .string ⟨#[45]⟩] w fun e w' => e = .returned (.tuple #[.int .i64 0, .string ⟨#[]⟩, .bool false]) ∧ ∃ n, w' = w.drewN n := ht1
    have HT1 := Lib.hid ht1
    clear ht1 hy
    show Calls _ _ _ _ fun e w' => e = .returned (.tuple #[.int .i64 0, .string ⟨#[]⟩, .bool false]) ∧ _
    rcases hgood with rfl | ⟨h, rfl⟩
    all_goals
      cases ng
      all_goals
        go_enter Tryz.func84, Tryz.ntmps84
        go_wp2_with (first | (go_at_call 85; (with_reducible refine (HCP.out _).mono ?_); rintro e w' ⟨rfl, rfl⟩) | (go_at_call 81; (with_reducible refine (HIX.out _).mono ?_); rintro e w' ⟨rfl, rfl⟩) | (go_at_call 96; (with_reducible refine (HDA.out _).mono ?_); rintro e w' ⟨rfl, rfl⟩) | (go_at_call 124; (with_reducible refine (HPI.out _).mono ?_); rintro e w5 ⟨rfl, hb5⟩) | (go_at_call 125; (with_reducible refine (HT1.out _).mono ?_); rintro e w' ⟨rfl, n1, rfl⟩))
        refine bodyPost_ret (v := .tuple #[.int .i64 0, .string ⟨#[]⟩, .bool false]) (by simp [results, Tryz.results84, go_sem]) rfl ⟨rfl, below_drewN hb5 _⟩
  | some q =>
  obtain ⟨m, r⟩ := q
  have bm := twoP_bd HO1.out.symm
  obtain ⟨Q, hQ⟩ : ∃ Q : ByteArray, Q = ⟨r.toArray⟩ := ⟨_, rfl⟩
  have hQd : Q.data.toList = r := by rw [hQ]
  have hQs : Q.size ≤ 4000000000 := by rw [Lib.size_eq, hQd]; have := bm.2.2; rw [← Lib.size_eq] at this; omega
  have ht1 : ∀ w, Calls Tryz.prog 125 #[.string R, .string ⟨#[45]⟩] w fun e w' => e = .returned (.tuple #[.int .i64 m, .string Q, .bool true]) ∧ ∃ n, w' = w.drewN n := fun w => by rw [hQ]; exact ht1 w
  have ht2 := fun w => two_calls Q ⟨#[]⟩ w (by omega) (by decide)
  obtain ⟨o2, ho2⟩ : ∃ o, o = twoP r [] := ⟨_, rfl⟩
  have ht2 : ∀ w, Calls Tryz.prog 125 #[.string Q, .string ⟨#[]⟩] w fun e w' => e = .returned (twV o2) ∧ ∃ n, w' = w.drewN n := fun w => by rw [ho2, ← hQd]; exact ht2 w
  show Calls _ _ _ _ fun e w' => e = .returned (rdV (dtO (if m < 1 ∨ 12 < m then none else rdY3 y m (twoP r [])))) ∧ _
  rw [← ho2]
  have HT1 := Lib.hid ht1
  have HO2 := Lib.hid ho2
  obtain ⟨bm1, bm2, _⟩ := bm
  clear ht1 hQ hQd HO1 ho2
  by_cases hm : m < 1 ∨ 12 < m
  · rw [if_pos hm]
    clear ht2 hy
    show Calls _ _ _ _ fun e w' => e = .returned (.tuple #[.int .i64 0, .string ⟨#[]⟩, .bool false]) ∧ _
    have hm2 : m < 1 ∨ 1 ≤ m ∧ 12 < m := by omega
    clear hm
    rcases hm2 with q1 | ⟨q1, q2⟩
    all_goals
      rcases hgood with rfl | ⟨h, rfl⟩
      all_goals
        cases ng
        all_goals
          go_enter Tryz.func84, Tryz.ntmps84
          go_wp2_with (first | (go_at_call 85; (with_reducible refine (HCP.out _).mono ?_); rintro e w' ⟨rfl, rfl⟩) | (go_at_call 81; (with_reducible refine (HIX.out _).mono ?_); rintro e w' ⟨rfl, rfl⟩) | (go_at_call 96; (with_reducible refine (HDA.out _).mono ?_); rintro e w' ⟨rfl, rfl⟩) | (go_at_call 124; (with_reducible refine (HPI.out _).mono ?_); rintro e w5 ⟨rfl, hb5⟩) | (go_at_call 125; (with_reducible refine (HT1.out _).mono ?_); rintro e w' ⟨rfl, n1, rfl⟩))
          refine bodyPost_ret (v := .tuple #[.int .i64 0, .string ⟨#[]⟩, .bool false]) (by simp [results, Tryz.results84, go_sem]) rfl ⟨rfl, below_drewN hb5 _⟩
  rw [if_neg hm]
  have hm1 : 1 ≤ m := by omega
  have hm2 : m ≤ 12 := by omega
  clear hm
  cases o2 with
  | none =>
    have ht2 : ∀ w, Calls Tryz.prog 125 #[.string Q, .string ⟨#[]⟩] w fun e w' => e = .returned (.tuple #[.int .i64 0, .string ⟨#[]⟩, .bool false]) ∧ ∃ n, w' = w.drewN n := ht2
    have HT2 := Lib.hid ht2
    clear ht2 hy
    show Calls _ _ _ _ fun e w' => e = .returned (.tuple #[.int .i64 0, .string ⟨#[]⟩, .bool false]) ∧ _
    rcases hgood with rfl | ⟨h, rfl⟩
    all_goals
      cases ng
      all_goals
        go_enter Tryz.func84, Tryz.ntmps84
        go_wp2_with (first | (go_at_call 85; (with_reducible refine (HCP.out _).mono ?_); rintro e w' ⟨rfl, rfl⟩) | (go_at_call 81; (with_reducible refine (HIX.out _).mono ?_); rintro e w' ⟨rfl, rfl⟩) | (go_at_call 96; (with_reducible refine (HDA.out _).mono ?_); rintro e w' ⟨rfl, rfl⟩) | (go_at_call 124; (with_reducible refine (HPI.out _).mono ?_); rintro e w5 ⟨rfl, hb5⟩) | (go_at_call 125; (with_reducible refine (HT1.out _).mono ?_); rintro e w' ⟨rfl, n1, rfl⟩) | (go_at_call 125; (with_reducible refine (HT2.out _).mono ?_); rintro e w' ⟨rfl, n2, rfl⟩))
        refine bodyPost_ret (v := .tuple #[.int .i64 0, .string ⟨#[]⟩, .bool false]) (by simp [results, Tryz.results84, go_sem]) rfl ⟨rfl, below_drewN hb5 _⟩
  | some q =>
  obtain ⟨d, e⟩ := q
  have bd := twoP_bd HO2.out.symm
  obtain ⟨bd1, bd2, _⟩ := bd
  obtain ⟨E, hE⟩ : ∃ E : ByteArray, E = ⟨e.toArray⟩ := ⟨_, rfl⟩
  have ht2 : ∀ w, Calls Tryz.prog 125 #[.string Q, .string ⟨#[]⟩] w fun e' w' => e' = .returned (.tuple #[.int .i64 d, .string E, .bool true]) ∧ ∃ n, w' = w.drewN n := fun w => by rw [hE]; exact ht2 w
  have HT2 := Lib.hid ht2
  clear ht2 HO2
  have hmd := fun w => monthDays_calls y m w (by omega) (by omega)
  have hmb := mdP_bd y m
  have hdy := fun w => days_calls y m d w (by omega) (by omega) hm1 hm2 bd1 (by omega)
  show Calls _ _ _ _ fun e' w' => e' = .returned (rdV (dtO (if d < 1 ∨ mdP y m < d then none else some (y, m, d, e)))) ∧ _
  have hdc : dtO (if d < 1 ∨ mdP y m < d then none else some (y, m, d, e)) = if d < 1 ∨ mdP y m < d then none else some (dyP y m d, e) := by split <;> rfl
  rw [hdc]
  obtain ⟨M, hM⟩ : ∃ M, M = mdP y m := ⟨_, rfl⟩
  obtain ⟨D, hD⟩ : ∃ D, D = dyP y m d := ⟨_, rfl⟩
  rw [← hM] at hmd hmb ⊢
  rw [← hD] at hdy ⊢
  obtain ⟨hmb1, hmb2⟩ := hmb
  clear hdc hM hD hyb1 hyb2
  by_cases hd : d < 1 ∨ M < d
  · rw [if_pos hd]
    show Calls _ _ _ _ fun e' w' => e' = .returned (.tuple #[.int .i64 0, .string ⟨#[]⟩, .bool false]) ∧ _
    have hd2 : d < 1 ∨ 1 ≤ d ∧ M < d := by omega
    clear hd hE hdy
    rcases hd2 with q1 | ⟨q1, q2⟩
    all_goals
      rcases hgood with rfl | ⟨h, rfl⟩
      all_goals
        cases ng
        all_goals
          first | (rw [if_pos rfl] at hy) | (rw [if_neg (by simp)] at hy)
          subst hy
          have HMD := Lib.hid hmd
          clear hmd
          go_enter Tryz.func84, Tryz.ntmps84
          go_wp2_with (first | (go_at_call 85; (with_reducible refine (HCP.out _).mono ?_); rintro e w' ⟨rfl, rfl⟩) | (go_at_call 81; (with_reducible refine (HIX.out _).mono ?_); rintro e w' ⟨rfl, rfl⟩) | (go_at_call 96; (with_reducible refine (HDA.out _).mono ?_); rintro e w' ⟨rfl, rfl⟩) | (go_at_call 124; (with_reducible refine (HPI.out _).mono ?_); rintro e w5 ⟨rfl, hb5⟩) | (go_at_call 125; (with_reducible refine (HT1.out _).mono ?_); rintro e w' ⟨rfl, n1, rfl⟩) | (go_at_call 125; (with_reducible refine (HT2.out _).mono ?_); rintro e w' ⟨rfl, n2, rfl⟩) | (go_at_call 126; (with_reducible refine (HMD.out _).mono ?_); rintro e w' ⟨rfl, rfl⟩))
          refine bodyPost_ret (v := .tuple #[.int .i64 0, .string ⟨#[]⟩, .bool false]) (by simp [results, Tryz.results84, go_sem]) rfl ⟨rfl, below_drewN hb5 _⟩
  · rw [if_neg hd]
    show Calls _ _ _ _ fun e' w' => e' = .returned (.tuple #[.int .i64 D, .string ⟨e.toArray⟩, .bool true]) ∧ _
    rw [← hE]
    have q1 : 1 ≤ d := by omega
    have q2 : d ≤ M := by omega
    clear hd hE
    rcases hgood with rfl | ⟨h, rfl⟩
    all_goals
      cases ng
      all_goals
        first | (rw [if_pos rfl] at hy) | (rw [if_neg (by simp)] at hy)
        subst hy
        have HMD := Lib.hid hmd
        have HDY := Lib.hid hdy
        clear hmd hdy
        go_enter Tryz.func84, Tryz.ntmps84
        go_wp2_with (first | (go_at_call 85; (with_reducible refine (HCP.out _).mono ?_); rintro e w' ⟨rfl, rfl⟩) | (go_at_call 81; (with_reducible refine (HIX.out _).mono ?_); rintro e w' ⟨rfl, rfl⟩) | (go_at_call 96; (with_reducible refine (HDA.out _).mono ?_); rintro e w' ⟨rfl, rfl⟩) | (go_at_call 124; (with_reducible refine (HPI.out _).mono ?_); rintro e w5 ⟨rfl, hb5⟩) | (go_at_call 125; (with_reducible refine (HT1.out _).mono ?_); rintro e w' ⟨rfl, n1, rfl⟩) | (go_at_call 125; (with_reducible refine (HT2.out _).mono ?_); rintro e w' ⟨rfl, n2, rfl⟩) | (go_at_call 126; (with_reducible refine (HMD.out _).mono ?_); rintro e w' ⟨rfl, rfl⟩) | (go_at_call 127; (with_reducible refine (HDY.out _).mono ?_); rintro e w' ⟨rfl, rfl⟩))
        refine bodyPost_ret (v := .tuple #[.int .i64 D, .string E, .bool true]) (by simp [results, Tryz.results84, go_sem]) rfl ⟨rfl, below_drewN hb5 _⟩
end Go.Proofs.YtlhcejbimlilaaaGreatDoor
/- The program's readTime (written by gen_vas.py). -/
namespace Go.Tk
open Go Go.RowKit
def dgC (c : UInt8) : Bool := decide (48 ≤ c) && decide (c ≤ 57)
theorem dgC_iff (c : UInt8) : dgC c = (decide (48 ≤ c.toNat) && decide (c.toNat ≤ 57)) := rfl
theorem dgN_le (l : List UInt8) : dgN l ≤ l.length := by
  unfold dgN
  have := congrArg List.length (List.takeWhile_append_dropWhile (p := fun c : UInt8 => decide (48 ≤ c) && decide (c ≤ 57)) (l := l))
  rw [List.length_append] at this
  omega
theorem dgN_cons (c : UInt8) (t : List UInt8) : dgN (c :: t) = if dgC c = true then dgN t + 1 else 0 := by
  unfold dgN
  rw [List.takeWhile_cons]
  show (if dgC c = true then _ else _ : List UInt8).length = _
  split <;> rfl
theorem dgN_at : ∀ (l : List UInt8) (k : Nat) (h : k < l.length), (k < dgN l → dgC l[k] = true) ∧ (k = dgN l → dgC l[k] = false)
  | [], k, h => absurd h (Nat.not_lt_zero _)
  | c :: t, 0, h => by
    rw [dgN_cons]
    cases hc : dgC c with
    | true => simp [hc]
    | false => simp [hc]
  | c :: t, k + 1, h => by
    rw [dgN_cons]
    cases hc : dgC c with
    | true =>
      have := dgN_at t k (by simpa using h)
      simp only [if_true, List.getElem_cons_succ]
      exact ⟨fun a => this.1 (by omega), fun a => this.2 (by omega)⟩
    | false => simp
def rtV (o : Option (Int × List UInt8 × List UInt8)) : Value := match o with
  | none => .tuple #[.int .i64 0, .string ⟨#[]⟩, .string ⟨#[]⟩, .bool false]
  | some x => .tuple #[.int .i64 x.1, .string ⟨x.2.1.toArray⟩, .string ⟨x.2.2.toArray⟩, .bool true]
/-- What a time says, where its three numbers stand. -/
def rdT2 (h m c : Int) (r : List UInt8) : Option (Int × List UInt8 × List UInt8) := match rdF r with
  | none => none
  | some (p, e) => if h = 24 ∧ (0 < m ∨ 0 < c ∨ p ≠ []) then none else some (h * 3600 + m * 60 + c, p, e)
theorem rdT_eq {s r1 r2 r3 : List UInt8} {h m c : Int} (h1 : twoP s [58] = some (h, r1)) (h2 : twoP r1 [58] = some (m, r2)) (h3 : twoP r2 [] = some (c, r3)) : rdT s = if 59 < m ∨ 59 < c ∨ 24 < h then none else rdT2 h m c r3 := by
  unfold rdT rdH
  by_cases hb : 59 < m ∨ 59 < c ∨ 24 < h
  · simp only [h1, h2, h3, if_pos hb]
  · simp only [h1, h2, h3, if_neg hb]; rfl
theorem rdT_1 {s : List UInt8} (h1 : twoP s [58] = none) : rdT s = none := by unfold rdT rdH; simp only [h1]
theorem rdT_2 {s r1 : List UInt8} {h : Int} (h1 : twoP s [58] = some (h, r1)) (h2 : twoP r1 [58] = none) : rdT s = none := by unfold rdT rdH; simp only [h1, h2]
theorem rdT_3 {s r1 r2 : List UInt8} {h m : Int} (h1 : twoP s [58] = some (h, r1)) (h2 : twoP r1 [58] = some (m, r2)) (h3 : twoP r2 [] = none) : rdT s = none := by unfold rdT rdH; simp only [h1, h2, h3]
end Go.Tk
namespace Go.Proofs.YtlhcejbimlilaaaGreatDoor
open Go.RowKit Go.Tk
theorem two_at (s : ByteArray) (l mk : List UInt8) (w : World) (hs : s.size ≤ 4000000000) (hm : mk.length ≤ 1) (hl : s.data.toList = l) : Calls Tryz.prog 125 #[.string s, .string ⟨mk.toArray⟩] w fun e w' => e = .returned (twV (twoP l mk)) ∧ ∃ n, w' = w.drewN n := by
  have := two_calls s ⟨mk.toArray⟩ w hs (by rw [sz_mk]; exact hm)
  rw [hl] at this
  exact this
set_option maxHeartbeats 4000000 in
set_option maxRecDepth 100000 in
theorem readTime_calls (s : ByteArray) (w : World) (hs : s.size ≤ 4000000000) :
    Calls Tryz.prog 86 #[.string s] w fun e w' => e = .returned (rtV (rdT s.data.toList)) ∧ ∃ n, w' = w.drewN n := by
  have hnil : ∀ mk : List UInt8, mk.length ≤ 1 → ∀ w, Calls Tryz.prog 125 #[.string ⟨#[]⟩, .string ⟨mk.toArray⟩] w fun e w' => e = .returned (.tuple #[.int .i64 0, .string ⟨#[]⟩, .bool false]) ∧ ∃ n, w' = w.drewN n := fun mk hm w => two_at ⟨#[]⟩ [] mk w (by decide) hm rfl
  have HNIL := Lib.hid hnil
  clear hnil
  have ht1 := fun w => two_at s s.data.toList [58] w hs (by decide) rfl
  cases ho1 : twoP s.data.toList [58] with
  | none =>
    rw [rdT_1 ho1]
    rw [ho1] at ht1
    show Calls _ _ _ _ fun e w' => e = .returned (.tuple #[.int .i64 0, .string ⟨#[]⟩, .string ⟨#[]⟩, .bool false]) ∧ _
    have ht1 : ∀ w, Calls Tryz.prog 125 #[.string s, .string ⟨#[58]⟩] w fun e w' => e = .returned (.tuple #[.int .i64 0, .string ⟨#[]⟩, .bool false]) ∧ ∃ n, w' = w.drewN n := ht1
    have ht2 := HNIL.out [58] (by decide)
    have ht3 := HNIL.out [] (by decide)
    have HT1 := Lib.hid ht1
    have HT2 := Lib.hid ht2
    have HT3 := Lib.hid ht3
    clear ht1 ht2 ht3 ho1
    go_enter Tryz.func86, Tryz.ntmps86
    go_wp2_with (first | (go_at_call 125; (with_reducible refine (HT1.out _).mono ?_); rintro e w' ⟨rfl, n1, rfl⟩) | (go_at_call 125; (with_reducible refine (HT2.out _).mono ?_); rintro e w' ⟨rfl, n2, rfl⟩) | (go_at_call 125; (with_reducible refine (HT3.out _).mono ?_); rintro e w' ⟨rfl, n3, rfl⟩))
    refine bodyPost_ret (v := .tuple #[.int .i64 0, .string ⟨#[]⟩, .string ⟨#[]⟩, .bool false]) (by simp [results, Tryz.results86, go_sem]) rfl ⟨rfl, _, rfl⟩
  | some q =>
  obtain ⟨h, r1⟩ := q
  rw [ho1] at ht1
  obtain ⟨bh1, bh2, bh3⟩ := twoP_bd ho1
  rw [← Lib.size_eq] at bh3
  obtain ⟨R1, hR1⟩ : ∃ R : ByteArray, R = ⟨r1.toArray⟩ := ⟨_, rfl⟩
  have hR1d : R1.data.toList = r1 := by rw [hR1]
  have hR1s : R1.size ≤ 4000000000 := by rw [Lib.size_eq, hR1d]; omega
  have ht1 : ∀ w, Calls Tryz.prog 125 #[.string s, .string ⟨#[58]⟩] w fun e w' => e = .returned (.tuple #[.int .i64 h, .string R1, .bool true]) ∧ ∃ n, w' = w.drewN n := fun w => by rw [hR1]; exact ht1 w
  have ht2 := fun w => two_at R1 r1 [58] w hR1s (by decide) hR1d
  have HT1 := Lib.hid ht1
  clear ht1 hR1
  cases ho2 : twoP r1 [58] with
  | none =>
    rw [rdT_2 ho1 ho2]
    rw [ho2] at ht2
    show Calls _ _ _ _ fun e w' => e = .returned (.tuple #[.int .i64 0, .string ⟨#[]⟩, .string ⟨#[]⟩, .bool false]) ∧ _
    have ht2 : ∀ w, Calls Tryz.prog 125 #[.string R1, .string ⟨#[58]⟩] w fun e w' => e = .returned (.tuple #[.int .i64 0, .string ⟨#[]⟩, .bool false]) ∧ ∃ n, w' = w.drewN n := ht2
    have ht3 := HNIL.out [] (by decide)
    have HT2 := Lib.hid ht2
    have HT3 := Lib.hid ht3
    clear ht2 ht3 ho1 ho2 hR1d
    go_enter Tryz.func86, Tryz.ntmps86
    go_wp2_with (first | (go_at_call 125; (with_reducible refine (HT1.out _).mono ?_); rintro e w' ⟨rfl, n1, rfl⟩) | (go_at_call 125; (with_reducible refine (HT2.out _).mono ?_); rintro e w' ⟨rfl, n2, rfl⟩) | (go_at_call 125; (with_reducible refine (HT3.out _).mono ?_); rintro e w' ⟨rfl, n3, rfl⟩))
    refine bodyPost_ret (v := .tuple #[.int .i64 0, .string ⟨#[]⟩, .string ⟨#[]⟩, .bool false]) (by simp [results, Tryz.results86, go_sem]) rfl ⟨rfl, _, rfl⟩
  | some q =>
  obtain ⟨m, r2⟩ := q
  rw [ho2] at ht2
  obtain ⟨bm1, bm2, bm3⟩ := twoP_bd ho2
  obtain ⟨R2, hR2⟩ : ∃ R : ByteArray, R = ⟨r2.toArray⟩ := ⟨_, rfl⟩
  have hR2d : R2.data.toList = r2 := by rw [hR2]
  have hR2s : R2.size ≤ 4000000000 := by rw [Lib.size_eq, hR2d]; omega
  have ht2 : ∀ w, Calls Tryz.prog 125 #[.string R1, .string ⟨#[58]⟩] w fun e w' => e = .returned (.tuple #[.int .i64 m, .string R2, .bool true]) ∧ ∃ n, w' = w.drewN n := fun w => by rw [hR2]; exact ht2 w
  have ht3 := fun w => two_at R2 r2 [] w hR2s (by decide) hR2d
  have HT2 := Lib.hid ht2
  clear ht2 hR2
  cases ho3 : twoP r2 [] with
  | none =>
    rw [rdT_3 ho1 ho2 ho3]
    rw [ho3] at ht3
    show Calls _ _ _ _ fun e w' => e = .returned (.tuple #[.int .i64 0, .string ⟨#[]⟩, .string ⟨#[]⟩, .bool false]) ∧ _
    have ht3 : ∀ w, Calls Tryz.prog 125 #[.string R2, .string ⟨#[]⟩] w fun e w' => e = .returned (.tuple #[.int .i64 0, .string ⟨#[]⟩, .bool false]) ∧ ∃ n, w' = w.drewN n := ht3
    have HT3 := Lib.hid ht3
    clear ht3 ho1 ho2 ho3 hR1d hR2d
    go_enter Tryz.func86, Tryz.ntmps86
    go_wp2_with (first | (go_at_call 125; (with_reducible refine (HT1.out _).mono ?_); rintro e w' ⟨rfl, n1, rfl⟩) | (go_at_call 125; (with_reducible refine (HT2.out _).mono ?_); rintro e w' ⟨rfl, n2, rfl⟩) | (go_at_call 125; (with_reducible refine (HT3.out _).mono ?_); rintro e w' ⟨rfl, n3, rfl⟩))
    refine bodyPost_ret (v := .tuple #[.int .i64 0, .string ⟨#[]⟩, .string ⟨#[]⟩, .bool false]) (by simp [results, Tryz.results86, go_sem]) rfl ⟨rfl, _, rfl⟩
  | some q =>
  obtain ⟨c, r3⟩ := q
  rw [ho3] at ht3
  obtain ⟨bc1, bc2, bc3⟩ := twoP_bd ho3
  obtain ⟨R3, hR3⟩ : ∃ R : ByteArray, R = ⟨r3.toArray⟩ := ⟨_, rfl⟩
  have hR3d : R3.data.toList = r3 := by rw [hR3]
  have hR3s : R3.size ≤ 4000000000 := by rw [Lib.size_eq, hR3d]; omega
  have ht3 : ∀ w, Calls Tryz.prog 125 #[.string R2, .string ⟨#[]⟩] w fun e w' => e = .returned (.tuple #[.int .i64 c, .string R3, .bool true]) ∧ ∃ n, w' = w.drewN n := fun w => by rw [hR3]; exact ht3 w
  have HT3 := Lib.hid ht3
  rw [rdT_eq ho1 ho2 ho3]
  clear ht3 ho1 ho2 ho3 hR1d hR2d bh3 bm3 bc3
  by_cases hbad : 59 < m ∨ 59 < c ∨ 24 < h
  · rw [if_pos hbad]
    show Calls _ _ _ _ fun e w' => e = .returned (.tuple #[.int .i64 0, .string ⟨#[]⟩, .string ⟨#[]⟩, .bool false]) ∧ _
    have hb2 : 59 < m ∨ m ≤ 59 ∧ (59 < c ∨ c ≤ 59 ∧ 24 < h) := by omega
    clear hbad hR3 hR3d
    rcases hb2 with q1 | ⟨q1, q2 | ⟨q2, q3⟩⟩
    all_goals
      go_enter Tryz.func86, Tryz.ntmps86
      go_wp2_with (first | (go_at_call 125; (with_reducible refine (HT1.out _).mono ?_); rintro e w' ⟨rfl, n1, rfl⟩) | (go_at_call 125; (with_reducible refine (HT2.out _).mono ?_); rintro e w' ⟨rfl, n2, rfl⟩) | (go_at_call 125; (with_reducible refine (HT3.out _).mono ?_); rintro e w' ⟨rfl, n3, rfl⟩))
      refine bodyPost_ret (v := .tuple #[.int .i64 0, .string ⟨#[]⟩, .string ⟨#[]⟩, .bool false]) (by simp [results, Tryz.results86, go_sem]) rfl ⟨rfl, _, rfl⟩
  rw [if_neg hbad]
  have q1 : m ≤ 59 := by omega
  have q2 : c ≤ 59 := by omega
  have q3 : h ≤ 24 := by omega
  clear hbad
  have hcp := fun w => cutPre_calls R3 ⟨#[46]⟩ w
  rw [hR3d] at hcp
  obtain ⟨B, hB⟩ : ∃ B : ByteArray, B = ⟨(Lib.trimPrefix r3 [46]).toArray⟩ := ⟨_, rfl⟩
  have hBd : B.data.toList = Lib.trimPrefix r3 [46] := by rw [hB]
  have hcp : ∀ w, Calls Tryz.prog 85 #[.string R3, .string ⟨#[46]⟩] w fun e w' => e = .returned (.tuple #[.string B, .bool (Lib.hasPrefix r3 [46])]) ∧ w = w' := fun w => by rw [hB]; exact hcp w
  cases hdot : Lib.hasPrefix r3 [46] with
  | false =>
    rw [hdot] at hcp
    have hrf : rdF r3 = some ([], r3) := by unfold rdF; rw [hdot]; rfl
    have hr2 : rdT2 h m c r3 = if h = 24 ∧ (0 < m ∨ 0 < c ∨ ([] : List UInt8) ≠ []) then none else some (h * 3600 + m * 60 + c, [], r3) := by unfold rdT2; rw [hrf]
    rw [hr2]
    have HCP := Lib.hid hcp
    clear hcp hB hBd hdot hrf hr2
    by_cases hb : h = 24 ∧ (0 < m ∨ 0 < c ∨ ([] : List UInt8) ≠ [])
    · rw [if_pos hb]
      show Calls _ _ _ _ fun e w' => e = .returned (.tuple #[.int .i64 0, .string ⟨#[]⟩, .string ⟨#[]⟩, .bool false]) ∧ _
      obtain ⟨rfl, hb2⟩ := hb
      have hb3 : 0 < m ∨ m ≤ 0 ∧ 0 < c := by simp at hb2; omega
      clear hb2 hR3 hR3d
      rcases hb3 with q4 | ⟨q4, q5⟩
      all_goals
        go_enter Tryz.func86, Tryz.ntmps86
        go_wp2_with (first | (go_at_call 125; (with_reducible refine (HT1.out _).mono ?_); rintro e w' ⟨rfl, n1, rfl⟩) | (go_at_call 125; (with_reducible refine (HT2.out _).mono ?_); rintro e w' ⟨rfl, n2, rfl⟩) | (go_at_call 125; (with_reducible refine (HT3.out _).mono ?_); rintro e w' ⟨rfl, n3, rfl⟩) | (go_at_call 85; (with_reducible refine (HCP.out _).mono ?_); rintro e w' ⟨rfl, rfl⟩))
        refine bodyPost_ret (v := .tuple #[.int .i64 0, .string ⟨#[]⟩, .string ⟨#[]⟩, .bool false]) (by simp [results, Tryz.results86, go_sem]) rfl ⟨rfl, _, rfl⟩
    · rw [if_neg hb]
      show Calls _ _ _ _ fun e w' => e = .returned (.tuple #[.int .i64 (h * 3600 + m * 60 + c), .string ⟨#[]⟩, .string ⟨r3.toArray⟩, .bool true]) ∧ _
      rw [← hR3]
      have hb3 : h < 24 ∨ h = 24 ∧ m = 0 ∧ c = 0 := by
        by_cases e : h < 24
        · exact .inl e
        · right
          have e24 : h = 24 := by omega
          refine ⟨e24, ?_, ?_⟩
          · by_cases e2 : 0 < m
            · exact absurd ⟨e24, .inl e2⟩ hb
            · omega
          · by_cases e2 : 0 < c
            · exact absurd ⟨e24, .inr (.inl e2)⟩ hb
            · omega
      clear hb hR3 hR3d
      rcases hb3 with q4 | ⟨rfl, rfl, rfl⟩
      · go_enter Tryz.func86, Tryz.ntmps86
        go_wp2_with (first | (go_at_call 125; (with_reducible refine (HT1.out _).mono ?_); rintro e w' ⟨rfl, n1, rfl⟩) | (go_at_call 125; (with_reducible refine (HT2.out _).mono ?_); rintro e w' ⟨rfl, n2, rfl⟩) | (go_at_call 125; (with_reducible refine (HT3.out _).mono ?_); rintro e w' ⟨rfl, n3, rfl⟩) | (go_at_call 85; (with_reducible refine (HCP.out _).mono ?_); rintro e w' ⟨rfl, rfl⟩))
        refine bodyPost_ret (v := .tuple #[.int .i64 (h * 3600 + m * 60 + c), .string ⟨#[]⟩, .string R3, .bool true]) (by simp [results, Tryz.results86, go_sem]) rfl ⟨rfl, _, rfl⟩
      · go_enter Tryz.func86, Tryz.ntmps86
        go_wp2_with (first | (go_at_call 125; (with_reducible refine (HT1.out _).mono ?_); rintro e w' ⟨rfl, n1, rfl⟩) | (go_at_call 125; (with_reducible refine (HT2.out _).mono ?_); rintro e w' ⟨rfl, n2, rfl⟩) | (go_at_call 125; (with_reducible refine (HT3.out _).mono ?_); rintro e w' ⟨rfl, n3, rfl⟩) | (go_at_call 85; (with_reducible refine (HCP.out _).mono ?_); rintro e w' ⟨rfl, rfl⟩))
        refine bodyPost_ret (v := .tuple #[.int .i64 (24 * 3600 + 0 * 60 + 0), .string ⟨#[]⟩, .string R3, .bool true]) (by simp [results, Tryz.results86, go_sem]) rfl ⟨rfl, _, rfl⟩
  | true =>
    rw [hdot] at hcp
    have hBd2 : B.data.toList = r3.drop 1 := by rw [hBd]; unfold Lib.trimPrefix; rw [hdot]; rfl
    have hBs : B.size ≤ 4000000000 := by rw [Lib.size_eq, hBd2, List.length_drop]; rw [Lib.size_eq, hR3d] at hR3s; omega
    have HCP := Lib.hid hcp
    obtain ⟨n, hn⟩ : ∃ n, n = dgN B.data.toList := ⟨_, rfl⟩
    have hnB : n ≤ B.size := by rw [hn, Lib.size_eq]; exact dgN_le _
    have hrf : rdF r3 = if n = 0 then none else some (tr0 (B.data.toList.take n), B.data.toList.drop n) := by unfold rdF; rw [hdot, if_pos rfl, ← hBd2, ← hn]
    have hat := fun k (hk : k < B.data.toList.length) => dgN_at B.data.toList k hk
    rw [← hn] at hat
    have HAT := Lib.hid hat
    clear hcp hB hBd hdot hR3 hR3d hBd2 hn hat
    obtain ⟨O, hO⟩ : ∃ O, O = rdT2 h m c r3 := ⟨_, rfl⟩
    have hOe : O = match rdF r3 with | none => none | some (p, e) => if h = 24 ∧ (0 < m ∨ 0 < c ∨ p ≠ []) then none else some (h * 3600 + m * 60 + c, p, e) := hO
    rw [hrf] at hOe
    rw [← hO]
    have HOE := Lib.hid hOe
    clear hO hOe hrf
    go_enter Tryz.func86, Tryz.ntmps86
    go_wp2_with (first | (go_at_call 125; (with_reducible refine (HT1.out _).mono ?_); rintro e w' ⟨rfl, n1, rfl⟩) | (go_at_call 125; (with_reducible refine (HT2.out _).mono ?_); rintro e w' ⟨rfl, n2, rfl⟩) | (go_at_call 125; (with_reducible refine (HT3.out _).mono ?_); rintro e w' ⟨rfl, n3, rfl⟩) | (go_at_call 85; (with_reducible refine (HCP.out _).mono ?_); rintro e w' ⟨rfl, rfl⟩))
    go_loop [16] (fun i => ∃ k : Nat, k ≤ n ∧ i = .int .i64 (k : Nat)) (fun i => n - (intOf i).toNat)
    case atStart => exact ⟨0, Nat.zero_le _, rfl⟩
    case round =>
      obtain ⟨k, hk, rfl⟩ := hrel
      by_cases hkn : k < n
      · have hkB : k < B.size := by omega
        have hd := (HAT.out k (by rw [← Lib.size_eq]; exact hkB)).1 hkn
        rw [ba_get B k hkB, dgC_iff] at hd
        simp only [Bool.and_eq_true, decide_eq_true_eq] at hd
        obtain ⟨x, hx⟩ : ∃ x : Int, (((B[k]'hkB).toNat : Nat) : Int) = x := ⟨_, rfl⟩
        have hd1 : 48 ≤ x := by omega
        have hd2 : x ≤ 57 := by omega
        clear hd
        go_wp2_with fail
        go_round
        case rel => exact ⟨k + 1, by omega, by go_num⟩
        case measure => simp [intOf]; omega
      obtain rfl : k = n := by omega
      have hend : ¬ k < B.size ∨ ∃ hkB : k < B.size, (((B[k]'hkB).toNat : Nat) : Int) < 48 ∨ 48 ≤ (((B[k]'hkB).toNat : Nat) : Int) ∧ 57 < (((B[k]'hkB).toNat : Nat) : Int) := by
        by_cases hkB : k < B.size
        · right
          refine ⟨hkB, ?_⟩
          have hd := (HAT.out k (by rw [← Lib.size_eq]; exact hkB)).2 rfl
          rw [ba_get B k hkB, dgC_iff] at hd
          by_cases h1 : (B[k]'hkB).toNat < 48
          · left; omega
          · right
            rw [decide_eq_true (by omega)] at hd
            have h2 := of_decide_eq_false (show decide ((B[k]'hkB).toNat ≤ 57) = false from hd)
            omega
        · exact .inl hkB
      by_cases hk0 : k = 0
      · subst hk0
        have hfin : O = none := by rw [HOE.out]; rfl
        subst hfin
        clear HOE hkn
        rcases hend with hend | ⟨hkB, he | ⟨he1, he2⟩⟩
        · have hz : B.size ≤ 0 := by omega
          go_wp2_with fail
          refine bodyPost_ret (v := .tuple #[.int .i64 0, .string ⟨#[]⟩, .string ⟨#[]⟩, .bool false]) (by simp [results, Tryz.results86, go_sem]) rfl ⟨rfl, _, rfl⟩
        · obtain ⟨x, hx⟩ : ∃ x : Int, (((B[0]'hkB).toNat : Nat) : Int) = x := ⟨_, rfl⟩
          rw [hx] at he
          go_wp2_with fail
          refine bodyPost_ret (v := .tuple #[.int .i64 0, .string ⟨#[]⟩, .string ⟨#[]⟩, .bool false]) (by simp [results, Tryz.results86, go_sem]) rfl ⟨rfl, _, rfl⟩
        · obtain ⟨x, hx⟩ : ∃ x : Int, (((B[0]'hkB).toNat : Nat) : Int) = x := ⟨_, rfl⟩
          rw [hx] at he1 he2
          go_wp2_with fail
          refine bodyPost_ret (v := .tuple #[.int .i64 0, .string ⟨#[]⟩, .string ⟨#[]⟩, .bool false]) (by simp [results, Tryz.results86, go_sem]) rfl ⟨rfl, _, rfl⟩
      have hk1 : 0 < k := by omega
      have hoe : O = if h = 24 ∧ (0 < m ∨ 0 < c ∨ tr0 (B.data.toList.take k) ≠ []) then none else some (h * 3600 + m * 60 + c, tr0 (B.data.toList.take k), B.data.toList.drop k) := by rw [HOE.out, if_neg hk0]
      have x1 := ex_take B k
      have x2 := ex_drop B k
      obtain ⟨P, hP⟩ : ∃ P, B.extract 0 k = P := ⟨_, rfl⟩
      obtain ⟨E, hE⟩ : ∃ E, B.extract k B.size = E := ⟨_, rfl⟩
      rw [hP] at x1
      rw [hE] at x2
      have hPd : P.data.toList = B.data.toList.take k := by rw [x1]
      have hPs : P.size ≤ 4000000000 := by rw [Lib.size_eq, hPd, List.length_take, ← Lib.size_eq]; omega
      have htr := fun w => trimR_calls P w (by omega)
      rw [hPd] at htr
      have hpe := emp_ba (tr0 (B.data.toList.take k))
      obtain ⟨D, hD⟩ : ∃ D : ByteArray, D = ⟨(tr0 (B.data.toList.take k)).toArray⟩ := ⟨_, rfl⟩
      rw [← hD] at htr hpe
      have hDd : (⟨(tr0 (B.data.toList.take k)).toArray⟩ : ByteArray) = D := hD.symm
      have hEd : (⟨(B.data.toList.drop k).toArray⟩ : ByteArray) = E := x2.symm
      obtain ⟨T, hT⟩ : ∃ T, T = tr0 (B.data.toList.take k) := ⟨_, rfl⟩
      rw [← hT] at hoe hpe hDd
      obtain ⟨U, hU⟩ : ∃ U, U = B.data.toList.drop k := ⟨_, rfl⟩
      rw [← hU] at hoe hEd
      have HTR := Lib.hid htr
      have HOE2 := Lib.hid hoe
      have HDD := Lib.hid hDd
      have HED := Lib.hid hEd
      clear HOE hkn hoe x1 x2 hPd htr hD hDd hEd hT hU HAT hk0
      rcases hend with hend | ⟨hkB, he | ⟨he1, he2⟩⟩
      · have hz : B.size ≤ k := by omega
        go_upto_region 14 with fail
        generalize hw4 : World.drewN w _ = w4
        have HW4 := Lib.hid hw4
        clear hw4
        go_quiet (first | exact rfl | (go_at_call 82; exact quiet_eq (HTR.out _)))
        have hoe := HOE2.out
        by_cases hb : h = 24 ∧ (0 < m ∨ 0 < c ∨ T ≠ [])
        · rw [if_pos hb] at hoe
          subst hoe
          obtain ⟨rfl, hb2⟩ := hb
          have hb3 : 0 < m ∨ m ≤ 0 ∧ (0 < c ∨ c ≤ 0 ∧ (D.toList == []) = false) := by
            by_cases e1 : 0 < m
            · exact .inl e1
            · right
              refine ⟨by omega, ?_⟩
              by_cases e2 : 0 < c
              · exact .inl e2
              · refine .inr ⟨by omega, ?_⟩
                rw [hpe]
                refine decide_eq_false fun e3 => ?_
                rcases hb2 with g | g | g
                · exact e1 g
                · exact e2 g
                · exact g e3
          clear hb2 hpe HOE2
          rcases hb3 with q4 | ⟨q4, q5 | ⟨q5, q6⟩⟩
          all_goals
            go_wp2_with fail
            refine bodyPost_ret (v := .tuple #[.int .i64 0, .string ⟨#[]⟩, .string ⟨#[]⟩, .bool false]) (by simp [results, Tryz.results86, go_sem]) rfl ⟨rfl, _, by rw [← HW4.out, World.drewN_drewN]⟩
        · rw [if_neg hb] at hoe
          subst hoe
          have hb3 : h < 24 ∨ h = 24 ∧ m = 0 ∧ c = 0 ∧ (D.toList == []) = true := by
            by_cases e : h < 24
            · exact .inl e
            · right
              have e24 : h = 24 := by omega
              refine ⟨e24, ?_, ?_, ?_⟩
              · by_cases e2 : 0 < m
                · exact absurd ⟨e24, .inl e2⟩ hb
                · omega
              · by_cases e2 : 0 < c
                · exact absurd ⟨e24, .inr (.inl e2)⟩ hb
                · omega
              · rw [hpe]
                by_cases e2 : T = []
                · exact decide_eq_true e2
                · exact absurd ⟨e24, .inr (.inr e2)⟩ hb
          clear hb hpe HOE2
          rcases hb3 with q4 | ⟨rfl, rfl, rfl, q6⟩
          · go_wp2_with fail
            refine bodyPost_ret (v := .tuple #[.int .i64 (h * 3600 + m * 60 + c), .string D, .string E, .bool true]) (by simp [results, Tryz.results86, go_sem]) rfl ⟨by rw [← HDD.out, ← HED.out]; rfl, _, by rw [← HW4.out, World.drewN_drewN]⟩
          · go_wp2_with fail
            refine bodyPost_ret (v := .tuple #[.int .i64 (24 * 3600 + 0 * 60 + 0), .string D, .string E, .bool true]) (by simp [results, Tryz.results86, go_sem]) rfl ⟨by rw [← HDD.out, ← HED.out]; rfl, _, by rw [← HW4.out, World.drewN_drewN]⟩
      · obtain ⟨x, hx⟩ : ∃ x : Int, (((B[k]'hkB).toNat : Nat) : Int) = x := ⟨_, rfl⟩
        rw [hx] at he
        go_upto_region 14 with fail
        generalize hw4 : World.drewN w _ = w4
        have HW4 := Lib.hid hw4
        clear hw4
        go_quiet (first | exact rfl | (go_at_call 82; exact quiet_eq (HTR.out _)))
        have hoe := HOE2.out
        by_cases hb : h = 24 ∧ (0 < m ∨ 0 < c ∨ T ≠ [])
        · rw [if_pos hb] at hoe
          subst hoe
          obtain ⟨rfl, hb2⟩ := hb
          have hb3 : 0 < m ∨ m ≤ 0 ∧ (0 < c ∨ c ≤ 0 ∧ (D.toList == []) = false) := by
            by_cases e1 : 0 < m
            · exact .inl e1
            · right
              refine ⟨by omega, ?_⟩
              by_cases e2 : 0 < c
              · exact .inl e2
              · refine .inr ⟨by omega, ?_⟩
                rw [hpe]
                refine decide_eq_false fun e3 => ?_
                rcases hb2 with g | g | g
                · exact e1 g
                · exact e2 g
                · exact g e3
          clear hb2 hpe HOE2
          rcases hb3 with q4 | ⟨q4, q5 | ⟨q5, q6⟩⟩
          all_goals
            go_wp2_with fail
            refine bodyPost_ret (v := .tuple #[.int .i64 0, .string ⟨#[]⟩, .string ⟨#[]⟩, .bool false]) (by simp [results, Tryz.results86, go_sem]) rfl ⟨rfl, _, by rw [← HW4.out, World.drewN_drewN]⟩
        · rw [if_neg hb] at hoe
          subst hoe
          have hb3 : h < 24 ∨ h = 24 ∧ m = 0 ∧ c = 0 ∧ (D.toList == []) = true := by
            by_cases e : h < 24
            · exact .inl e
            · right
              have e24 : h = 24 := by omega
              refine ⟨e24, ?_, ?_, ?_⟩
              · by_cases e2 : 0 < m
                · exact absurd ⟨e24, .inl e2⟩ hb
                · omega
              · by_cases e2 : 0 < c
                · exact absurd ⟨e24, .inr (.inl e2)⟩ hb
                · omega
              · rw [hpe]
                by_cases e2 : T = []
                · exact decide_eq_true e2
                · exact absurd ⟨e24, .inr (.inr e2)⟩ hb
          clear hb hpe HOE2
          rcases hb3 with q4 | ⟨rfl, rfl, rfl, q6⟩
          · go_wp2_with fail
            refine bodyPost_ret (v := .tuple #[.int .i64 (h * 3600 + m * 60 + c), .string D, .string E, .bool true]) (by simp [results, Tryz.results86, go_sem]) rfl ⟨by rw [← HDD.out, ← HED.out]; rfl, _, by rw [← HW4.out, World.drewN_drewN]⟩
          · go_wp2_with fail
            refine bodyPost_ret (v := .tuple #[.int .i64 (24 * 3600 + 0 * 60 + 0), .string D, .string E, .bool true]) (by simp [results, Tryz.results86, go_sem]) rfl ⟨by rw [← HDD.out, ← HED.out]; rfl, _, by rw [← HW4.out, World.drewN_drewN]⟩
      · obtain ⟨x, hx⟩ : ∃ x : Int, (((B[k]'hkB).toNat : Nat) : Int) = x := ⟨_, rfl⟩
        rw [hx] at he1 he2
        go_upto_region 14 with fail
        generalize hw4 : World.drewN w _ = w4
        have HW4 := Lib.hid hw4
        clear hw4
        go_quiet (first | exact rfl | (go_at_call 82; exact quiet_eq (HTR.out _)))
        have hoe := HOE2.out
        by_cases hb : h = 24 ∧ (0 < m ∨ 0 < c ∨ T ≠ [])
        · rw [if_pos hb] at hoe
          subst hoe
          obtain ⟨rfl, hb2⟩ := hb
          have hb3 : 0 < m ∨ m ≤ 0 ∧ (0 < c ∨ c ≤ 0 ∧ (D.toList == []) = false) := by
            by_cases e1 : 0 < m
            · exact .inl e1
            · right
              refine ⟨by omega, ?_⟩
              by_cases e2 : 0 < c
              · exact .inl e2
              · refine .inr ⟨by omega, ?_⟩
                rw [hpe]
                refine decide_eq_false fun e3 => ?_
                rcases hb2 with g | g | g
                · exact e1 g
                · exact e2 g
                · exact g e3
          clear hb2 hpe HOE2
          rcases hb3 with q4 | ⟨q4, q5 | ⟨q5, q6⟩⟩
          all_goals
            go_wp2_with fail
            refine bodyPost_ret (v := .tuple #[.int .i64 0, .string ⟨#[]⟩, .string ⟨#[]⟩, .bool false]) (by simp [results, Tryz.results86, go_sem]) rfl ⟨rfl, _, by rw [← HW4.out, World.drewN_drewN]⟩
        · rw [if_neg hb] at hoe
          subst hoe
          have hb3 : h < 24 ∨ h = 24 ∧ m = 0 ∧ c = 0 ∧ (D.toList == []) = true := by
            by_cases e : h < 24
            · exact .inl e
            · right
              have e24 : h = 24 := by omega
              refine ⟨e24, ?_, ?_, ?_⟩
              · by_cases e2 : 0 < m
                · exact absurd ⟨e24, .inl e2⟩ hb
                · omega
              · by_cases e2 : 0 < c
                · exact absurd ⟨e24, .inr (.inl e2)⟩ hb
                · omega
              · rw [hpe]
                by_cases e2 : T = []
                · exact decide_eq_true e2
                · exact absurd ⟨e24, .inr (.inr e2)⟩ hb
          clear hb hpe HOE2
          rcases hb3 with q4 | ⟨rfl, rfl, rfl, q6⟩
          · go_wp2_with fail
            refine bodyPost_ret (v := .tuple #[.int .i64 (h * 3600 + m * 60 + c), .string D, .string E, .bool true]) (by simp [results, Tryz.results86, go_sem]) rfl ⟨by rw [← HDD.out, ← HED.out]; rfl, _, by rw [← HW4.out, World.drewN_drewN]⟩
          · go_wp2_with fail
            refine bodyPost_ret (v := .tuple #[.int .i64 (24 * 3600 + 0 * 60 + 0), .string D, .string E, .bool true]) (by simp [results, Tryz.results86, go_sem]) rfl ⟨by rw [← HDD.out, ← HED.out]; rfl, _, by rw [← HW4.out, World.drewN_drewN]⟩
end Go.Proofs.YtlhcejbimlilaaaGreatDoor
