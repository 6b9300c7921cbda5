/- The program's readDate. -/
import Derived.Test.YtlhcejbimlilaaaGreatDoorVaK
import Derived.Test.YtlhcejbimlilaaaGreatDoorVaJ
set_option linter.unusedVariables false
set_option linter.unusedSimpArgs false
namespace Go.Tk
open Go Go.RowKit
def rdY3 (y m : Int) (o : Option (Int × List UInt8)) : Option (Int × Int × Int × List UInt8) := match o with
  | none => none
  | some (d, e) => if d < 1 ∨ mdP y m < d then none else some (y, m, d, e)
def rdY2 (y : Int) (o : Option (Int × List UInt8)) : Option (Int × Int × Int × List UInt8) := match o with
  | none => none
  | some (m, r) => if m < 1 ∨ 12 < m then none else rdY3 y m (twoP r [])
theorem rdY_eq (s : List UInt8) : rdY s = if okY (ngR s) = true then rdY2 (yrZ s) (twoP ((ngR s).drop ((yrI (ngR s)).toNat + 1)) [45]) else none := rfl
def dtO (o : Option (Int × Int × Int × List UInt8)) : Option (Int × List UInt8) := o.map fun x => (dyP x.1 x.2.1 x.2.2.1, x.2.2.2)
theorem rdD_eq (s : List UInt8) : rdD s = dtO (rdY s) := rfl
def rdV (o : Option (Int × List UInt8)) : Value := match o with
  | none => .tuple #[.int .i64 0, .string ⟨#[]⟩, .bool false]
  | some x => .tuple #[.int .i64 x.1, .string ⟨x.2.toArray⟩, .bool true]
theorem ngR_le (s : List UInt8) : (ngR s).length ≤ s.length := by
  unfold ngR Lib.trimPrefix
  split
  · rw [List.length_drop]; omega
  · exact Nat.le_refl _
end Go.Tk
namespace Go.Proofs.YtlhcejbimlilaaaGreatDoor
open Go.RowKit Go.Tk
theorem cutPre_calls (s p : ByteArray) (w : World) : Calls Tryz.prog 85 #[.string s, .string p] w fun e w' => e = .returned (.tuple #[.string ⟨(Lib.trimPrefix s.data.toList p.data.toList).toArray⟩, .bool (Lib.hasPrefix s.data.toList p.data.toList)]) ∧ w = w' :=
  (Tryz.strings_CutPrefix s p w).mono fun _ _ ⟨h, h2⟩ => ⟨h, h2.symm⟩
set_option maxHeartbeats 4000000 in
set_option maxRecDepth 100000 in
theorem readDate_calls (s : ByteArray) (w : World) (hs : s.size ≤ 4000000000) :
    Calls Tryz.prog 84 #[.string s] w fun e w' => e = .returned (rdV (rdD s.data.toList)) ∧ Below w.heap.size w w' := by
  have hcp := fun w => cutPre_calls s ⟨#[45]⟩ w
  obtain ⟨L, hL⟩ : ∃ L : ByteArray, L = ⟨(ngR s.data.toList).toArray⟩ := ⟨_, rfl⟩
  have hLd : L.data.toList = ngR s.data.toList := by rw [hL]
  have hLs : L.size ≤ 4000000000 := by rw [Lib.size_eq, hLd]; have := ngR_le s.data.toList; rw [← Lib.size_eq] at this; omega
  obtain ⟨ng, hng⟩ : ∃ b, b = ngB s.data.toList := ⟨_, rfl⟩
  have hcp : ∀ w, Calls Tryz.prog 85 #[.string s, .string ⟨#[45]⟩] w fun e w' => e = .returned (.tuple #[.string L, .bool ng]) ∧ w = w' := fun w => by rw [hL, hng]; exact hcp w
  have hix := fun w => idx_calls L 45 w
  have hkg := Lib.indexByte_ge L.data.toList 45
  have hkl := indexByte_lt L.data.toList 45
  obtain ⟨at', hat⟩ : ∃ k, k = yrI L.data.toList := ⟨_, rfl⟩
  have hat2 : Lib.indexByte L.data.toList 45 = at' := hat.symm
  rw [hat2] at hix hkg hkl
  have hix : ∀ w, Calls Tryz.prog 81 #[.string L, .int .u8 45] w fun e w' => e = .returned (.int .i64 at') ∧ w = w' := hix
  rw [← Lib.size_eq] at hkl
  rw [rdD_eq, rdY_eq]
  have hyz : yrZ s.data.toList = if ng = true then -(numN (L.data.toList.take at'.toNat) : Int) else numN (L.data.toList.take at'.toNat) := by unfold yrZ; rw [← hng, ← hLd, hat]
  rw [hyz, ← hLd, ← hat]
  have hok : okY L.data.toList = (decide (4 ≤ at') && decide (at' ≤ 9) && dgB (L.data.toList.take at'.toNat) && !(decide (4 < at') && decide (L.data.toList.head? = some 48))) := by unfold okY; rw [← hat]
  rw [hok]
  have HCP := Lib.hid hcp
  have HIX := Lib.hid hix
  clear hcp hix hL hng hat hat2 hyz hok hLd
  by_cases a4 : ¬ 4 ≤ at'
  · rw [decide_eq_false a4]
    have a4' : at' < 4 := by omega
    clear a4
    show Calls _ _ _ _ fun e w' => e = .returned (.tuple #[.int .i64 0, .string ⟨#[]⟩, .bool false]) ∧ _
    go_enter Tryz.func84, Tryz.ntmps84
    go_wp2_with (first | (go_at_call 85; (with_reducible refine (HCP.out _).mono ?_); rintro e w' ⟨rfl, rfl⟩) | (go_at_call 81; (with_reducible refine (HIX.out _).mono ?_); rintro e w' ⟨rfl, rfl⟩))
    refine bodyPost_ret (v := .tuple #[.int .i64 0, .string ⟨#[]⟩, .bool false]) (by simp [results, Tryz.results84, go_sem]) rfl ⟨rfl, Below.refl _ _⟩
  have a4 := Decidable.not_not.1 a4
  by_cases a9 : ¬ at' ≤ 9
  · rw [decide_eq_true a4, decide_eq_false a9]
    have a9' : 9 < at' := by omega
    clear a9
    show Calls _ _ _ _ fun e w' => e = .returned (.tuple #[.int .i64 0, .string ⟨#[]⟩, .bool false]) ∧ _
    go_enter Tryz.func84, Tryz.ntmps84
    go_wp2_with (first | (go_at_call 85; (with_reducible refine (HCP.out _).mono ?_); rintro e w' ⟨rfl, rfl⟩) | (go_at_call 81; (with_reducible refine (HIX.out _).mono ?_); rintro e w' ⟨rfl, rfl⟩))
    refine bodyPost_ret (v := .tuple #[.int .i64 0, .string ⟨#[]⟩, .bool false]) (by simp [results, Tryz.results84, go_sem]) rfl ⟨rfl, Below.refl _ _⟩
  have a9 := Decidable.not_not.1 a9
  rw [decide_eq_true a4, decide_eq_true a9]
  obtain ⟨k, rfl⟩ : ∃ k : Nat, at' = k := ⟨at'.toNat, by omega⟩
  rw [Int.toNat_natCast]
  have hk4 : 4 ≤ k := by omega
  have hk9 : k ≤ 9 := by omega
  have hkL : k < L.size := by omega
  have x1 := ex_take L k
  have x2 := ex_drop L (k + 1)
  obtain ⟨P, hP⟩ : ∃ P, L.extract 0 k = P := ⟨_, rfl⟩
  obtain ⟨R, hR⟩ : ∃ R, L.extract (k + 1) L.size = R := ⟨_, rfl⟩
  rw [hP] at x1
  rw [hR] at x2
  have hPd : P.data.toList = L.data.toList.take k := by rw [x1]
  have hRd : R.data.toList = L.data.toList.drop (k + 1) := by rw [x2]
  have hPl : P.data.toList.length = k := by rw [hPd, List.length_take, ← Lib.size_eq]; omega
  have hRs : R.size ≤ 4000000000 := by rw [Lib.size_eq, hRd, List.length_drop, ← Lib.size_eq]; omega
  rw [← hPd, ← hRd]
  have hda := fun w => allDigits_calls P w (by rw [Lib.size_eq, hPl]; omega)
  have h0L : 0 < L.size := by omega
  have hcs := ba_cons L h0L
  obtain ⟨c, hc⟩ : ∃ c, L[0] = c := ⟨_, rfl⟩
  rw [hc] at hcs
  have hhd : decide (L.data.toList.head? = some 48) = decide (c = 48) := by rw [hcs]; simp
  rw [hhd]
  have gc : (((L[0]'h0L).toNat : Nat) : Int) = (c.toNat : Int) := by rw [hc]
  obtain ⟨x, hx⟩ : ∃ x : Int, x = (c.toNat : Int) := ⟨_, rfl⟩
  rw [← hx] at gc
  have b48 : (x == 48) = decide (c = 48) := by
    by_cases h : c = 48
    · rw [decide_eq_true h, beq_iff_eq, hx, h]; rfl
    · rw [decide_eq_false h, beq_eq_false_iff_ne]; intro e; exact h (u8_eq (n := 48) (by omega) (by omega))
  obtain ⟨z48, hz48⟩ : ∃ d, d = decide (c = 48) := ⟨_, rfl⟩
  rw [← hz48] at b48 ⊢
  obtain ⟨dg, hdg⟩ : ∃ d, d = dgB P.data.toList := ⟨_, rfl⟩
  rw [← hdg] at hda ⊢
  have HDA := Lib.hid hda
  have HDG := Lib.hid hdg
  have HPL := Lib.hid hPl
  have hw1 : IntKind.i64.wrap ((k : Int) + 1) = (k : Int) + 1 := by rw [IntKind.wrap_i64]; omega
  have hn1 : ((k : Int) + 1).toNat = k + 1 := by omega
  have b9 : ((k : Int) < 4) = False := by simp; omega
  clear hkg hkl a4 a9 x1 x2 hPd hRd hPl hda hcs hc hhd hx hz48 hdg b9
  have A4 : decide (4 < (k : Int)) = decide (4 < k) := by by_cases h : 4 < k <;> simp [h] <;> omega
  rw [A4]
  clear A4
  cases dg with
  | false =>
    show Calls _ _ _ _ fun e w' => e = .returned (.tuple #[.int .i64 0, .string ⟨#[]⟩, .bool false]) ∧ _
    go_enter Tryz.func84, Tryz.ntmps84
    go_wp2_with (first | (go_at_call 85; (with_reducible refine (HCP.out _).mono ?_); rintro e w' ⟨rfl, rfl⟩) | (go_at_call 81; (with_reducible refine (HIX.out _).mono ?_); rintro e w' ⟨rfl, rfl⟩) | (go_at_call 96; (with_reducible refine (HDA.out _).mono ?_); rintro e w' ⟨rfl, rfl⟩))
    refine bodyPost_ret (v := .tuple #[.int .i64 0, .string ⟨#[]⟩, .bool false]) (by simp [results, Tryz.results84, go_sem]) rfl ⟨rfl, Below.refl _ _⟩
  | true =>
  have hbad : (4 < k ∧ z48 = true) ∨ (k = 4 ∨ 4 < k ∧ z48 = false) := by
    by_cases h : 4 < k
    · cases z48
      · exact .inr (.inr ⟨h, rfl⟩)
      · exact .inl ⟨h, rfl⟩
    · exact .inr (.inl (by omega))
  rcases hbad with ⟨h4, rfl⟩ | hgood
  · rw [decide_eq_true h4]
    show Calls _ _ _ _ fun e w' => e = .returned (.tuple #[.int .i64 0, .string ⟨#[]⟩, .bool false]) ∧ _
    go_enter Tryz.func84, Tryz.ntmps84
    go_wp2_with (first | (go_at_call 85; (with_reducible refine (HCP.out _).mono ?_); rintro e w' ⟨rfl, rfl⟩) | (go_at_call 81; (with_reducible refine (HIX.out _).mono ?_); rintro e w' ⟨rfl, rfl⟩) | (go_at_call 96; (with_reducible refine (HDA.out _).mono ?_); rintro e w' ⟨rfl, rfl⟩))
    refine bodyPost_ret (v := .tuple #[.int .i64 0, .string ⟨#[]⟩, .bool false]) (by simp [results, Tryz.results84, go_sem]) rfl ⟨rfl, Below.refl _ _⟩
  have hok : (true && true && true && !(decide (4 < k) && z48)) = true := by
    rcases hgood with rfl | ⟨h, rfl⟩ <;> simp
  rw [hok, if_pos rfl]
  clear hok
  have hpi := fun w => parse_calls P w HDG.out.symm (by intro e; have := HPL.out; rw [e] at this; simp at this; omega) (by rw [HPL.out]; exact hk9)
  have hnl := numN_lt _ HDG.out.symm (by rw [HPL.out]; exact hk9)
  obtain ⟨Nn, hNn⟩ : ∃ n, n = numN P.data.toList := ⟨_, rfl⟩
  rw [← hNn] at hpi hnl ⊢
  obtain ⟨y, hy⟩ : ∃ y : Int, y = if ng = true then -(Nn : Int) else Nn := ⟨_, rfl⟩
  rw [← hy]
  have hyb : -1000000000 < y ∧ y < 1000000000 := by rw [hy]; split <;> omega
  obtain ⟨hyb1, hyb2⟩ := hyb
  have ht1 := fun w => two_calls R ⟨#[45]⟩ w (by omega) (by decide)
  obtain ⟨o1, ho1⟩ : ∃ o, o = twoP R.data.toList [45] := ⟨_, rfl⟩
  have ht1 : ∀ w, Calls Tryz.prog 125 #[.string R, .string ⟨#[45]⟩] w fun e w' => e = .returned (twV o1) ∧ ∃ n, w' = w.drewN n := fun w => by rw [ho1]; exact ht1 w
  rw [← ho1]
  have HPI := Lib.hid hpi
  have HO1 := Lib.hid ho1
  clear hpi hNn ho1
  cases o1 with
  | none =>
    have ht1 : ∀ w, Calls Tryz.prog 125 #[.string R, .string ⟨#[45]⟩] w fun e w' => e = .returned (.tuple #[.int .i64 0, .string ⟨#[]⟩, .bool false]) ∧ ∃ n, w' = w.drewN n := ht1
    have HT1 := Lib.hid ht1
    clear ht1 hy
    show Calls _ _ _ _ fun e w' => e = .returned (.tuple #[.int .i64 0, .string ⟨#[]⟩, .bool false]) ∧ _
    rcases hgood with rfl | ⟨h, rfl⟩
    all_goals
      cases ng
      all_goals
        go_enter Tryz.func84, Tryz.ntmps84
        go_wp2_with (first | (go_at_call 85; (with_reducible refine (HCP.out _).mono ?_); rintro e w' ⟨rfl, rfl⟩) | (go_at_call 81; (with_reducible refine (HIX.out _).mono ?_); rintro e w' ⟨rfl, rfl⟩) | (go_at_call 96; (with_reducible refine (HDA.out _).mono ?_); rintro e w' ⟨rfl, rfl⟩) | (go_at_call 124; (with_reducible refine (HPI.out _).mono ?_); rintro e w5 ⟨rfl, hb5⟩) | (go_at_call 125; (with_reducible refine (HT1.out _).mono ?_); rintro e w' ⟨rfl, n1, rfl⟩))
        refine bodyPost_ret (v := .tuple #[.int .i64 0, .string ⟨#[]⟩, .bool false]) (by simp [results, Tryz.results84, go_sem]) rfl ⟨rfl, below_drewN hb5 _⟩
  | some q =>
  obtain ⟨m, r⟩ := q
  have bm := twoP_bd HO1.out.symm
  obtain ⟨Q, hQ⟩ : ∃ Q : ByteArray, Q = ⟨r.toArray⟩ := ⟨_, rfl⟩
  have hQd : Q.data.toList = r := by rw [hQ]
  have hQs : Q.size ≤ 4000000000 := by rw [Lib.size_eq, hQd]; have := bm.2.2; rw [← Lib.size_eq] at this; omega
  have ht1 : ∀ w, Calls Tryz.prog 125 #[.string R, .string ⟨#[45]⟩] w fun e w' => e = .returned (.tuple #[.int .i64 m, .string Q, .bool true]) ∧ ∃ n, w' = w.drewN n := fun w => by rw [hQ]; exact ht1 w
  have ht2 := fun w => two_calls Q ⟨#[]⟩ w (by omega) (by decide)
  obtain ⟨o2, ho2⟩ : ∃ o, o = twoP r [] := ⟨_, rfl⟩
  have ht2 : ∀ w, Calls Tryz.prog 125 #[.string Q, .string ⟨#[]⟩] w fun e w' => e = .returned (twV o2) ∧ ∃ n, w' = w.drewN n := fun w => by rw [ho2, ← hQd]; exact ht2 w
  show Calls _ _ _ _ fun e w' => e = .returned (rdV (dtO (if m < 1 ∨ 12 < m then none else rdY3 y m (twoP r [])))) ∧ _
  rw [← ho2]
  have HT1 := Lib.hid ht1
  have HO2 := Lib.hid ho2
  obtain ⟨bm1, bm2, _⟩ := bm
  clear ht1 hQ hQd HO1 ho2
  by_cases hm : m < 1 ∨ 12 < m
  · rw [if_pos hm]
    clear ht2 hy
    show Calls _ _ _ _ fun e w' => e = .returned (.tuple #[.int .i64 0, .string ⟨#[]⟩, .bool false]) ∧ _
    have hm2 : m < 1 ∨ 1 ≤ m ∧ 12 < m := by omega
    clear hm
    rcases hm2 with q1 | ⟨q1, q2⟩
    all_goals
      rcases hgood with rfl | ⟨h, rfl⟩
      all_goals
        cases ng
        all_goals
          go_enter Tryz.func84, Tryz.ntmps84
          go_wp2_with (first | (go_at_call 85; (with_reducible refine (HCP.out _).mono ?_); rintro e w' ⟨rfl, rfl⟩) | (go_at_call 81; (with_reducible refine (HIX.out _).mono ?_); rintro e w' ⟨rfl, rfl⟩) | (go_at_call 96; (with_reducible refine (HDA.out _).mono ?_); rintro e w' ⟨rfl, rfl⟩) | (go_at_call 124; (with_reducible refine (HPI.out _).mono ?_); rintro e w5 ⟨rfl, hb5⟩) | (go_at_call 125; (with_reducible refine (HT1.out _).mono ?_); rintro e w' ⟨rfl, n1, rfl⟩))
          refine bodyPost_ret (v := .tuple #[.int .i64 0, .string ⟨#[]⟩, .bool false]) (by simp [results, Tryz.results84, go_sem]) rfl ⟨rfl, below_drewN hb5 _⟩
  rw [if_neg hm]
  have hm1 : 1 ≤ m := by omega
  have hm2 : m ≤ 12 := by omega
  clear hm
  cases o2 with
  | none =>
    have ht2 : ∀ w, Calls Tryz.prog 125 #[.string Q, .string ⟨#[]⟩] w fun e w' => e = .returned (.tuple #[.int .i64 0, .string ⟨#[]⟩, .bool false]) ∧ ∃ n, w' = w.drewN n := ht2
    have HT2 := Lib.hid ht2
    clear ht2 hy
    show Calls _ _ _ _ fun e w' => e = .returned (.tuple #[.int .i64 0, .string ⟨#[]⟩, .bool false]) ∧ _
    rcases hgood with rfl | ⟨h, rfl⟩
    all_goals
      cases ng
      all_goals
        go_enter Tryz.func84, Tryz.ntmps84
        go_wp2_with (first | (go_at_call 85; (with_reducible refine (HCP.out _).mono ?_); rintro e w' ⟨rfl, rfl⟩) | (go_at_call 81; (with_reducible refine (HIX.out _).mono ?_); rintro e w' ⟨rfl, rfl⟩) | (go_at_call 96; (with_reducible refine (HDA.out _).mono ?_); rintro e w' ⟨rfl, rfl⟩) | (go_at_call 124; (with_reducible refine (HPI.out _).mono ?_); rintro e w5 ⟨rfl, hb5⟩) | (go_at_call 125; (with_reducible refine (HT1.out _).mono ?_); rintro e w' ⟨rfl, n1, rfl⟩) | (go_at_call 125; (with_reducible refine (HT2.out _).mono ?_); rintro e w' ⟨rfl, n2, rfl⟩))
        refine bodyPost_ret (v := .tuple #[.int .i64 0, .string ⟨#[]⟩, .bool false]) (by simp [results, Tryz.results84, go_sem]) rfl ⟨rfl, below_drewN hb5 _⟩
  | some q =>
  obtain ⟨d, e⟩ := q
  have bd := twoP_bd HO2.out.symm
  obtain ⟨bd1, bd2, _⟩ := bd
  obtain ⟨E, hE⟩ : ∃ E : ByteArray, E = ⟨e.toArray⟩ := ⟨_, rfl⟩
  have ht2 : ∀ w, Calls Tryz.prog 125 #[.string Q, .string ⟨#[]⟩] w fun e' w' => e' = .returned (.tuple #[.int .i64 d, .string E, .bool true]) ∧ ∃ n, w' = w.drewN n := fun w => by rw [hE]; exact ht2 w
  have HT2 := Lib.hid ht2
  clear ht2 HO2
  have hmd := fun w => monthDays_calls y m w (by omega) (by omega)
  have hmb := mdP_bd y m
  have hdy := fun w => days_calls y m d w (by omega) (by omega) hm1 hm2 bd1 (by omega)
  show Calls _ _ _ _ fun e' w' => e' = .returned (rdV (dtO (if d < 1 ∨ mdP y m < d then none else some (y, m, d, e)))) ∧ _
  have hdc : dtO (if d < 1 ∨ mdP y m < d then none else some (y, m, d, e)) = if d < 1 ∨ mdP y m < d then none else some (dyP y m d, e) := by split <;> rfl
  rw [hdc]
  obtain ⟨M, hM⟩ : ∃ M, M = mdP y m := ⟨_, rfl⟩
  obtain ⟨D, hD⟩ : ∃ D, D = dyP y m d := ⟨_, rfl⟩
  rw [← hM] at hmd hmb ⊢
  rw [← hD] at hdy ⊢
  obtain ⟨hmb1, hmb2⟩ := hmb
  clear hdc hM hD hyb1 hyb2
  by_cases hd : d < 1 ∨ M < d
  · rw [if_pos hd]
    show Calls _ _ _ _ fun e' w' => e' = .returned (.tuple #[.int .i64 0, .string ⟨#[]⟩, .bool false]) ∧ _
    have hd2 : d < 1 ∨ 1 ≤ d ∧ M < d := by omega
    clear hd hE hdy
    rcases hd2 with q1 | ⟨q1, q2⟩
    all_goals
      rcases hgood with rfl | ⟨h, rfl⟩
      all_goals
        cases ng
        all_goals
          first | (rw [if_pos rfl] at hy) | (rw [if_neg (by simp)] at hy)
          subst hy
          have HMD := Lib.hid hmd
          clear hmd
          go_enter Tryz.func84, Tryz.ntmps84
          go_wp2_with (first | (go_at_call 85; (with_reducible refine (HCP.out _).mono ?_); rintro e w' ⟨rfl, rfl⟩) | (go_at_call 81; (with_reducible refine (HIX.out _).mono ?_); rintro e w' ⟨rfl, rfl⟩) | (go_at_call 96; (with_reducible refine (HDA.out _).mono ?_); rintro e w' ⟨rfl, rfl⟩) | (go_at_call 124; (with_reducible refine (HPI.out _).mono ?_); rintro e w5 ⟨rfl, hb5⟩) | (go_at_call 125; (with_reducible refine (HT1.out _).mono ?_); rintro e w' ⟨rfl, n1, rfl⟩) | (go_at_call 125; (with_reducible refine (HT2.out _).mono ?_); rintro e w' ⟨rfl, n2, rfl⟩) | (go_at_call 126; (with_reducible refine (HMD.out _).mono ?_); rintro e w' ⟨rfl, rfl⟩))
          refine bodyPost_ret (v := .tuple #[.int .i64 0, .string ⟨#[]⟩, .bool false]) (by simp [results, Tryz.results84, go_sem]) rfl ⟨rfl, below_drewN hb5 _⟩
  · rw [if_neg hd]
    show Calls _ _ _ _ fun e' w' => e' = .returned (.tuple #[.int .i64 D, .string ⟨e.toArray⟩, .bool true]) ∧ _
    rw [← hE]
    have q1 : 1 ≤ d := by omega
    have q2 : d ≤ M := by omega
    clear hd hE
    rcases hgood with rfl | ⟨h, rfl⟩
    all_goals
      cases ng
      all_goals
        first | (rw [if_pos rfl] at hy) | (rw [if_neg (by simp)] at hy)
        subst hy
        have HMD := Lib.hid hmd
        have HDY := Lib.hid hdy
        clear hmd hdy
        go_enter Tryz.func84, Tryz.ntmps84
        go_wp2_with (first | (go_at_call 85; (with_reducible refine (HCP.out _).mono ?_); rintro e w' ⟨rfl, rfl⟩) | (go_at_call 81; (with_reducible refine (HIX.out _).mono ?_); rintro e w' ⟨rfl, rfl⟩) | (go_at_call 96; (with_reducible refine (HDA.out _).mono ?_); rintro e w' ⟨rfl, rfl⟩) | (go_at_call 124; (with_reducible refine (HPI.out _).mono ?_); rintro e w5 ⟨rfl, hb5⟩) | (go_at_call 125; (with_reducible refine (HT1.out _).mono ?_); rintro e w' ⟨rfl, n1, rfl⟩) | (go_at_call 125; (with_reducible refine (HT2.out _).mono ?_); rintro e w' ⟨rfl, n2, rfl⟩) | (go_at_call 126; (with_reducible refine (HMD.out _).mono ?_); rintro e w' ⟨rfl, rfl⟩) | (go_at_call 127; (with_reducible refine (HDY.out _).mono ?_); rintro e w' ⟨rfl, rfl⟩))
        refine bodyPost_ret (v := .tuple #[.int .i64 D, .string E, .bool true]) (by simp [results, Tryz.results84, go_sem]) rfl ⟨rfl, below_drewN hb5 _⟩
end Go.Proofs.YtlhcejbimlilaaaGreatDoor
