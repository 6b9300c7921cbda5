/- The program's texts of moments: date, clock. -/
import Derived.Test.YtlhcejbimlilaaaGreatDoorVaW
set_option linter.unusedVariables false
set_option linter.unusedSimpArgs false
namespace Go.Tk
open Go Go.RowKit
/-- A date's text, and whether its year has few digits. -/
def DtPost (n : Int) (w : World) (e : Ending) (w' : World) : Prop := ∃ y m d : Int, e = .returned (.tuple #[.string ⟨(dtP y m d).toArray⟩, .bool (decide ((if y < 0 then -y else y) ≤ 999999999))]) ∧ IsDate n y m d ∧ Below w.heap.size w w'
theorem isDate_bd {n y m d : Int} (h : IsDate n y m d) (hn : -400000000000 ≤ n ∧ n ≤ 400000000000) : -1100000000 ≤ y ∧ y ≤ 1100000000 ∧ d ≤ 31 := by
  have h1 := h.yr
  have h2 := mdP_bd y m
  have h3 := h.d2
  refine ⟨?_, ?_, by omega⟩
  · by_cases c : -1100000000 ≤ y
    · exact c
    · have := ydP_le (a := y + 1) (b := -1100000000) (by omega)
      have e : ydP (-1100000000) ≤ -401000000000 := by unfold ydP; omega
      omega
  · by_cases c : y ≤ 1100000000
    · exact c
    · have := ydP_le (a := 1100000000) (b := y) (by omega)
      have e : 401000000000 ≤ ydP 1100000000 := by unfold ydP; omega
      omega
end Go.Tk
namespace Go.Proofs.YtlhcejbimlilaaaGreatDoor
open Go.RowKit Go.Tk
set_option maxHeartbeats 2000000 in
theorem date_calls (m : Mt) (w : World) (hpw : Pow w) (hs : -34000000000000000 ≤ m.sec ∧ m.sec ≤ 34000000000000000) :
    Calls Tryz.prog 103 #[m.val] w (DtPost (m.sec / 86400) w) := by
  obtain ⟨sec, part, zd, zn, sp⟩ := m
  dsimp only at hs
  obtain ⟨hs1, hs2⟩ := hs
  have hfl := fun w => floor_calls sec 86400 w (by omega) (by omega) (by omega) (by omega)
  obtain ⟨n, hn⟩ : ∃ n, n = sec / 86400 := ⟨_, rfl⟩
  rw [← hn] at hfl
  have hdt := fun w => dated_calls n w (by omega) (by omega)
  have hnb : -400000000000 ≤ n ∧ n ≤ 400000000000 := by omega
  dsimp only
  rw [← hn]
  unfold Mt.val
  dsimp only
  have HFL := Lib.hid hfl
  have HDT := Lib.hid hdt
  have HPW := Lib.hid hpw
  have HNB := Lib.hid hnb
  have hpd := fun (x : Int) (k : Nat) (w : World) (h : Pow w) (a : -9223372036854775808 ≤ x) (b : x ≤ 9223372036854775807) (c : k ≤ 21) => pad_calls x k w h a b c
  have HPD := Lib.hid hpd
  clear hfl hdt hpw hn hnb hpd
  go_enter Tryz.func103, Tryz.ntmps103
  go_upto_region 2 with (first | (go_at_call 143; (with_reducible refine (HFL.out _).mono ?_); rintro e w' ⟨rfl, rfl⟩) | (go_at_call 142; (with_reducible refine (HDT.out _).mono ?_); rintro e w' ⟨⟨y, mo, d, rfl, hd⟩, rfl⟩; (have HD := Lib.hid hd); clear hd))
  have hib := isDate_bd HD.out HNB.out
  obtain ⟨y1, y2, d2⟩ := hib
  have m1 := HD.out.m1
  have m2 := HD.out.m2
  have d1 := HD.out.d1
  obtain ⟨r1, hb⟩ := box1 w (.cells #[.int .i64 sec, .string ⟨part.toArray⟩, .bool zd, .int .i64 zn, .string ⟨sp.toArray⟩] 76)
  generalize World.alloc w _ = w2 at r1 hb ⊢
  have HB := Lib.hid hb
  have hp2 := HPW.out.below hb
  have HP2 := Lib.hid hp2
  clear r1 hb hp2
  obtain ⟨Y, hY⟩ : ∃ Y : Int, Y = if y < 0 then -y else y := ⟨_, rfl⟩
  have hYb : 0 ≤ Y ∧ Y ≤ 1100000000 := by rw [hY]; split <;> omega
  obtain ⟨hYb1, hYb2⟩ := hYb
  have p1 := fun w (h : Pow w) => HPD.out Y 4 w h (by omega) (by omega) (by omega)
  have p2 := fun w (h : Pow w) => HPD.out mo 2 w h (by omega) (by omega) (by omega)
  have p3 := fun w (h : Pow w) => HPD.out d 2 w h (by omega) (by omega) (by omega)
  have l1 := pdP_len Y 4 (by omega) (by omega) (by omega)
  have l2 := pdP_len mo 2 (by omega) (by omega) (by omega)
  have l3 := pdP_len d 2 (by omega) (by omega) (by omega)
  obtain ⟨A, hA⟩ : ∃ A : ByteArray, A = ⟨(pdP Y 4).toArray⟩ := ⟨_, rfl⟩
  obtain ⟨B, hB⟩ : ∃ B : ByteArray, B = ⟨(pdP mo 2).toArray⟩ := ⟨_, rfl⟩
  obtain ⟨C, hC⟩ : ∃ C : ByteArray, C = ⟨(pdP d 2).toArray⟩ := ⟨_, rfl⟩
  have p1 : ∀ w, Pow w → Calls Tryz.prog 144 #[.int .i64 Y, .int .i64 4] w fun e w' => e = .returned (.string A) ∧ Below w.heap.size w w' := fun w h => by rw [hA]; exact p1 w h
  have p2 : ∀ w, Pow w → Calls Tryz.prog 144 #[.int .i64 mo, .int .i64 2] w fun e w' => e = .returned (.string B) ∧ Below w.heap.size w w' := fun w h => by rw [hB]; exact p2 w h
  have p3 : ∀ w, Pow w → Calls Tryz.prog 144 #[.int .i64 d, .int .i64 2] w fun e w' => e = .returned (.string C) ∧ Below w.heap.size w w' := fun w h => by rw [hC]; exact p3 w h
  have hAs : A.size ≤ 21 := by rw [hA, sz_mk]; exact l1
  have hBs : B.size ≤ 21 := by rw [hB, sz_mk]; exact l2
  have hCs : C.size ≤ 21 := by rw [hC, sz_mk]; exact l3
  have hAd : A.data.toList = pdP Y 4 := by rw [hA]
  have hBd : B.data.toList = pdP mo 2 := by rw [hB]
  have hCd : C.data.toList = pdP d 2 := by rw [hC]
  have hdp : dtP y mo d = (if y < 0 then [45] else []) ++ A.data.toList ++ [45] ++ B.data.toList ++ [45] ++ C.data.toList := by unfold dtP; rw [hAd, hBd, hCd, hY]
  have hyd : decide ((if y < 0 then -y else y) ≤ 999999999) = decide (Y ≤ 999999999) := by rw [hY]
  have P1 := Lib.hid p1
  have P2 := Lib.hid p2
  have P3 := Lib.hid p3
  have HDP := Lib.hid hdp
  have HYD := Lib.hid hyd
  have HYY := Lib.hid hY
  clear p1 p2 p3 l1 l2 l3 hA hB hC hAd hBd hCd hdp hyd hY HPD HFL HDT
  have g1 : ∀ U : ByteArray, U.size ≤ 100 → (U ++ A).size ≤ 121 := fun U h => by rw [ByteArray.size_append]; omega
  have g2 : (A ++ ⟨#[45]⟩).size ≤ 22 := by rw [ByteArray.size_append]; show A.size + 1 ≤ _; omega
  have g3 : (A ++ ⟨#[45]⟩ ++ B).size ≤ 43 := by rw [ByteArray.size_append]; omega
  have g4 : (A ++ ⟨#[45]⟩ ++ B ++ ⟨#[45]⟩).size ≤ 44 := by rw [ByteArray.size_append]; show _ + 1 ≤ _; omega
  have k1 : ((⟨#[45]⟩ : ByteArray) ++ A).size ≤ 22 := by rw [ByteArray.size_append]; show 1 + A.size ≤ _; omega
  have k2 : ((⟨#[45]⟩ : ByteArray) ++ A ++ ⟨#[45]⟩).size ≤ 23 := by rw [ByteArray.size_append]; show _ + 1 ≤ _; omega
  have k3 : ((⟨#[45]⟩ : ByteArray) ++ A ++ ⟨#[45]⟩ ++ B).size ≤ 44 := by rw [ByteArray.size_append]; omega
  have k4 : ((⟨#[45]⟩ : ByteArray) ++ A ++ ⟨#[45]⟩ ++ B ++ ⟨#[45]⟩).size ≤ 45 := by rw [ByteArray.size_append]; show _ + 1 ≤ _; omega
  clear g1
  by_cases hy0 : y < 0
  · have hYe : -y = Y := by rw [HYY.out, if_pos hy0]
    have HYe := Lib.hid hYe
    clear hYe
    obtain ⟨yn, rfl⟩ : ∃ yn, y = -yn := ⟨-y, by omega⟩
    have hYn : yn = Y := by have := HYe.out; omega
    subst hYn
    go_wp2_with (first | (go_at_call 144; (with_reducible refine (P1.out _ HP2.out).mono ?_); rintro e w3 ⟨rfl, hb3⟩; (have HP3 := Lib.hid (HP2.out.below hb3))) | (go_at_call 144; (with_reducible refine (P2.out _ HP3.out).mono ?_); rintro e w4 ⟨rfl, hb4⟩; (have HP4 := Lib.hid (HP3.out.below hb4))) | (go_at_call 144; (with_reducible refine (P3.out _ HP4.out).mono ?_); rintro e w5 ⟨rfl, hb5⟩))
    have hend := ((HB.out.trans (hb3.mono HB.out.size)).trans (hb4.mono (Nat.le_trans HB.out.size hb3.size))).trans (hb5.mono (Nat.le_trans (Nat.le_trans HB.out.size hb3.size) hb4.size))
    refine bodyPost_ret (v := .tuple #[.string (⟨#[45]⟩ ++ A ++ ⟨#[45]⟩ ++ B ++ ⟨#[45]⟩ ++ C), .bool (decide (yn ≤ 999999999))]) (by simp [results, Tryz.results103, go_sem]) rfl ⟨-yn, mo, d, ?_, HD.out, hend⟩
    rw [HYD.out]
    exact rs_str2 (ba_ext (by rw [HDP.out, if_pos hy0]; simp))
  · have hYe : Y = y := by rw [HYY.out, if_neg hy0]
    subst hYe
    go_wp2_with (first | (go_at_call 144; (with_reducible refine (P1.out _ HP2.out).mono ?_); rintro e w3 ⟨rfl, hb3⟩; (have HP3 := Lib.hid (HP2.out.below hb3))) | (go_at_call 144; (with_reducible refine (P2.out _ HP3.out).mono ?_); rintro e w4 ⟨rfl, hb4⟩; (have HP4 := Lib.hid (HP3.out.below hb4))) | (go_at_call 144; (with_reducible refine (P3.out _ HP4.out).mono ?_); rintro e w5 ⟨rfl, hb5⟩))
    have hend := ((HB.out.trans (hb3.mono HB.out.size)).trans (hb4.mono (Nat.le_trans HB.out.size hb3.size))).trans (hb5.mono (Nat.le_trans (Nat.le_trans HB.out.size hb3.size) hb4.size))
    refine bodyPost_ret (v := .tuple #[.string (⟨#[]⟩ ++ A ++ ⟨#[45]⟩ ++ B ++ ⟨#[45]⟩ ++ C), .bool (decide (Y ≤ 999999999))]) (by simp [results, Tryz.results103, go_sem]) rfl ⟨Y, mo, d, ?_, HD.out, hend⟩
    rw [HYD.out]
    exact rs_str2 (ba_ext (by rw [HDP.out, if_neg (by omega)]; simp))
set_option maxHeartbeats 2000000 in
theorem clock_calls (m : Mt) (w : World) (hpw : Pow w) (hs : -34000000000000000 ≤ m.sec ∧ m.sec ≤ 34000000000000000) (hp : m.part.length ≤ 1000000000) :
    Calls Tryz.prog 104 #[m.val] w fun e w' => e = .returned (.string ⟨(ckP m.sec m.part).toArray⟩) ∧ Below w.heap.size w w' := by
  obtain ⟨sec, part, zd, zn, sp⟩ := m
  dsimp only at hs hp
  obtain ⟨hs1, hs2⟩ := hs
  have hfl := fun w => floor_calls sec 86400 w (by omega) (by omega) (by omega) (by omega)
  obtain ⟨q, hq⟩ : ∃ q, q = sec / 86400 := ⟨_, rfl⟩
  obtain ⟨n, hn⟩ : ∃ n, n = sec % 86400 := ⟨_, rfl⟩
  have hqn : sec - q * 86400 = n := by omega
  have hn0 : 0 ≤ n := by omega
  have hn1 : n < 86400 := by omega
  have hq1 : -400000000000 ≤ q := by omega
  have hq2 : q ≤ 400000000000 := by omega
  rw [← hq] at hfl
  have p1 := fun w (h : Pow w) => pad_calls (n / 3600) 2 w h (by omega) (by omega) (by omega)
  have p2 := fun w (h : Pow w) => pad_calls (n / 60 % 60) 2 w h (by omega) (by omega) (by omega)
  have p3 := fun w (h : Pow w) => pad_calls (n % 60) 2 w h (by omega) (by omega) (by omega)
  have l1 := pdP_len (n / 3600) 2 (by omega) (by omega) (by omega)
  have l2 := pdP_len (n / 60 % 60) 2 (by omega) (by omega) (by omega)
  have l3 := pdP_len (n % 60) 2 (by omega) (by omega) (by omega)
  obtain ⟨A, hA⟩ : ∃ A : ByteArray, A = ⟨(pdP (n / 3600) 2).toArray⟩ := ⟨_, rfl⟩
  obtain ⟨B, hB⟩ : ∃ B : ByteArray, B = ⟨(pdP (n / 60 % 60) 2).toArray⟩ := ⟨_, rfl⟩
  obtain ⟨C, hC⟩ : ∃ C : ByteArray, C = ⟨(pdP (n % 60) 2).toArray⟩ := ⟨_, rfl⟩
  have p1 : ∀ w, Pow w → Calls Tryz.prog 144 #[.int .i64 (n / 3600), .int .i64 2] w fun e w' => e = .returned (.string A) ∧ Below w.heap.size w w' := fun w h => by rw [hA]; exact p1 w h
  have p2 : ∀ w, Pow w → Calls Tryz.prog 144 #[.int .i64 (n / 60 % 60), .int .i64 2] w fun e w' => e = .returned (.string B) ∧ Below w.heap.size w w' := fun w h => by rw [hB]; exact p2 w h
  have p3 : ∀ w, Pow w → Calls Tryz.prog 144 #[.int .i64 (n % 60), .int .i64 2] w fun e w' => e = .returned (.string C) ∧ Below w.heap.size w w' := fun w h => by rw [hC]; exact p3 w h
  have hAs : A.size ≤ 21 := by rw [hA, sz_mk]; exact l1
  have hBs : B.size ≤ 21 := by rw [hB, sz_mk]; exact l2
  have hCs : C.size ≤ 21 := by rw [hC, sz_mk]; exact l3
  have hAd : A.data.toList = pdP (n / 3600) 2 := by rw [hA]
  have hBd : B.data.toList = pdP (n / 60 % 60) 2 := by rw [hB]
  have hCd : C.data.toList = pdP (n % 60) 2 := by rw [hC]
  obtain ⟨P, hP⟩ : ∃ P : ByteArray, P = ⟨part.toArray⟩ := ⟨_, rfl⟩
  have hPd : P.data.toList = part := by rw [hP]
  have hPs : P.size ≤ 1000000000 := by rw [hP, sz_mk]; exact hp
  have hpe := emp_ba part
  rw [← hP] at hpe
  obtain ⟨T, hT⟩ : ∃ T : ByteArray, T = ⟨(ckP sec part).toArray⟩ := ⟨_, rfl⟩
  have hTd : T.data.toList = A.data.toList ++ [58] ++ B.data.toList ++ [58] ++ C.data.toList ++ (if part = [] then [] else 46 :: P.data.toList) := by rw [hT, hAd, hBd, hCd, hPd, hn]; rfl
  dsimp only
  rw [← hT]
  unfold Mt.val
  dsimp only
  rw [← hP]
  have hcc : (A ++ ⟨#[58]⟩ ++ B ++ ⟨#[58]⟩ ++ C).size ≤ 65 := by simp only [ByteArray.size_append]; show A.size + 1 + B.size + 1 + C.size ≤ _; omega
  have hcb : (A ++ ⟨#[58]⟩ ++ B ++ ⟨#[58]⟩).size ≤ 65 := by simp only [ByteArray.size_append]; show A.size + 1 + B.size + 1 ≤ _; omega
  have hca : (A ++ ⟨#[58]⟩ ++ B).size ≤ 65 := by simp only [ByteArray.size_append]; show A.size + 1 + B.size ≤ _; omega
  have hcz : (A ++ ⟨#[58]⟩).size ≤ 65 := by simp only [ByteArray.size_append]; show A.size + 1 ≤ _; omega
  have hcp : ((⟨#[46]⟩ : ByteArray) ++ P).size ≤ 1000000001 := by simp only [ByteArray.size_append]; show 1 + P.size ≤ _; omega
  have P1 := Lib.hid p1
  have P2 := Lib.hid p2
  have P3 := Lib.hid p3
  have HTD := Lib.hid hTd
  have HFL := Lib.hid hfl
  have HPW := Lib.hid hpw
  have HQN := Lib.hid hqn
  have hw1 : IntKind.i64.wrap (q * 86400) = q * 86400 := by rw [IntKind.wrap_i64]; omega
  have hw2 : IntKind.i64.wrap (sec - q * 86400) = n := by rw [hqn, IntKind.wrap_i64]; omega
  clear p1 p2 p3 l1 l2 l3 hA hB hC hAd hBd hCd hP hPd hT hTd hfl hpw hqn hq hn hp
  go_enter Tryz.func104, Tryz.ntmps104
  go_upto_region 1 with fail
  obtain ⟨r1, hb⟩ := box1 w (.cells #[.int .i64 sec, .string P, .bool zd, .int .i64 zn, .string ⟨sp.toArray⟩] 76)
  generalize World.alloc w _ = w2 at r1 hb ⊢
  have hp2 := HPW.out.below hb
  have c0 := row_cell r1 0
  have c1 := row_cell r1 1
  simp at c0 c1
  clear r1
  have x0 := Lw.cell c0
  have x1 := Lw.cell c1
  refine wp_region_lw (by kernel_rfl) (by kernel_rfl) ?_
  repeat (go_big_quiet_step (first | exact rfl | (go_at_call 143; with_reducible exact lw_same (HFL.out _))))
  refine wpQuiet_nil ?_
  rintro ⟨w3, hb3⟩
  have u1 := x1 ⟨w3, hb3⟩
  have hp3 := hp2.below hb3
  dsimp only at u1 hp3 ⊢
  have hb4 := hb.trans (hb3.mono hb.size)
  have HP3 := Lib.hid hp3
  have HB4 := Lib.hid hb4
  clear x0 x1 c0 c1 hb hb3 hp2 hp3 hb4 hw1 hw2
  by_cases hpt : part = []
  · rw [decide_eq_true hpt] at hpe
    have HPT := Lib.hid hpt
    clear hpt
    go_wp2_with (first | (go_at_call 144; (with_reducible refine (P1.out _ HP3.out).mono ?_); rintro e w4 ⟨rfl, hb4⟩; (have HP4 := Lib.hid (HP3.out.below hb4)); (have v1 := (hb4.cell (p := ⟨w.heap.size, 1, none⟩) (block_lt_of_cell u1)).trans u1)) | (go_at_call 144; (with_reducible refine (P2.out _ HP4.out).mono ?_); rintro e w5 ⟨rfl, hb5⟩; (have HP5 := Lib.hid (HP4.out.below hb5)); (have v2 := (hb5.cell (p := ⟨w.heap.size, 1, none⟩) (block_lt_of_cell v1)).trans v1)) | (go_at_call 144; (with_reducible refine (P3.out _ HP5.out).mono ?_); rintro e w6 ⟨rfl, hb6⟩; (have v3 := (hb6.cell (p := ⟨w.heap.size, 1, none⟩) (block_lt_of_cell v2)).trans v2)))
    have hpt := HPT.out
    have hend := ((HB4.out.trans (hb4.mono HB4.out.size)).trans (hb5.mono (Nat.le_trans HB4.out.size hb4.size))).trans (hb6.mono (Nat.le_trans (Nat.le_trans HB4.out.size hb4.size) hb5.size))
    go_ret
    exact ⟨rs_str (ba_ext (by rw [HTD.out]; simp [hpt])), hend⟩
  · rw [decide_eq_false hpt] at hpe
    have HPT := Lib.hid hpt
    clear hpt
    go_wp2_with (first | (go_at_call 144; (with_reducible refine (P1.out _ HP3.out).mono ?_); rintro e w4 ⟨rfl, hb4⟩; (have HP4 := Lib.hid (HP3.out.below hb4)); (have v1 := (hb4.cell (p := ⟨w.heap.size, 1, none⟩) (block_lt_of_cell u1)).trans u1)) | (go_at_call 144; (with_reducible refine (P2.out _ HP4.out).mono ?_); rintro e w5 ⟨rfl, hb5⟩; (have HP5 := Lib.hid (HP4.out.below hb5)); (have v2 := (hb5.cell (p := ⟨w.heap.size, 1, none⟩) (block_lt_of_cell v1)).trans v1)) | (go_at_call 144; (with_reducible refine (P3.out _ HP5.out).mono ?_); rintro e w6 ⟨rfl, hb6⟩; (have v3 := (hb6.cell (p := ⟨w.heap.size, 1, none⟩) (block_lt_of_cell v2)).trans v2)))
    have hpt := HPT.out
    have hend := ((HB4.out.trans (hb4.mono HB4.out.size)).trans (hb5.mono (Nat.le_trans HB4.out.size hb4.size))).trans (hb6.mono (Nat.le_trans (Nat.le_trans HB4.out.size hb4.size) hb5.size))
    go_ret
    exact ⟨rs_str (ba_ext (by rw [HTD.out]; simp [hpt])), hend⟩
end Go.Proofs.YtlhcejbimlilaaaGreatDoor
