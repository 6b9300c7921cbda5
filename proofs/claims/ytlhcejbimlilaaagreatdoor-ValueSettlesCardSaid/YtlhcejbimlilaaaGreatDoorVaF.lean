/- The program's texts of numbers: whole, plain, scientific. -/
import Derived.Test.YtlhcejbimlilaaaGreatDoorVaB
import Derived.Test.YtlhcejbimlilaaaGreatDoorVaC
set_option linter.unusedVariables false
set_option linter.unusedSimpArgs false
namespace Go.Tk
open Go Go.RowKit
theorem ba_app (a b : List UInt8) : (⟨a.toArray⟩ : ByteArray) ++ ⟨b.toArray⟩ = ⟨(a ++ b).toArray⟩ := by
  apply ByteArray.ext; rw [ByteArray.data_append]; simp
theorem ba_app' (a b : ByteArray) : a ++ b = ⟨(a.data.toList ++ b.data.toList).toArray⟩ := by
  apply ByteArray.ext; rw [ByteArray.data_append]; simp
theorem ba_ext {a b : ByteArray} (h : a.data.toList = b.data.toList) : a = b := by
  rw [← str_mk a, ← str_mk b, h]
theorem rs_str {a b : ByteArray} (h : a = b) : Ending.returned (.string a) = .returned (.string b) := by rw [h]
theorem rs_str2 {a b : ByteArray} {x : Bool} (h : a = b) : Ending.returned (.tuple #[.string a, .bool x]) = .returned (.tuple #[.string b, .bool x]) := by rw [h]
theorem sz_mk (l : List UInt8) : (⟨l.toArray⟩ : ByteArray).size = l.length := by simp [ByteArray.size]
end Go.Tk
namespace Go.Proofs.YtlhcejbimlilaaaGreatDoor
open Go.RowKit Go.Tk
set_option maxHeartbeats 1000000 in
theorem whole_calls (n : Nm) (w : World) (hn : n.dg.length ≤ 1000000000) (hp : n.dg ≠ [] → (n.dg.length : Int) ≤ n.pw ∧ n.pw ≤ 4000000000) :
    Calls Tryz.prog 106 #[n.val] w fun e w' => e = .returned (.string ⟨(whN n).toArray⟩) ∧ Below w.heap.size w w' := by
  obtain ⟨bl, dg, pw, inf, nan⟩ := n
  unfold Nm.val
  dsimp only at hn hp ⊢
  by_cases hd : dg = []
  · subst hd
    have e : whN ⟨bl, [], pw, inf, nan⟩ = [48] := rfl
    rw [e]
    clear e hp
    go_enter Tryz.func106, Tryz.ntmps106
    go_wp2_with fail
    go_ret
    exact ⟨rfl, (Below.refl _ _).alloc (Nat.le_refl _) _⟩
  · obtain ⟨hp1, hp2⟩ := hp hd
    have e : whN ⟨bl, dg, pw, inf, nan⟩ = (if bl = true then [45] else []) ++ (dg ++ rep0 (pw - dg.length).toNat) := by unfold whN; rw [if_neg hd]
    have he := emp_ba dg
    rw [decide_eq_false hd] at he
    have hs := sz_mk dg
    have hrp := fun w => rep_calls (pw - dg.length) w (by omega) (by omega)
    have hrs : (rep0 (pw - dg.length).toNat).length = (pw - dg.length).toNat := by simp [rep0]
    obtain ⟨R, hR⟩ : ∃ R : ByteArray, R = ⟨(rep0 (pw - dg.length).toNat).toArray⟩ := ⟨_, rfl⟩
    have hRs : R.size ≤ 4000000000 := by rw [hR, sz_mk, hrs]; omega
    obtain ⟨D, hD⟩ : ∃ D : ByteArray, D = ⟨dg.toArray⟩ := ⟨_, rfl⟩
    rw [← hR] at hrp
    rw [← hs] at hrp hp1 hn
    rw [← hD] at he hs hrp hp1 hn ⊢
    have hDR : (D ++ R).size ≤ 8000000000 := by rw [ByteArray.size_append]; omega
    obtain ⟨T, hT⟩ : ∃ T : ByteArray, T = ⟨(whN ⟨bl, dg, pw, inf, nan⟩).toArray⟩ := ⟨_, rfl⟩
    have hfin : (if bl = true then (⟨#[45]⟩ : ByteArray) ++ (D ++ R) else D ++ R) = T := by
      rw [hT, e, hD, hR, ba_app]
      cases bl with
      | false => rfl
      | true => exact ba_app [45] _
    rw [← hT]
    have HRP := Lib.hid hrp
    have HF := Lib.hid hfin
    clear e hd hrp hrs hR hD hs hfin hp hT
    go_enter Tryz.func106, Tryz.ntmps106
    go_upto_region 3 with fail
    obtain ⟨r1, hb⟩ := box1 w (.cells #[.bool bl, .string D, .int .i64 pw, .int .i64 inf, .bool nan] 55)
    generalize World.alloc w _ = w2 at r1 hb ⊢
    have hz := lt_of_block r1
    have q1 := Lw.row r1
    have x0 := fun x => (row_cell (q1 x) 0)
    have x1 := fun x => (row_cell (q1 x) 1)
    have x2 := fun x => (row_cell (q1 x) 2)
    simp at x0 x1 x2
    clear q1 r1
    have hw1 : IntKind.i64.wrap (pw - (D.size : Int)) = pw - (D.size : Int) := by rw [IntKind.wrap_i64]; omega
    refine wp_region_lw (by kernel_rfl) (by kernel_rfl) ?_
    repeat (go_big_quiet_step (first | exact rfl | (go_at_call 135; with_reducible exact lw_call (HRP.out _))))
    refine wpQuiet_nil ?_
    rintro ⟨w3, hb3⟩
    have u0 := x0 ⟨w3, hb3⟩
    dsimp only at u0 ⊢
    have hb4 := hb.trans (hb3.mono hb.size)
    clear x0 x1 x2 hb hb3 hw1
    cases bl with
    | false =>
      go_wp2_with fail
      go_ret
      exact ⟨rs_str HF.out, hb4⟩
    | true =>
      go_wp2_with fail
      go_ret
      exact ⟨rs_str HF.out, hb4⟩
set_option maxHeartbeats 2000000 in
theorem plain_calls (n : Nm) (w : World) (hn : n.dg.length ≤ 1000000000) (hp : -1000000000 ≤ n.pw ∧ n.pw ≤ 4000000000) :
    Calls Tryz.prog 98 #[n.val] w fun e w' => e = .returned (.string ⟨(plN n).toArray⟩) ∧ Below w.heap.size w w' := by
  obtain ⟨bl, dg, pw, inf, nan⟩ := n
  obtain ⟨hp1, hp2⟩ := hp
  unfold Nm.val
  dsimp only at hn hp1 hp2 ⊢
  obtain ⟨T, hT⟩ : ∃ T : ByteArray, T = ⟨(plN ⟨bl, dg, pw, inf, nan⟩).toArray⟩ := ⟨_, rfl⟩
  rw [← hT]
  have hs := sz_mk dg
  have he := emp_ba dg
  obtain ⟨D, hD⟩ : ∃ D : ByteArray, D = ⟨dg.toArray⟩ := ⟨_, rfl⟩
  rw [← hD] at hs he ⊢
  have hDd : D.data.toList = dg := by rw [hD]
  by_cases hd : dg = []
  · rw [decide_eq_true hd] at he
    have hfin : (if bl = true then (⟨#[45, 48, 46, 48]⟩ : ByteArray) else ⟨#[48, 46, 48]⟩) = T := by
      rw [hT]; subst hd; cases bl <;> rfl
    have HF := Lib.hid hfin
    clear hT hD hs hd hDd hfin
    cases bl with
    | false =>
      go_enter Tryz.func98, Tryz.ntmps98
      go_wp2_with fail
      go_ret
      exact ⟨rs_str HF.out, (Below.refl _ _).alloc (Nat.le_refl _) _⟩
    | true =>
      go_enter Tryz.func98, Tryz.ntmps98
      go_wp2_with fail
      go_ret
      exact ⟨rs_str HF.out, (Below.refl _ _).alloc (Nat.le_refl _) _⟩
  rw [decide_eq_false hd] at he
  have hTd : T.data.toList = (if bl = true then [45] else []) ++ plW ⟨bl, dg, pw, inf, nan⟩ ++ [46] ++ plF ⟨bl, dg, pw, inf, nan⟩ := by rw [hT]; rfl
  by_cases hp0 : pw ≤ 0
  · have e1 : plW ⟨bl, dg, pw, inf, nan⟩ = [48] := by unfold plW; rw [if_neg hd, if_pos hp0]
    have e2 : plF ⟨bl, dg, pw, inf, nan⟩ = rep0 (-pw).toNat ++ dg := by unfold plF; rw [if_neg hd, if_pos hp0]
    have hrp := fun w => rep_calls (-pw) w (by omega) (by omega)
    have hrs : (rep0 (-pw).toNat).length = (-pw).toNat := by simp [rep0]
    obtain ⟨R, hR⟩ : ∃ R : ByteArray, R = ⟨(rep0 (-pw).toNat).toArray⟩ := ⟨_, rfl⟩
    have hRs : R.size ≤ 4000000000 := by rw [hR, sz_mk, hrs]; omega
    have hRd : R.data.toList = rep0 (-pw).toNat := by rw [hR]
    rw [← hR] at hrp
    have hDz : D.size ≤ 1000000000 := by rw [hs]; exact hn
    have hDR : (R ++ D).size ≤ 8000000000 := by rw [ByteArray.size_append]; omega
    have hfin : T.data.toList = (if bl = true then [45] else []) ++ [48] ++ [46] ++ (R ++ D).data.toList := by rw [hTd, e1, e2, cat_ba, hRd, hDd]
    obtain ⟨P, hP⟩ : ∃ P, R ++ D = P := ⟨_, rfl⟩
    rw [hP] at hfin hDR
    have hPd : P.data.toList = P.data.toList := rfl
    have HRP := Lib.hid hrp
    have HF := Lib.hid hfin
    have HPd := Lib.hid hPd
    have hw1 : IntKind.i64.wrap (-pw) = -pw := by rw [IntKind.wrap_i64]; omega
    clear hT hTd hd e1 e2 hrp hrs hR hRd hfin hs hD hDd hn hPd
    go_enter Tryz.func98, Tryz.ntmps98
    go_upto_region 5 with fail
    obtain ⟨r1, hb⟩ := box1 w (.cells #[.bool bl, .string D, .int .i64 pw, .int .i64 inf, .bool nan] 55)
    generalize World.alloc w _ = w2 at r1 hb ⊢
    have hz := lt_of_block r1
    have q1 := Lw.row r1
    have x0 := fun x => (row_cell (q1 x) 0)
    have x1 := fun x => (row_cell (q1 x) 1)
    have x2 := fun x => (row_cell (q1 x) 2)
    simp at x0 x1 x2
    clear q1 r1
    refine wp_region_lw (by kernel_rfl) (by kernel_rfl) ?_
    repeat (go_big_quiet_step (first | exact rfl | (go_at_call 135; with_reducible exact lw_call (HRP.out _))))
    refine wpQuiet_nil ?_
    rintro ⟨w3, hb3⟩
    have u0 := x0 ⟨w3, hb3⟩
    dsimp only at u0 ⊢
    have hb4 := hb.trans (hb3.mono hb.size)
    clear x0 x1 x2 hb hb3
    clear hw1
    cases bl with
    | false =>
      go_wp2_with fail
      go_ret
      exact ⟨rs_str (ba_ext (by rw [HF.out]; simp [HPd.out])), hb4⟩
    | true =>
      go_wp2_with fail
      go_ret
      exact ⟨rs_str (ba_ext (by rw [HF.out]; simp [HPd.out])), hb4⟩
  by_cases hpl : (dg.length : Int) ≤ pw
  · have e1 : plW ⟨bl, dg, pw, inf, nan⟩ = dg ++ rep0 (pw - dg.length).toNat := by unfold plW; rw [if_neg hd, if_neg hp0, if_pos hpl]
    have e2 : plF ⟨bl, dg, pw, inf, nan⟩ = [48] := by unfold plF; rw [if_neg hd, if_neg hp0, if_pos hpl]
    have hrp := fun w => rep_calls (pw - dg.length) w (by omega) (by omega)
    have hrs : (rep0 (pw - dg.length).toNat).length = (pw - dg.length).toNat := by simp [rep0]
    obtain ⟨R, hR⟩ : ∃ R : ByteArray, R = ⟨(rep0 (pw - dg.length).toNat).toArray⟩ := ⟨_, rfl⟩
    have hRs : R.size ≤ 4000000000 := by rw [hR, sz_mk, hrs]; omega
    have hRd : R.data.toList = rep0 (pw - dg.length).toNat := by rw [hR]
    rw [← hR] at hrp
    have hDz : D.size ≤ 1000000000 := by rw [hs]; exact hn
    have hDR : (D ++ R).size ≤ 8000000000 := by rw [ByteArray.size_append]; omega
    have hfin : T.data.toList = (if bl = true then [45] else []) ++ (D ++ R).data.toList ++ [46] ++ [48] := by rw [hTd, e1, e2, cat_ba, hRd, hDd]
    obtain ⟨P, hP⟩ : ∃ P, D ++ R = P := ⟨_, rfl⟩
    rw [hP] at hfin hDR
    rw [← hs] at hrp hpl
    have hPd : P.data.toList = P.data.toList := rfl
    have HRP := Lib.hid hrp
    have HF := Lib.hid hfin
    have HPd := Lib.hid hPd
    have hw1 : IntKind.i64.wrap (pw - (D.size : Int)) = pw - (D.size : Int) := by rw [IntKind.wrap_i64]; omega
    clear hT hTd hd e1 e2 hrp hrs hR hRd hfin hs hD hDd hn hPd
    go_enter Tryz.func98, Tryz.ntmps98
    go_upto_region 7 with fail
    obtain ⟨r1, hb⟩ := box1 w (.cells #[.bool bl, .string D, .int .i64 pw, .int .i64 inf, .bool nan] 55)
    generalize World.alloc w _ = w2 at r1 hb ⊢
    have hz := lt_of_block r1
    have q1 := Lw.row r1
    have x0 := fun x => (row_cell (q1 x) 0)
    have x1 := fun x => (row_cell (q1 x) 1)
    have x2 := fun x => (row_cell (q1 x) 2)
    simp at x0 x1 x2
    clear q1 r1
    refine wp_region_lw (by kernel_rfl) (by kernel_rfl) ?_
    repeat (go_big_quiet_step (first | exact rfl | (go_at_call 135; with_reducible exact lw_call (HRP.out _))))
    refine wpQuiet_nil ?_
    rintro ⟨w3, hb3⟩
    have u0 := x0 ⟨w3, hb3⟩
    dsimp only at u0 ⊢
    have hb4 := hb.trans (hb3.mono hb.size)
    clear x0 x1 x2 hb hb3
    clear hw1
    cases bl with
    | false =>
      go_wp2_with fail
      go_ret
      exact ⟨rs_str (ba_ext (by rw [HF.out]; simp [HPd.out])), hb4⟩
    | true =>
      go_wp2_with fail
      go_ret
      exact ⟨rs_str (ba_ext (by rw [HF.out]; simp [HPd.out])), hb4⟩
  · have e1 : plW ⟨bl, dg, pw, inf, nan⟩ = dg.take pw.toNat := by unfold plW; rw [if_neg hd, if_neg hp0, if_neg hpl]
    have e2 : plF ⟨bl, dg, pw, inf, nan⟩ = dg.drop pw.toNat := by unfold plF; rw [if_neg hd, if_neg hp0, if_neg hpl]
    obtain ⟨k, rfl⟩ : ∃ k : Nat, pw = k := ⟨pw.toNat, by omega⟩
    rw [Int.toNat_natCast] at e1 e2
    have hDz : D.size ≤ 1000000000 := by rw [hs]; exact hn
    have hkD : k < D.size := by rw [hs]; omega
    have x5 := ex_take D k
    have x6 := ex_drop D k
    rw [hDd] at x5 x6
    obtain ⟨W, hW⟩ : ∃ W, D.extract 0 k = W := ⟨_, rfl⟩
    obtain ⟨P, hP⟩ : ∃ P, D.extract k D.size = P := ⟨_, rfl⟩
    rw [hW] at x5
    rw [hP] at x6
    have hWd : W.data.toList = dg.take k := by rw [x5]
    have hPd : P.data.toList = dg.drop k := by rw [x6]
    have hWs : W.size ≤ 1000000000 := by rw [Lib.size_eq, hWd, List.length_take]; omega
    have hPs : P.size ≤ 1000000000 := by rw [Lib.size_eq, hPd, List.length_drop]; omega
    have hfin : T.data.toList = (if bl = true then [45] else []) ++ W.data.toList ++ [46] ++ P.data.toList := by rw [hTd, e1, e2, hWd, hPd]
    have HF := Lib.hid hfin
    have HPd := Lib.hid hPd
    have hk0 : 0 < k := by omega
    clear hT hTd hd e1 e2 hfin hs hD hDd hn hPd hWd x5 x6 hp0 hpl
    go_enter Tryz.func98, Tryz.ntmps98
    go_upto_region 2 with fail
    obtain ⟨r1, hb⟩ := box1 w (.cells #[.bool bl, .string D, .int .i64 (k : Nat), .int .i64 inf, .bool nan] 55)
    generalize World.alloc w _ = w2 at r1 hb ⊢
    have hz := lt_of_block r1
    have q1 := Lw.row r1
    have x0 := fun x => (row_cell (q1 x) 0)
    have x1 := fun x => (row_cell (q1 x) 1)
    have x2 := fun x => (row_cell (q1 x) 2)
    simp at x0 x1 x2
    clear q1 r1
    refine wp_region_lw (by kernel_rfl) (by kernel_rfl) ?_
    repeat (go_big_quiet_step (exact rfl))
    refine wpQuiet_nil ?_
    rintro ⟨w3, hb3⟩
    have u0 := x0 ⟨w3, hb3⟩
    dsimp only at u0 ⊢
    have hb4 := hb.trans (hb3.mono hb.size)
    clear x0 x1 x2 hb hb3
    cases bl with
    | false =>
      go_wp2_with fail
      go_ret
      exact ⟨rs_str (ba_ext (by rw [HF.out]; simp)), hb4⟩
    | true =>
      go_wp2_with fail
      go_ret
      exact ⟨rs_str (ba_ext (by rw [HF.out]; simp)), hb4⟩
set_option maxHeartbeats 2000000 in
theorem scientific_calls (n : Nm) (w : World) (hpw : Pow w) (hn : n.dg.length ≤ 1000000000) (hp : -4000000000 ≤ n.pw ∧ n.pw ≤ 4000000000) :
    Calls Tryz.prog 101 #[n.val] w fun e w' => e = .returned (.tuple #[.string ⟨((scN n).getD []).toArray⟩, .bool (scN n).isSome]) ∧ Below w.heap.size w w' := by
  obtain ⟨bl, dg, pw, inf, nan⟩ := n
  obtain ⟨hp1, hp2⟩ := hp
  unfold Nm.val
  dsimp only at hn hp1 hp2 ⊢
  have hsc : scN ⟨bl, dg, pw, inf, nan⟩ = if nan = true then some [78, 97, 78] else if 0 < inf then some [73, 78, 70] else if inf < 0 then some [45, 73, 78, 70] else if dg = [] then some [48, 46, 48, 69, 48] else if 999999999 < pw - 1 ∨ pw - 1 < -999999999 then none else some ((if bl = true then [45] else []) ++ (dg.take 1 ++ [46] ++ (if dg.drop 1 = [] then [48] else dg.drop 1) ++ [69] ++ Lib.itoa (pw - 1))) := rfl
  rw [hsc]
  have hs := sz_mk dg
  have he := emp_ba dg
  obtain ⟨D, hD⟩ : ∃ D : ByteArray, D = ⟨dg.toArray⟩ := ⟨_, rfl⟩
  rw [← hD] at hs he ⊢
  have hDd : D.data.toList = dg := by rw [hD]
  cases nan with
  | true =>
    rw [if_pos rfl]
    clear hsc hs he hD hDd
    go_enter Tryz.func101, Tryz.ntmps101
    go_wp2_with fail
    go_ret2
    exact ⟨rfl, (Below.refl _ _).alloc (Nat.le_refl _) _⟩
  | false =>
  rw [if_neg (by simp)]
  by_cases hi1 : 0 < inf
  · rw [if_pos hi1]
    clear hsc hs he hD hDd
    go_enter Tryz.func101, Tryz.ntmps101
    go_wp2_with fail
    go_ret2
    exact ⟨rfl, (Below.refl _ _).alloc (Nat.le_refl _) _⟩
  rw [if_neg hi1]
  by_cases hi2 : inf < 0
  · rw [if_pos hi2]
    clear hsc hs he hD hDd
    go_enter Tryz.func101, Tryz.ntmps101
    go_wp2_with fail
    go_ret2
    exact ⟨rfl, (Below.refl _ _).alloc (Nat.le_refl _) _⟩
  rw [if_neg hi2]
  obtain rfl : inf = 0 := by omega
  by_cases hd : dg = []
  · rw [if_pos hd]
    rw [decide_eq_true hd] at he
    clear hsc hs hD hDd hi1 hi2 hd
    go_enter Tryz.func101, Tryz.ntmps101
    go_wp2_with fail
    go_ret2
    exact ⟨rfl, (Below.refl _ _).alloc (Nat.le_refl _) _⟩
  rw [if_neg hd]
  rw [decide_eq_false hd] at he
  have hd0 : 0 < D.size := by rw [hs]; exact List.length_pos_iff.2 hd
  have hDz : D.size ≤ 1000000000 := by rw [hs]; exact hn
  have x5 := ex_take D 1
  have x6 := ex_drop D 1
  rw [hDd] at x5 x6
  obtain ⟨W, hW⟩ : ∃ W, D.extract 0 1 = W := ⟨_, rfl⟩
  obtain ⟨P, hP⟩ : ∃ P, D.extract 1 D.size = P := ⟨_, rfl⟩
  rw [hW] at x5
  rw [hP] at x6
  have hWd : W.data.toList = dg.take 1 := by rw [x5]
  have hPd : P.data.toList = dg.drop 1 := by rw [x6]
  have hWs : W.size ≤ 1 := by rw [Lib.size_eq, hWd, List.length_take]; omega
  have hPs : P.size ≤ 1000000000 := by rw [Lib.size_eq, hPd, List.length_drop]; omega
  have hPe : (P.toList == []) = decide (dg.drop 1 = []) := by rw [x6]; exact emp_ba _
  by_cases hr1 : 999999999 < pw - 1
  · rw [if_pos (.inl hr1)]
    clear hsc hD hDd hi1 hi2 hd hs x5 x6 hWd hPd hn
    cases hdd : decide (dg.drop 1 = []) with
    | true =>
      rw [hdd] at hPe
      clear hdd
      go_enter Tryz.func101, Tryz.ntmps101
      go_wp2_with fail
      go_ret2
      exact ⟨rfl, (Below.refl _ _).alloc (Nat.le_refl _) _⟩
    | false =>
      rw [hdd] at hPe
      clear hdd
      go_enter Tryz.func101, Tryz.ntmps101
      go_wp2_with fail
      go_ret2
      exact ⟨rfl, (Below.refl _ _).alloc (Nat.le_refl _) _⟩
  by_cases hr2 : pw - 1 < -999999999
  · rw [if_pos (.inr hr2)]
    clear hsc hD hDd hi1 hi2 hd hs x5 x6 hWd hPd hn
    cases hdd : decide (dg.drop 1 = []) with
    | true =>
      rw [hdd] at hPe
      clear hdd
      go_enter Tryz.func101, Tryz.ntmps101
      go_wp2_with fail
      go_ret2
      exact ⟨rfl, (Below.refl _ _).alloc (Nat.le_refl _) _⟩
    | false =>
      rw [hdd] at hPe
      clear hdd
      go_enter Tryz.func101, Tryz.ntmps101
      go_wp2_with fail
      go_ret2
      exact ⟨rfl, (Below.refl _ _).alloc (Nat.le_refl _) _⟩
  rw [if_neg (by omega)]
  have hit := fun w (h : Pow w) => itoa_calls (pw - 1) w h (by omega) (by omega)
  have hil := Lib.itoa_length_le (pw - 1) (by omega) (by omega)
  obtain ⟨I, hI⟩ : ∃ I : ByteArray, I = ⟨(Lib.itoa (pw - 1)).toArray⟩ := ⟨_, rfl⟩
  rw [← hI] at hit
  have hId : I.data.toList = Lib.itoa (pw - 1) := by rw [hI]
  have hIs : I.size ≤ 21 := by rw [Lib.size_eq, hId]; exact hil
  obtain ⟨T, hT⟩ : ∃ T : ByteArray, T = ⟨((if bl = true then [45] else []) ++ (dg.take 1 ++ [46] ++ (if dg.drop 1 = [] then [48] else dg.drop 1) ++ [69] ++ Lib.itoa (pw - 1))).toArray⟩ := ⟨_, rfl⟩
  have hTd : T.data.toList = (if bl = true then [45] else []) ++ (W.data.toList ++ [46] ++ (if decide (dg.drop 1 = []) = true then [48] else P.data.toList) ++ [69] ++ I.data.toList) := by
    rw [hT, hWd, hPd, hId]; simp
  show Calls _ _ _ _ fun e w' => e = .returned (.tuple #[.string ⟨((if bl = true then [45] else []) ++ (dg.take 1 ++ [46] ++ (if dg.drop 1 = [] then [48] else dg.drop 1) ++ [69] ++ Lib.itoa (pw - 1))).toArray⟩, .bool true]) ∧ _
  rw [← hT]
  have HIT := Lib.hid hit
  have hw1 : IntKind.i64.wrap (pw - 1) = pw - 1 := by rw [IntKind.wrap_i64]; omega
  clear hsc hD hDd hi1 hi2 hd hs x5 x6 hWd hPd hn hit hil hI hId hT
  obtain ⟨dd, hdd⟩ : ∃ b, b = decide (dg.drop 1 = []) := ⟨_, rfl⟩
  rw [← hdd] at hPe hTd
  have HF := Lib.hid hTd
  have HPW := Lib.hid hpw
  clear hTd hdd hpw
  cases dd with
  | true =>
    have hf := HF.out
    simp only [Bool.false_eq_true, if_false, if_true] at hf
    have HF := Lib.hid hf
    have hcc : (W ++ ⟨#[46]⟩ ++ ⟨#[48]⟩ ++ ⟨#[69]⟩).size ≤ 2000000000 := by simp only [ByteArray.size_append]; show W.size + 1 + 1 + 1 ≤ _; omega
    clear hf
    go_enter Tryz.func101, Tryz.ntmps101
    go_upto_region 15 with fail
    obtain ⟨r1, hb⟩ := box1 w (.cells #[.bool bl, .string D, .int .i64 pw, .int .i64 0, .bool false] 55)
    generalize World.alloc w _ = w2 at r1 hb ⊢
    have hpw2 := HPW.out.below hb
    have hz := lt_of_block r1
    have q1 := Lw.row r1
    have x0 := fun x => (row_cell (q1 x) 0)
    have x1 := fun x => (row_cell (q1 x) 1)
    have x2 := fun x => (row_cell (q1 x) 2)
    have hit2 : ∀ x : Lw w2, Calls Tryz.prog 141 #[.int .i64 (pw - 1)] x.to fun e w' => e = .returned (.string I) ∧ Below x.to.heap.size x.to w' := fun x => HIT.out x.to (hpw2.below x.bel)
    have HIT2 := Lib.hid hit2
    simp at x0 x1 x2
    clear q1 r1 hit2 hpw2
    refine wp_region_lw (by kernel_rfl) (by kernel_rfl) ?_
    repeat (go_big_quiet_step (first | exact rfl | (go_at_call 141; with_reducible exact lw_call (HIT2.out _))))
    refine wpQuiet_nil ?_
    rintro ⟨w3, hb3⟩
    have u0 := x0 ⟨w3, hb3⟩
    dsimp only at u0 ⊢
    have hb4 := hb.trans (hb3.mono hb.size)
    clear x0 x1 x2 hb hb3 HIT2
    have hci : (W ++ ⟨#[46]⟩ ++ ⟨#[48]⟩ ++ ⟨#[69]⟩ ++ I).size ≤ 3000000000 := by rw [ByteArray.size_append]; omega
    cases bl with
    | false =>
      go_wp2_with fail
      go_ret2
      exact ⟨rs_str2 (ba_ext (by rw [HF.out]; simp)), hb4⟩
    | true =>
      go_wp2_with fail
      go_ret2
      exact ⟨rs_str2 (ba_ext (by rw [HF.out]; simp)), hb4⟩
  | false =>
    have hf := HF.out
    simp only [Bool.false_eq_true, if_false, if_true] at hf
    have HF := Lib.hid hf
    have hcc : (W ++ ⟨#[46]⟩ ++ P ++ ⟨#[69]⟩).size ≤ 2000000000 := by simp only [ByteArray.size_append]; show W.size + 1 + P.size + 1 ≤ _; omega
    clear hf
    go_enter Tryz.func101, Tryz.ntmps101
    go_upto_region 15 with fail
    obtain ⟨r1, hb⟩ := box1 w (.cells #[.bool bl, .string D, .int .i64 pw, .int .i64 0, .bool false] 55)
    generalize World.alloc w _ = w2 at r1 hb ⊢
    have hpw2 := HPW.out.below hb
    have hz := lt_of_block r1
    have q1 := Lw.row r1
    have x0 := fun x => (row_cell (q1 x) 0)
    have x1 := fun x => (row_cell (q1 x) 1)
    have x2 := fun x => (row_cell (q1 x) 2)
    have hit2 : ∀ x : Lw w2, Calls Tryz.prog 141 #[.int .i64 (pw - 1)] x.to fun e w' => e = .returned (.string I) ∧ Below x.to.heap.size x.to w' := fun x => HIT.out x.to (hpw2.below x.bel)
    have HIT2 := Lib.hid hit2
    simp at x0 x1 x2
    clear q1 r1 hit2 hpw2
    refine wp_region_lw (by kernel_rfl) (by kernel_rfl) ?_
    repeat (go_big_quiet_step (first | exact rfl | (go_at_call 141; with_reducible exact lw_call (HIT2.out _))))
    refine wpQuiet_nil ?_
    rintro ⟨w3, hb3⟩
    have u0 := x0 ⟨w3, hb3⟩
    dsimp only at u0 ⊢
    have hb4 := hb.trans (hb3.mono hb.size)
    clear x0 x1 x2 hb hb3 HIT2
    have hci : (W ++ ⟨#[46]⟩ ++ P ++ ⟨#[69]⟩ ++ I).size ≤ 3000000000 := by rw [ByteArray.size_append]; omega
    cases bl with
    | false =>
      go_wp2_with fail
      go_ret2
      exact ⟨rs_str2 (ba_ext (by rw [HF.out]; simp)), hb4⟩
    | true =>
      go_wp2_with fail
      go_ret2
      exact ⟨rs_str2 (ba_ext (by rw [HF.out]; simp)), hb4⟩
end Go.Proofs.YtlhcejbimlilaaaGreatDoor
