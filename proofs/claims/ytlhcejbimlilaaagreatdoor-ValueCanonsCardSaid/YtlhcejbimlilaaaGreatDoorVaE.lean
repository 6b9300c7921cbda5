/- The program's double (written by gen_vab.py). -/
import Derived.Test.YtlhcejbimlilaaaGreatDoorVaB
set_option linter.unusedVariables false
set_option linter.unusedSimpArgs false
namespace Go.Tk
open Go Go.RowKit
theorem hdE_le (l : List UInt8) : (hdE l).length ≤ l.length := by
  unfold hdE
  have := congrArg List.length (List.takeWhile_append_dropWhile (p := fun c => !isE c) (l := l))
  rw [List.length_append] at this
  omega
theorem tlE_le (l : List UInt8) : (tlE l).length ≤ l.length := by
  unfold tlE
  have := congrArg List.length (List.takeWhile_append_dropWhile (p := fun c => !isE c) (l := l))
  rw [List.length_append] at this
  rw [List.length_drop]
  omega
end Go.Tk
namespace Go.Proofs.YtlhcejbimlilaaaGreatDoor
open Go.RowKit Go.Tk
set_option maxHeartbeats 4000000 in
set_option maxRecDepth 100000 in
theorem double_calls (s : ByteArray) (w : World) (hs : s.size ≤ 4000000000) :
    Calls Tryz.prog 54 #[.string s] w fun e w' => e = .returned (.tuple #[((dblP s.data.toList).getD nmZ).val, .bool (dblP s.data.toList).isSome]) ∧ Below w.heap.size w w' := by
  by_cases c1 : s.data.toList = [78, 97, 78]
  · rw [show dblP s.data.toList = some nmNaN by unfold dblP; rw [if_pos c1]]
    show Calls _ _ _ _ fun e w' => e = .returned (.tuple #[nmNaN.val, .bool true]) ∧ _
    unfold nmNaN Nm.val
    dsimp only
    obtain rfl : s = ⟨#[78, 97, 78]⟩ := by rw [← str_mk s, c1]
    go_enter Tryz.func54, Tryz.ntmps54
    go_wp2_with fail
    refine bodyPost_ret (v := .tuple #[.agg #[.bool false, .string ⟨#[]⟩, .int .i64 0, .int .i64 0, .bool true], .bool true]) (by simp [results, Tryz.results54, go_sem]) rfl ⟨rfl, ?_⟩
    repeat (first | with_reducible exact Below.refl _ _ | with_reducible refine below_drewN ?_ _ | (with_reducible refine Below.setCell ?_ (by simp) _) | (with_reducible refine Below.alloc ?_ (by simp) _))
  by_cases c2 : s.data.toList = [73, 78, 70]
  · rw [show dblP s.data.toList = some (nmInf 1) by unfold dblP; rw [if_neg c1, if_pos (.inl c2)]]
    show Calls _ _ _ _ fun e w' => e = .returned (.tuple #[(nmInf 1).val, .bool true]) ∧ _
    unfold nmInf Nm.val
    dsimp only
    clear c1
    obtain rfl : s = ⟨#[73, 78, 70]⟩ := by rw [← str_mk s, c2]
    go_enter Tryz.func54, Tryz.ntmps54
    go_wp2_with fail
    refine bodyPost_ret (v := .tuple #[.agg #[.bool false, .string ⟨#[]⟩, .int .i64 0, .int .i64 1, .bool false], .bool true]) (by simp [results, Tryz.results54, go_sem]) rfl ⟨rfl, ?_⟩
    repeat (first | with_reducible exact Below.refl _ _ | with_reducible refine below_drewN ?_ _ | (with_reducible refine Below.setCell ?_ (by simp) _) | (with_reducible refine Below.alloc ?_ (by simp) _))
  by_cases c3 : s.data.toList = [43, 73, 78, 70]
  · rw [show dblP s.data.toList = some (nmInf 1) by unfold dblP; rw [if_neg c1, if_pos (.inr c3)]]
    show Calls _ _ _ _ fun e w' => e = .returned (.tuple #[(nmInf 1).val, .bool true]) ∧ _
    unfold nmInf Nm.val
    dsimp only
    clear c1 c2
    obtain rfl : s = ⟨#[43, 73, 78, 70]⟩ := by rw [← str_mk s, c3]
    go_enter Tryz.func54, Tryz.ntmps54
    go_wp2_with fail
    refine bodyPost_ret (v := .tuple #[.agg #[.bool false, .string ⟨#[]⟩, .int .i64 0, .int .i64 1, .bool false], .bool true]) (by simp [results, Tryz.results54, go_sem]) rfl ⟨rfl, ?_⟩
    repeat (first | with_reducible exact Below.refl _ _ | with_reducible refine below_drewN ?_ _ | (with_reducible refine Below.setCell ?_ (by simp) _) | (with_reducible refine Below.alloc ?_ (by simp) _))
  by_cases c4 : s.data.toList = [45, 73, 78, 70]
  · rw [show dblP s.data.toList = some (nmInf (-1)) by unfold dblP; rw [if_neg c1, if_neg (by intro h; rcases h with h | h; exact c2 h; exact c3 h), if_pos c4]]
    show Calls _ _ _ _ fun e w' => e = .returned (.tuple #[(nmInf (-1)).val, .bool true]) ∧ _
    unfold nmInf Nm.val
    dsimp only
    clear c1 c2 c3
    obtain rfl : s = ⟨#[45, 73, 78, 70]⟩ := by rw [← str_mk s, c4]
    go_enter Tryz.func54, Tryz.ntmps54
    go_wp2_with fail
    refine bodyPost_ret (v := .tuple #[.agg #[.bool false, .string ⟨#[]⟩, .int .i64 0, .int .i64 (-1), .bool false], .bool true]) (by simp [results, Tryz.results54, go_sem]) rfl ⟨rfl, ?_⟩
    repeat (first | with_reducible exact Below.refl _ _ | with_reducible refine below_drewN ?_ _ | (with_reducible refine Below.setCell ?_ (by simp) _) | (with_reducible refine Below.alloc ?_ (by simp) _))
  have d1 : (s.toList == [78, 97, 78]) = false := by rw [Lib.toList_data]; exact beq_false_of_ne c1
  have d2 : (s.toList == [73, 78, 70]) = false := by rw [Lib.toList_data]; exact beq_false_of_ne c2
  have d3 : (s.toList == [43, 73, 78, 70]) = false := by rw [Lib.toList_data]; exact beq_false_of_ne c3
  have d4 : (s.toList == [45, 73, 78, 70]) = false := by rw [Lib.toList_data]; exact beq_false_of_ne c4
  have hdb : dblP s.data.toList = if s.data.toList.any isE = false then decP s.data.toList else if (okP (ctA (sgnR (hdE s.data.toList))) (ctB (sgnR (hdE s.data.toList))) && okE (tlE s.data.toList)) = true then some (mkN (sgnB (hdE s.data.toList)) (ctA (sgnR (hdE s.data.toList))) (ctB (sgnR (hdE s.data.toList))) (expZ (tlE s.data.toList))) else none := by
    unfold dblP; rw [if_neg c1, if_neg (by intro h; rcases h with h | h; exact c2 h; exact c3 h), if_neg c4]
  have hia := fun w => anyE_calls s w (by omega)
  clear c1 c2 c3 c4
  cases hE : s.data.toList.any isE with
  | false =>
    rw [hE, if_pos rfl] at hdb
    rw [hdb]
    have hdc := fun w => decimal_calls s w (by omega)
    rw [hE] at hia
    simp only [Bool.false_eq_true, if_false] at hia
    obtain ⟨⟨mb, md, mp, mi, mn⟩, hM⟩ : ∃ M, M = (decP s.data.toList).getD nmZ := ⟨_, rfl⟩
    obtain ⟨ok, hok⟩ : ∃ b, b = (decP s.data.toList).isSome := ⟨_, rfl⟩
    rw [← hM, ← hok] at hdc ⊢
    unfold Nm.val at hdc ⊢
    dsimp only at hdc ⊢
    have HIA := Lib.hid hia
    have HDC := Lib.hid hdc
    clear hdb hia hdc hE hM hok
    go_enter Tryz.func54, Tryz.ntmps54
    go_wp2_with (first | (go_at_call 99; (with_reducible refine (HIA.out _).mono ?_); rintro e w3 ⟨rfl, hb3⟩; (have R3 := (Res1.start 55 #[.bool false, .string ⟨#[]⟩, .int .i64 0, .int .i64 0, .bool false] w).next hb3); (have c30 : w3.cell? ⟨w.heap.size, 0, none⟩ = some (.bool false) := R3.cell 0); (have c31 : w3.cell? ⟨w.heap.size, 1, none⟩ = some (.string ⟨#[]⟩) := R3.cell 1); (have c32 : w3.cell? ⟨w.heap.size, 2, none⟩ = some (.int .i64 0) := R3.cell 2); (have c33 : w3.cell? ⟨w.heap.size, 3, none⟩ = some (.int .i64 0) := R3.cell 3); (have c34 : w3.cell? ⟨w.heap.size, 4, none⟩ = some (.bool false) := R3.cell 4); (have f3 : ∀ i, w3.frozen? ⟨w.heap.size, i, none⟩ = false := R3.frozen)) | (go_at_call 51; (with_reducible refine (HDC.out _).mono ?_); rintro e w4 ⟨rfl, hb4⟩; (have R4 := (R3).next hb4); (have c40 : w4.cell? ⟨w.heap.size, 0, none⟩ = some (.bool false) := R4.cell 0); (have c41 : w4.cell? ⟨w.heap.size, 1, none⟩ = some (.string ⟨#[]⟩) := R4.cell 1); (have c42 : w4.cell? ⟨w.heap.size, 2, none⟩ = some (.int .i64 0) := R4.cell 2); (have c43 : w4.cell? ⟨w.heap.size, 3, none⟩ = some (.int .i64 0) := R4.cell 3); (have c44 : w4.cell? ⟨w.heap.size, 4, none⟩ = some (.bool false) := R4.cell 4); (have f4 : ∀ i, w4.frozen? ⟨w.heap.size, i, none⟩ = false := R4.frozen)))
    refine bodyPost_ret (v := .tuple #[.agg #[.bool mb, .string ⟨md.toArray⟩, .int .i64 mp, .int .i64 mi, .bool mn], .bool ok]) (by simp [results, Tryz.results54, go_sem, c40, c41, c42, c43, c44]) rfl ⟨rfl, ?_⟩
    repeat (first | exact R4.below | with_reducible refine below_drewN ?_ _ | (with_reducible refine Below.setCell ?_ (by simp) _))
  | true =>
    rw [hE, if_neg (by simp)] at hdb
    rw [hE, if_pos rfl] at hia
    have hia : ∀ w, Calls Tryz.prog 99 #[.string s, .string ⟨#[101, 69]⟩] w fun e w' => e = .returned (.int .i64 ((hdE s.data.toList).length : Nat)) ∧ Below w.heap.size w w' := fun w => by have := hia w; simpa using this
    obtain ⟨k1, k2, k3⟩ := hdE_lt hE
    obtain ⟨m, hm⟩ : ∃ m, m = (hdE s.data.toList).length := ⟨_, rfl⟩
    rw [← hm] at hia k1 k2 k3
    rw [← Lib.size_eq] at k1
    have x1 := ex_take s m
    have x2 := ex_drop s (m + 1)
    rw [← k2] at x1
    rw [← k3] at x2
    obtain ⟨H, hH⟩ : ∃ H, s.extract 0 m = H := ⟨_, rfl⟩
    obtain ⟨X, hX⟩ : ∃ X, s.extract (m + 1) s.size = X := ⟨_, rfl⟩
    rw [hH] at x1
    rw [hX] at x2
    have hHd : H.data.toList = hdE s.data.toList := by rw [x1]
    have hXd : X.data.toList = tlE s.data.toList := by rw [x2]
    have hHs : H.size ≤ 4000000000 := by rw [Lib.size_eq, hHd]; have := hdE_le s.data.toList; rw [← Lib.size_eq] at this; omega
    have hXs : X.size ≤ 4000000000 := by rw [Lib.size_eq, hXd]; have := tlE_le s.data.toList; rw [← Lib.size_eq] at this; omega
    rw [← hHd, ← hXd] at hdb
    have hsg := fun w => sign_calls H w (by omega)
    have hsx := fun w => sign_calls X w (by omega)
    obtain ⟨R, hR⟩ : ∃ R : ByteArray, R = ⟨(sgnR H.data.toList).toArray⟩ := ⟨_, rfl⟩
    have hRd : R.data.toList = sgnR H.data.toList := by rw [hR]
    have hRs : R.size ≤ H.size := by rw [Lib.size_eq, hRd, Lib.size_eq]; exact sgnR_le _
    obtain ⟨Y, hY⟩ : ∃ Y : ByteArray, Y = ⟨(sgnR X.data.toList).toArray⟩ := ⟨_, rfl⟩
    have hYd : Y.data.toList = sgnR X.data.toList := by rw [hY]
    have hYs : Y.size ≤ X.size := by rw [Lib.size_eq, hYd, Lib.size_eq]; exact sgnR_le _
    rw [← hR] at hsg
    rw [← hY] at hsx
    have hct := fun w => cut_calls R w (by omega)
    obtain ⟨A, hA⟩ : ∃ A : ByteArray, A = ⟨(ctA R.data.toList).toArray⟩ := ⟨_, rfl⟩
    obtain ⟨B, hB⟩ : ∃ B : ByteArray, B = ⟨(ctB R.data.toList).toArray⟩ := ⟨_, rfl⟩
    have hAd : A.data.toList = ctA R.data.toList := by rw [hA]
    have hBd : B.data.toList = ctB R.data.toList := by rw [hB]
    have hAB : A.size + B.size ≤ R.size := by rw [Lib.size_eq A, Lib.size_eq B, Lib.size_eq R, hAd, hBd]; exact ct_le _
    rw [← hA, ← hB] at hct
    rw [← hRd, ← hAd, ← hBd] at hdb
    have hok : (okP A.data.toList B.data.toList && okE X.data.toList) = (dgB A.data.toList && dgB B.data.toList && !(A.data.toList ++ B.data.toList).isEmpty && !(Y.data.toList).isEmpty && decide (Y.data.toList.length ≤ 9) && dgB Y.data.toList) := by
      unfold okP okE; rw [← hYd]; simp only [Bool.and_assoc]
    have hex : expZ X.data.toList = if sgnB X.data.toList = true then -(numN Y.data.toList : Int) else numN Y.data.toList := by unfold expZ; rw [← hYd]
    rw [hok, hex] at hdb
    obtain ⟨bl, hbl⟩ : ∃ bl, bl = sgnB H.data.toList := ⟨_, rfl⟩
    obtain ⟨lx, hlx⟩ : ∃ lx, lx = sgnB X.data.toList := ⟨_, rfl⟩
    rw [← hbl] at hsg hdb
    rw [← hlx] at hsx hdb
    have hda := fun w => allDigits_calls A w (by omega)
    have hdbb := fun w => allDigits_calls B w (by omega)
    have hdx := fun w => allDigits_calls Y w (by omega)
    have hcat := cat_ba A B
    have he1 : ((A ++ B).toList == []) = (A.data.toList ++ B.data.toList).isEmpty := by rw [Lib.toList_data, hcat]; cases (A.data.toList ++ B.data.toList) <;> rfl
    have he2 : (Y.toList == []) = Y.data.toList.isEmpty := by rw [Lib.toList_data]; cases Y.data.toList <;> rfl
    have hyl : Y.data.toList.length = Y.size := (Lib.size_eq Y).symm
    obtain ⟨h1, h2⟩ := nm_opt _ _ _ hdb
    rw [h1, h2]
    have hAz : A.size ≤ 4000000000 := by omega
    have hBz : B.size ≤ 4000000000 := by omega
    have hYz : Y.size ≤ 4000000000 := by omega
    have hm9 : ((m : Int) + 1).toNat = m + 1 := by omega
    obtain ⟨da, hda'⟩ : ∃ d, d = dgB A.data.toList := ⟨_, rfl⟩
    obtain ⟨db, hdb'⟩ : ∃ d, d = dgB B.data.toList := ⟨_, rfl⟩
    obtain ⟨dx, hdx'⟩ : ∃ d, d = dgB Y.data.toList := ⟨_, rfl⟩
    obtain ⟨em, hem⟩ : ∃ d, d = (A.data.toList ++ B.data.toList).isEmpty := ⟨_, rfl⟩
    obtain ⟨ex, hexx⟩ : ∃ d, d = Y.data.toList.isEmpty := ⟨_, rfl⟩
    rw [← hda'] at hda ⊢
    rw [← hdb'] at hdbb ⊢
    rw [← hdx'] at hdx ⊢
    rw [← hem] at he1 ⊢
    rw [← hexx] at he2 ⊢
    have HIA := Lib.hid hia
    have HSG := Lib.hid hsg
    have HSX := Lib.hid hsx
    have HCT := Lib.hid hct
    have HDA := Lib.hid hda
    have HDB := Lib.hid hdbb
    have HDX := Lib.hid hdx
    have HDX' := Lib.hid hdx'
    have HEX' := Lib.hid hexx
    have HYL := Lib.hid hyl
    clear hia hsg hsx hR hRd hY hYd hct hA hB hAd hBd hdb hbl hlx hda hdbb hdx hcat h1 h2 hok hex hda' hdb' hdx' hem hexx hE hm k2 k3 x1 x2 hHd hXd hyl
    cases da with
    | false =>
    go_enter Tryz.func54, Tryz.ntmps54
    go_wp2_with (first | (go_at_call 99; (with_reducible refine (HIA.out _).mono ?_); rintro e w3 ⟨rfl, hb3⟩; (have R3 := (Res1.start 55 #[.bool false, .string ⟨#[]⟩, .int .i64 0, .int .i64 0, .bool false] w).next hb3); (have c30 : w3.cell? ⟨w.heap.size, 0, none⟩ = some (.bool false) := R3.cell 0); (have c31 : w3.cell? ⟨w.heap.size, 1, none⟩ = some (.string ⟨#[]⟩) := R3.cell 1); (have c32 : w3.cell? ⟨w.heap.size, 2, none⟩ = some (.int .i64 0) := R3.cell 2); (have c33 : w3.cell? ⟨w.heap.size, 3, none⟩ = some (.int .i64 0) := R3.cell 3); (have c34 : w3.cell? ⟨w.heap.size, 4, none⟩ = some (.bool false) := R3.cell 4); (have f3 : ∀ i, w3.frozen? ⟨w.heap.size, i, none⟩ = false := R3.frozen)) | (go_at_call 94; (with_reducible refine (HSG.out _).mono ?_); rintro e w' ⟨rfl, n, rfl⟩) | (go_at_call 94; (with_reducible refine (HSX.out _).mono ?_); rintro e w' ⟨rfl, n3, rfl⟩) | (go_at_call 95; (with_reducible refine (HCT.out _).mono ?_); rintro e w' ⟨⟨b, rfl⟩, n2, rfl⟩) | (go_at_call 96; (with_reducible refine (HDA.out _).mono ?_); rintro e w' ⟨rfl, rfl⟩) | (go_at_call 96; (with_reducible refine (HDB.out _).mono ?_); rintro e w' ⟨rfl, rfl⟩) | (go_at_call 96; (with_reducible refine (HDX.out _).mono ?_); rintro e w' ⟨rfl, rfl⟩) | (go_at_call 100; (with_reducible refine (HAT.out _).mono ?_); rintro e w5 ⟨rfl, hb5⟩; (have R5 := (R3.drewN _).next hb5); (have c50 : w5.cell? ⟨w.heap.size, 0, none⟩ = some (.bool false) := R5.cell 0); (have c51 : w5.cell? ⟨w.heap.size, 1, none⟩ = some (.string ⟨#[]⟩) := R5.cell 1); (have c52 : w5.cell? ⟨w.heap.size, 2, none⟩ = some (.int .i64 0) := R5.cell 2); (have c53 : w5.cell? ⟨w.heap.size, 3, none⟩ = some (.int .i64 0) := R5.cell 3); (have c54 : w5.cell? ⟨w.heap.size, 4, none⟩ = some (.bool false) := R5.cell 4); (have f5 : ∀ i, w5.frozen? ⟨w.heap.size, i, none⟩ = false := R5.frozen)) | (go_at_call 97; (with_reducible refine (HMD.out _).mono ?_); rintro e w4 ⟨rfl, hb4⟩; (have R4 := (R5).next hb4); (have c40 : w4.cell? ⟨w.heap.size, 0, none⟩ = some (.bool false) := R4.cell 0); (have c41 : w4.cell? ⟨w.heap.size, 1, none⟩ = some (.string ⟨#[]⟩) := R4.cell 1); (have c42 : w4.cell? ⟨w.heap.size, 2, none⟩ = some (.int .i64 0) := R4.cell 2); (have c43 : w4.cell? ⟨w.heap.size, 3, none⟩ = some (.int .i64 0) := R4.cell 3); (have c44 : w4.cell? ⟨w.heap.size, 4, none⟩ = some (.bool false) := R4.cell 4); (have f4 : ∀ i, w4.frozen? ⟨w.heap.size, i, none⟩ = false := R4.frozen)))
    refine bodyPost_ret (v := .tuple #[.agg #[.bool false, .string ⟨#[]⟩, .int .i64 0, .int .i64 0, .bool false], .bool false]) (by simp [results, Tryz.results54, go_sem, c30, c31, c32, c33, c34]) rfl ⟨rfl, ?_⟩
    repeat (first | exact R3.below | with_reducible refine below_drewN ?_ _ | (with_reducible refine Below.setCell ?_ (by simp) _))
    | true =>
    cases db with
    | false =>
    go_enter Tryz.func54, Tryz.ntmps54
    go_wp2_with (first | (go_at_call 99; (with_reducible refine (HIA.out _).mono ?_); rintro e w3 ⟨rfl, hb3⟩; (have R3 := (Res1.start 55 #[.bool false, .string ⟨#[]⟩, .int .i64 0, .int .i64 0, .bool false] w).next hb3); (have c30 : w3.cell? ⟨w.heap.size, 0, none⟩ = some (.bool false) := R3.cell 0); (have c31 : w3.cell? ⟨w.heap.size, 1, none⟩ = some (.string ⟨#[]⟩) := R3.cell 1); (have c32 : w3.cell? ⟨w.heap.size, 2, none⟩ = some (.int .i64 0) := R3.cell 2); (have c33 : w3.cell? ⟨w.heap.size, 3, none⟩ = some (.int .i64 0) := R3.cell 3); (have c34 : w3.cell? ⟨w.heap.size, 4, none⟩ = some (.bool false) := R3.cell 4); (have f3 : ∀ i, w3.frozen? ⟨w.heap.size, i, none⟩ = false := R3.frozen)) | (go_at_call 94; (with_reducible refine (HSG.out _).mono ?_); rintro e w' ⟨rfl, n, rfl⟩) | (go_at_call 94; (with_reducible refine (HSX.out _).mono ?_); rintro e w' ⟨rfl, n3, rfl⟩) | (go_at_call 95; (with_reducible refine (HCT.out _).mono ?_); rintro e w' ⟨⟨b, rfl⟩, n2, rfl⟩) | (go_at_call 96; (with_reducible refine (HDA.out _).mono ?_); rintro e w' ⟨rfl, rfl⟩) | (go_at_call 96; (with_reducible refine (HDB.out _).mono ?_); rintro e w' ⟨rfl, rfl⟩) | (go_at_call 96; (with_reducible refine (HDX.out _).mono ?_); rintro e w' ⟨rfl, rfl⟩) | (go_at_call 100; (with_reducible refine (HAT.out _).mono ?_); rintro e w5 ⟨rfl, hb5⟩; (have R5 := (R3.drewN _).next hb5); (have c50 : w5.cell? ⟨w.heap.size, 0, none⟩ = some (.bool false) := R5.cell 0); (have c51 : w5.cell? ⟨w.heap.size, 1, none⟩ = some (.string ⟨#[]⟩) := R5.cell 1); (have c52 : w5.cell? ⟨w.heap.size, 2, none⟩ = some (.int .i64 0) := R5.cell 2); (have c53 : w5.cell? ⟨w.heap.size, 3, none⟩ = some (.int .i64 0) := R5.cell 3); (have c54 : w5.cell? ⟨w.heap.size, 4, none⟩ = some (.bool false) := R5.cell 4); (have f5 : ∀ i, w5.frozen? ⟨w.heap.size, i, none⟩ = false := R5.frozen)) | (go_at_call 97; (with_reducible refine (HMD.out _).mono ?_); rintro e w4 ⟨rfl, hb4⟩; (have R4 := (R5).next hb4); (have c40 : w4.cell? ⟨w.heap.size, 0, none⟩ = some (.bool false) := R4.cell 0); (have c41 : w4.cell? ⟨w.heap.size, 1, none⟩ = some (.string ⟨#[]⟩) := R4.cell 1); (have c42 : w4.cell? ⟨w.heap.size, 2, none⟩ = some (.int .i64 0) := R4.cell 2); (have c43 : w4.cell? ⟨w.heap.size, 3, none⟩ = some (.int .i64 0) := R4.cell 3); (have c44 : w4.cell? ⟨w.heap.size, 4, none⟩ = some (.bool false) := R4.cell 4); (have f4 : ∀ i, w4.frozen? ⟨w.heap.size, i, none⟩ = false := R4.frozen)))
    refine bodyPost_ret (v := .tuple #[.agg #[.bool false, .string ⟨#[]⟩, .int .i64 0, .int .i64 0, .bool false], .bool false]) (by simp [results, Tryz.results54, go_sem, c30, c31, c32, c33, c34]) rfl ⟨rfl, ?_⟩
    repeat (first | exact R3.below | with_reducible refine below_drewN ?_ _ | (with_reducible refine Below.setCell ?_ (by simp) _))
    | true =>
    cases em with
    | true =>
    go_enter Tryz.func54, Tryz.ntmps54
    go_wp2_with (first | (go_at_call 99; (with_reducible refine (HIA.out _).mono ?_); rintro e w3 ⟨rfl, hb3⟩; (have R3 := (Res1.start 55 #[.bool false, .string ⟨#[]⟩, .int .i64 0, .int .i64 0, .bool false] w).next hb3); (have c30 : w3.cell? ⟨w.heap.size, 0, none⟩ = some (.bool false) := R3.cell 0); (have c31 : w3.cell? ⟨w.heap.size, 1, none⟩ = some (.string ⟨#[]⟩) := R3.cell 1); (have c32 : w3.cell? ⟨w.heap.size, 2, none⟩ = some (.int .i64 0) := R3.cell 2); (have c33 : w3.cell? ⟨w.heap.size, 3, none⟩ = some (.int .i64 0) := R3.cell 3); (have c34 : w3.cell? ⟨w.heap.size, 4, none⟩ = some (.bool false) := R3.cell 4); (have f3 : ∀ i, w3.frozen? ⟨w.heap.size, i, none⟩ = false := R3.frozen)) | (go_at_call 94; (with_reducible refine (HSG.out _).mono ?_); rintro e w' ⟨rfl, n, rfl⟩) | (go_at_call 94; (with_reducible refine (HSX.out _).mono ?_); rintro e w' ⟨rfl, n3, rfl⟩) | (go_at_call 95; (with_reducible refine (HCT.out _).mono ?_); rintro e w' ⟨⟨b, rfl⟩, n2, rfl⟩) | (go_at_call 96; (with_reducible refine (HDA.out _).mono ?_); rintro e w' ⟨rfl, rfl⟩) | (go_at_call 96; (with_reducible refine (HDB.out _).mono ?_); rintro e w' ⟨rfl, rfl⟩) | (go_at_call 96; (with_reducible refine (HDX.out _).mono ?_); rintro e w' ⟨rfl, rfl⟩) | (go_at_call 100; (with_reducible refine (HAT.out _).mono ?_); rintro e w5 ⟨rfl, hb5⟩; (have R5 := (R3.drewN _).next hb5); (have c50 : w5.cell? ⟨w.heap.size, 0, none⟩ = some (.bool false) := R5.cell 0); (have c51 : w5.cell? ⟨w.heap.size, 1, none⟩ = some (.string ⟨#[]⟩) := R5.cell 1); (have c52 : w5.cell? ⟨w.heap.size, 2, none⟩ = some (.int .i64 0) := R5.cell 2); (have c53 : w5.cell? ⟨w.heap.size, 3, none⟩ = some (.int .i64 0) := R5.cell 3); (have c54 : w5.cell? ⟨w.heap.size, 4, none⟩ = some (.bool false) := R5.cell 4); (have f5 : ∀ i, w5.frozen? ⟨w.heap.size, i, none⟩ = false := R5.frozen)) | (go_at_call 97; (with_reducible refine (HMD.out _).mono ?_); rintro e w4 ⟨rfl, hb4⟩; (have R4 := (R5).next hb4); (have c40 : w4.cell? ⟨w.heap.size, 0, none⟩ = some (.bool false) := R4.cell 0); (have c41 : w4.cell? ⟨w.heap.size, 1, none⟩ = some (.string ⟨#[]⟩) := R4.cell 1); (have c42 : w4.cell? ⟨w.heap.size, 2, none⟩ = some (.int .i64 0) := R4.cell 2); (have c43 : w4.cell? ⟨w.heap.size, 3, none⟩ = some (.int .i64 0) := R4.cell 3); (have c44 : w4.cell? ⟨w.heap.size, 4, none⟩ = some (.bool false) := R4.cell 4); (have f4 : ∀ i, w4.frozen? ⟨w.heap.size, i, none⟩ = false := R4.frozen)))
    refine bodyPost_ret (v := .tuple #[.agg #[.bool false, .string ⟨#[]⟩, .int .i64 0, .int .i64 0, .bool false], .bool false]) (by simp [results, Tryz.results54, go_sem, c30, c31, c32, c33, c34]) rfl ⟨rfl, ?_⟩
    repeat (first | exact R3.below | with_reducible refine below_drewN ?_ _ | (with_reducible refine Below.setCell ?_ (by simp) _))
    | false =>
    cases ex with
    | true =>
    go_enter Tryz.func54, Tryz.ntmps54
    go_wp2_with (first | (go_at_call 99; (with_reducible refine (HIA.out _).mono ?_); rintro e w3 ⟨rfl, hb3⟩; (have R3 := (Res1.start 55 #[.bool false, .string ⟨#[]⟩, .int .i64 0, .int .i64 0, .bool false] w).next hb3); (have c30 : w3.cell? ⟨w.heap.size, 0, none⟩ = some (.bool false) := R3.cell 0); (have c31 : w3.cell? ⟨w.heap.size, 1, none⟩ = some (.string ⟨#[]⟩) := R3.cell 1); (have c32 : w3.cell? ⟨w.heap.size, 2, none⟩ = some (.int .i64 0) := R3.cell 2); (have c33 : w3.cell? ⟨w.heap.size, 3, none⟩ = some (.int .i64 0) := R3.cell 3); (have c34 : w3.cell? ⟨w.heap.size, 4, none⟩ = some (.bool false) := R3.cell 4); (have f3 : ∀ i, w3.frozen? ⟨w.heap.size, i, none⟩ = false := R3.frozen)) | (go_at_call 94; (with_reducible refine (HSG.out _).mono ?_); rintro e w' ⟨rfl, n, rfl⟩) | (go_at_call 94; (with_reducible refine (HSX.out _).mono ?_); rintro e w' ⟨rfl, n3, rfl⟩) | (go_at_call 95; (with_reducible refine (HCT.out _).mono ?_); rintro e w' ⟨⟨b, rfl⟩, n2, rfl⟩) | (go_at_call 96; (with_reducible refine (HDA.out _).mono ?_); rintro e w' ⟨rfl, rfl⟩) | (go_at_call 96; (with_reducible refine (HDB.out _).mono ?_); rintro e w' ⟨rfl, rfl⟩) | (go_at_call 96; (with_reducible refine (HDX.out _).mono ?_); rintro e w' ⟨rfl, rfl⟩) | (go_at_call 100; (with_reducible refine (HAT.out _).mono ?_); rintro e w5 ⟨rfl, hb5⟩; (have R5 := (R3.drewN _).next hb5); (have c50 : w5.cell? ⟨w.heap.size, 0, none⟩ = some (.bool false) := R5.cell 0); (have c51 : w5.cell? ⟨w.heap.size, 1, none⟩ = some (.string ⟨#[]⟩) := R5.cell 1); (have c52 : w5.cell? ⟨w.heap.size, 2, none⟩ = some (.int .i64 0) := R5.cell 2); (have c53 : w5.cell? ⟨w.heap.size, 3, none⟩ = some (.int .i64 0) := R5.cell 3); (have c54 : w5.cell? ⟨w.heap.size, 4, none⟩ = some (.bool false) := R5.cell 4); (have f5 : ∀ i, w5.frozen? ⟨w.heap.size, i, none⟩ = false := R5.frozen)) | (go_at_call 97; (with_reducible refine (HMD.out _).mono ?_); rintro e w4 ⟨rfl, hb4⟩; (have R4 := (R5).next hb4); (have c40 : w4.cell? ⟨w.heap.size, 0, none⟩ = some (.bool false) := R4.cell 0); (have c41 : w4.cell? ⟨w.heap.size, 1, none⟩ = some (.string ⟨#[]⟩) := R4.cell 1); (have c42 : w4.cell? ⟨w.heap.size, 2, none⟩ = some (.int .i64 0) := R4.cell 2); (have c43 : w4.cell? ⟨w.heap.size, 3, none⟩ = some (.int .i64 0) := R4.cell 3); (have c44 : w4.cell? ⟨w.heap.size, 4, none⟩ = some (.bool false) := R4.cell 4); (have f4 : ∀ i, w4.frozen? ⟨w.heap.size, i, none⟩ = false := R4.frozen)))
    refine bodyPost_ret (v := .tuple #[.agg #[.bool false, .string ⟨#[]⟩, .int .i64 0, .int .i64 0, .bool false], .bool false]) (by simp [results, Tryz.results54, go_sem, c30, c31, c32, c33, c34]) rfl ⟨rfl, ?_⟩
    repeat (first | exact R3.below | with_reducible refine below_drewN ?_ _ | (with_reducible refine Below.setCell ?_ (by simp) _))
    | false =>
    by_cases h9 : Y.data.toList.length ≤ 9
    · rw [decide_eq_true h9]
      have h9' : Y.size ≤ 9 := by have := HYL.out; omega
      cases dx with
      | false =>
        clear h9
        go_enter Tryz.func54, Tryz.ntmps54
        go_wp2_with (first | (go_at_call 99; (with_reducible refine (HIA.out _).mono ?_); rintro e w3 ⟨rfl, hb3⟩; (have R3 := (Res1.start 55 #[.bool false, .string ⟨#[]⟩, .int .i64 0, .int .i64 0, .bool false] w).next hb3); (have c30 : w3.cell? ⟨w.heap.size, 0, none⟩ = some (.bool false) := R3.cell 0); (have c31 : w3.cell? ⟨w.heap.size, 1, none⟩ = some (.string ⟨#[]⟩) := R3.cell 1); (have c32 : w3.cell? ⟨w.heap.size, 2, none⟩ = some (.int .i64 0) := R3.cell 2); (have c33 : w3.cell? ⟨w.heap.size, 3, none⟩ = some (.int .i64 0) := R3.cell 3); (have c34 : w3.cell? ⟨w.heap.size, 4, none⟩ = some (.bool false) := R3.cell 4); (have f3 : ∀ i, w3.frozen? ⟨w.heap.size, i, none⟩ = false := R3.frozen)) | (go_at_call 94; (with_reducible refine (HSG.out _).mono ?_); rintro e w' ⟨rfl, n, rfl⟩) | (go_at_call 94; (with_reducible refine (HSX.out _).mono ?_); rintro e w' ⟨rfl, n3, rfl⟩) | (go_at_call 95; (with_reducible refine (HCT.out _).mono ?_); rintro e w' ⟨⟨b, rfl⟩, n2, rfl⟩) | (go_at_call 96; (with_reducible refine (HDA.out _).mono ?_); rintro e w' ⟨rfl, rfl⟩) | (go_at_call 96; (with_reducible refine (HDB.out _).mono ?_); rintro e w' ⟨rfl, rfl⟩) | (go_at_call 96; (with_reducible refine (HDX.out _).mono ?_); rintro e w' ⟨rfl, rfl⟩) | (go_at_call 100; (with_reducible refine (HAT.out _).mono ?_); rintro e w5 ⟨rfl, hb5⟩; (have R5 := (R3.drewN _).next hb5); (have c50 : w5.cell? ⟨w.heap.size, 0, none⟩ = some (.bool false) := R5.cell 0); (have c51 : w5.cell? ⟨w.heap.size, 1, none⟩ = some (.string ⟨#[]⟩) := R5.cell 1); (have c52 : w5.cell? ⟨w.heap.size, 2, none⟩ = some (.int .i64 0) := R5.cell 2); (have c53 : w5.cell? ⟨w.heap.size, 3, none⟩ = some (.int .i64 0) := R5.cell 3); (have c54 : w5.cell? ⟨w.heap.size, 4, none⟩ = some (.bool false) := R5.cell 4); (have f5 : ∀ i, w5.frozen? ⟨w.heap.size, i, none⟩ = false := R5.frozen)) | (go_at_call 97; (with_reducible refine (HMD.out _).mono ?_); rintro e w4 ⟨rfl, hb4⟩; (have R4 := (R5).next hb4); (have c40 : w4.cell? ⟨w.heap.size, 0, none⟩ = some (.bool false) := R4.cell 0); (have c41 : w4.cell? ⟨w.heap.size, 1, none⟩ = some (.string ⟨#[]⟩) := R4.cell 1); (have c42 : w4.cell? ⟨w.heap.size, 2, none⟩ = some (.int .i64 0) := R4.cell 2); (have c43 : w4.cell? ⟨w.heap.size, 3, none⟩ = some (.int .i64 0) := R4.cell 3); (have c44 : w4.cell? ⟨w.heap.size, 4, none⟩ = some (.bool false) := R4.cell 4); (have f4 : ∀ i, w4.frozen? ⟨w.heap.size, i, none⟩ = false := R4.frozen)))
        refine bodyPost_ret (v := .tuple #[.agg #[.bool false, .string ⟨#[]⟩, .int .i64 0, .int .i64 0, .bool false], .bool false]) (by simp [results, Tryz.results54, go_sem, c30, c31, c32, c33, c34]) rfl ⟨rfl, ?_⟩
        repeat (first | exact R3.below | with_reducible refine below_drewN ?_ _ | (with_reducible refine Below.setCell ?_ (by simp) _))
      | true =>
        have hat := fun w => atoi_calls Y w HDX'.out.symm (by intro e; have := HEX'.out; rw [e] at this; cases this) h9
        have hnl := numN_lt _ HDX'.out.symm h9
        obtain ⟨N, hN⟩ : ∃ N, N = numN Y.data.toList := ⟨_, rfl⟩
        rw [← hN] at hat hnl ⊢
        have HAT := Lib.hid hat
        clear hat hN h9
        cases lx with
        | false =>
          have hmd := fun w => made_calls bl A B (N : Int) w (by omega) (by omega) (by omega)
          simp only [Bool.and_self, Bool.not_false, if_true, Bool.false_eq_true, if_false]
          obtain ⟨⟨mb, md, mp, mi, mn⟩, hM⟩ : ∃ M, M = mkN bl A.data.toList B.data.toList (N : Int) := ⟨_, rfl⟩
          rw [← hM] at hmd ⊢
          unfold Nm.val at hmd ⊢
          dsimp only at hmd ⊢
          have HMD := Lib.hid hmd
          clear hmd hM
          go_enter Tryz.func54, Tryz.ntmps54
          go_wp2_with (first | (go_at_call 99; (with_reducible refine (HIA.out _).mono ?_); rintro e w3 ⟨rfl, hb3⟩; (have R3 := (Res1.start 55 #[.bool false, .string ⟨#[]⟩, .int .i64 0, .int .i64 0, .bool false] w).next hb3); (have c30 : w3.cell? ⟨w.heap.size, 0, none⟩ = some (.bool false) := R3.cell 0); (have c31 : w3.cell? ⟨w.heap.size, 1, none⟩ = some (.string ⟨#[]⟩) := R3.cell 1); (have c32 : w3.cell? ⟨w.heap.size, 2, none⟩ = some (.int .i64 0) := R3.cell 2); (have c33 : w3.cell? ⟨w.heap.size, 3, none⟩ = some (.int .i64 0) := R3.cell 3); (have c34 : w3.cell? ⟨w.heap.size, 4, none⟩ = some (.bool false) := R3.cell 4); (have f3 : ∀ i, w3.frozen? ⟨w.heap.size, i, none⟩ = false := R3.frozen)) | (go_at_call 94; (with_reducible refine (HSG.out _).mono ?_); rintro e w' ⟨rfl, n, rfl⟩) | (go_at_call 94; (with_reducible refine (HSX.out _).mono ?_); rintro e w' ⟨rfl, n3, rfl⟩) | (go_at_call 95; (with_reducible refine (HCT.out _).mono ?_); rintro e w' ⟨⟨b, rfl⟩, n2, rfl⟩) | (go_at_call 96; (with_reducible refine (HDA.out _).mono ?_); rintro e w' ⟨rfl, rfl⟩) | (go_at_call 96; (with_reducible refine (HDB.out _).mono ?_); rintro e w' ⟨rfl, rfl⟩) | (go_at_call 96; (with_reducible refine (HDX.out _).mono ?_); rintro e w' ⟨rfl, rfl⟩) | (go_at_call 100; (with_reducible refine (HAT.out _).mono ?_); rintro e w5 ⟨rfl, hb5⟩; (have R5 := (R3.drewN _).next hb5); (have c50 : w5.cell? ⟨w.heap.size, 0, none⟩ = some (.bool false) := R5.cell 0); (have c51 : w5.cell? ⟨w.heap.size, 1, none⟩ = some (.string ⟨#[]⟩) := R5.cell 1); (have c52 : w5.cell? ⟨w.heap.size, 2, none⟩ = some (.int .i64 0) := R5.cell 2); (have c53 : w5.cell? ⟨w.heap.size, 3, none⟩ = some (.int .i64 0) := R5.cell 3); (have c54 : w5.cell? ⟨w.heap.size, 4, none⟩ = some (.bool false) := R5.cell 4); (have f5 : ∀ i, w5.frozen? ⟨w.heap.size, i, none⟩ = false := R5.frozen)) | (go_at_call 97; (with_reducible refine (HMD.out _).mono ?_); rintro e w4 ⟨rfl, hb4⟩; (have R4 := (R5).next hb4); (have c40 : w4.cell? ⟨w.heap.size, 0, none⟩ = some (.bool false) := R4.cell 0); (have c41 : w4.cell? ⟨w.heap.size, 1, none⟩ = some (.string ⟨#[]⟩) := R4.cell 1); (have c42 : w4.cell? ⟨w.heap.size, 2, none⟩ = some (.int .i64 0) := R4.cell 2); (have c43 : w4.cell? ⟨w.heap.size, 3, none⟩ = some (.int .i64 0) := R4.cell 3); (have c44 : w4.cell? ⟨w.heap.size, 4, none⟩ = some (.bool false) := R4.cell 4); (have f4 : ∀ i, w4.frozen? ⟨w.heap.size, i, none⟩ = false := R4.frozen)))
          refine bodyPost_ret (v := .tuple #[.agg #[.bool mb, .string ⟨md.toArray⟩, .int .i64 mp, .int .i64 mi, .bool mn], .bool true]) (by simp [results, Tryz.results54, go_sem, c40, c41, c42, c43, c44]) rfl ⟨rfl, ?_⟩
          repeat (first | exact R4.below | with_reducible refine below_drewN ?_ _ | (with_reducible refine Below.setCell ?_ (by simp) _))
        | true =>
          have hmd := fun w => made_calls bl A B (-(N : Int)) w (by omega) (by omega) (by omega)
          simp only [Bool.and_self, Bool.not_false, if_true]
          obtain ⟨⟨mb, md, mp, mi, mn⟩, hM⟩ : ∃ M, M = mkN bl A.data.toList B.data.toList (-(N : Int)) := ⟨_, rfl⟩
          rw [← hM] at hmd ⊢
          unfold Nm.val at hmd ⊢
          dsimp only at hmd ⊢
          have HMD := Lib.hid hmd
          clear hmd hM
          go_enter Tryz.func54, Tryz.ntmps54
          go_wp2_with (first | (go_at_call 99; (with_reducible refine (HIA.out _).mono ?_); rintro e w3 ⟨rfl, hb3⟩; (have R3 := (Res1.start 55 #[.bool false, .string ⟨#[]⟩, .int .i64 0, .int .i64 0, .bool false] w).next hb3); (have c30 : w3.cell? ⟨w.heap.size, 0, none⟩ = some (.bool false) := R3.cell 0); (have c31 : w3.cell? ⟨w.heap.size, 1, none⟩ = some (.string ⟨#[]⟩) := R3.cell 1); (have c32 : w3.cell? ⟨w.heap.size, 2, none⟩ = some (.int .i64 0) := R3.cell 2); (have c33 : w3.cell? ⟨w.heap.size, 3, none⟩ = some (.int .i64 0) := R3.cell 3); (have c34 : w3.cell? ⟨w.heap.size, 4, none⟩ = some (.bool false) := R3.cell 4); (have f3 : ∀ i, w3.frozen? ⟨w.heap.size, i, none⟩ = false := R3.frozen)) | (go_at_call 94; (with_reducible refine (HSG.out _).mono ?_); rintro e w' ⟨rfl, n, rfl⟩) | (go_at_call 94; (with_reducible refine (HSX.out _).mono ?_); rintro e w' ⟨rfl, n3, rfl⟩) | (go_at_call 95; (with_reducible refine (HCT.out _).mono ?_); rintro e w' ⟨⟨b, rfl⟩, n2, rfl⟩) | (go_at_call 96; (with_reducible refine (HDA.out _).mono ?_); rintro e w' ⟨rfl, rfl⟩) | (go_at_call 96; (with_reducible refine (HDB.out _).mono ?_); rintro e w' ⟨rfl, rfl⟩) | (go_at_call 96; (with_reducible refine (HDX.out _).mono ?_); rintro e w' ⟨rfl, rfl⟩) | (go_at_call 100; (with_reducible refine (HAT.out _).mono ?_); rintro e w5 ⟨rfl, hb5⟩; (have R5 := (R3.drewN _).next hb5); (have c50 : w5.cell? ⟨w.heap.size, 0, none⟩ = some (.bool false) := R5.cell 0); (have c51 : w5.cell? ⟨w.heap.size, 1, none⟩ = some (.string ⟨#[]⟩) := R5.cell 1); (have c52 : w5.cell? ⟨w.heap.size, 2, none⟩ = some (.int .i64 0) := R5.cell 2); (have c53 : w5.cell? ⟨w.heap.size, 3, none⟩ = some (.int .i64 0) := R5.cell 3); (have c54 : w5.cell? ⟨w.heap.size, 4, none⟩ = some (.bool false) := R5.cell 4); (have f5 : ∀ i, w5.frozen? ⟨w.heap.size, i, none⟩ = false := R5.frozen)) | (go_at_call 97; (with_reducible refine (HMD.out _).mono ?_); rintro e w4 ⟨rfl, hb4⟩; (have R4 := (R5).next hb4); (have c40 : w4.cell? ⟨w.heap.size, 0, none⟩ = some (.bool false) := R4.cell 0); (have c41 : w4.cell? ⟨w.heap.size, 1, none⟩ = some (.string ⟨#[]⟩) := R4.cell 1); (have c42 : w4.cell? ⟨w.heap.size, 2, none⟩ = some (.int .i64 0) := R4.cell 2); (have c43 : w4.cell? ⟨w.heap.size, 3, none⟩ = some (.int .i64 0) := R4.cell 3); (have c44 : w4.cell? ⟨w.heap.size, 4, none⟩ = some (.bool false) := R4.cell 4); (have f4 : ∀ i, w4.frozen? ⟨w.heap.size, i, none⟩ = false := R4.frozen)))
          refine bodyPost_ret (v := .tuple #[.agg #[.bool mb, .string ⟨md.toArray⟩, .int .i64 mp, .int .i64 mi, .bool mn], .bool true]) (by simp [results, Tryz.results54, go_sem, c40, c41, c42, c43, c44]) rfl ⟨rfl, ?_⟩
          repeat (first | exact R4.below | with_reducible refine below_drewN ?_ _ | (with_reducible refine Below.setCell ?_ (by simp) _))
    · rw [decide_eq_false h9]
      have h9' : 9 < Y.size := by have := HYL.out; omega
      simp only [Bool.and_false, Bool.false_and, Bool.and_self]
      clear h9
      go_enter Tryz.func54, Tryz.ntmps54
      go_wp2_with (first | (go_at_call 99; (with_reducible refine (HIA.out _).mono ?_); rintro e w3 ⟨rfl, hb3⟩; (have R3 := (Res1.start 55 #[.bool false, .string ⟨#[]⟩, .int .i64 0, .int .i64 0, .bool false] w).next hb3); (have c30 : w3.cell? ⟨w.heap.size, 0, none⟩ = some (.bool false) := R3.cell 0); (have c31 : w3.cell? ⟨w.heap.size, 1, none⟩ = some (.string ⟨#[]⟩) := R3.cell 1); (have c32 : w3.cell? ⟨w.heap.size, 2, none⟩ = some (.int .i64 0) := R3.cell 2); (have c33 : w3.cell? ⟨w.heap.size, 3, none⟩ = some (.int .i64 0) := R3.cell 3); (have c34 : w3.cell? ⟨w.heap.size, 4, none⟩ = some (.bool false) := R3.cell 4); (have f3 : ∀ i, w3.frozen? ⟨w.heap.size, i, none⟩ = false := R3.frozen)) | (go_at_call 94; (with_reducible refine (HSG.out _).mono ?_); rintro e w' ⟨rfl, n, rfl⟩) | (go_at_call 94; (with_reducible refine (HSX.out _).mono ?_); rintro e w' ⟨rfl, n3, rfl⟩) | (go_at_call 95; (with_reducible refine (HCT.out _).mono ?_); rintro e w' ⟨⟨b, rfl⟩, n2, rfl⟩) | (go_at_call 96; (with_reducible refine (HDA.out _).mono ?_); rintro e w' ⟨rfl, rfl⟩) | (go_at_call 96; (with_reducible refine (HDB.out _).mono ?_); rintro e w' ⟨rfl, rfl⟩) | (go_at_call 96; (with_reducible refine (HDX.out _).mono ?_); rintro e w' ⟨rfl, rfl⟩) | (go_at_call 100; (with_reducible refine (HAT.out _).mono ?_); rintro e w5 ⟨rfl, hb5⟩; (have R5 := (R3.drewN _).next hb5); (have c50 : w5.cell? ⟨w.heap.size, 0, none⟩ = some (.bool false) := R5.cell 0); (have c51 : w5.cell? ⟨w.heap.size, 1, none⟩ = some (.string ⟨#[]⟩) := R5.cell 1); (have c52 : w5.cell? ⟨w.heap.size, 2, none⟩ = some (.int .i64 0) := R5.cell 2); (have c53 : w5.cell? ⟨w.heap.size, 3, none⟩ = some (.int .i64 0) := R5.cell 3); (have c54 : w5.cell? ⟨w.heap.size, 4, none⟩ = some (.bool false) := R5.cell 4); (have f5 : ∀ i, w5.frozen? ⟨w.heap.size, i, none⟩ = false := R5.frozen)) | (go_at_call 97; (with_reducible refine (HMD.out _).mono ?_); rintro e w4 ⟨rfl, hb4⟩; (have R4 := (R5).next hb4); (have c40 : w4.cell? ⟨w.heap.size, 0, none⟩ = some (.bool false) := R4.cell 0); (have c41 : w4.cell? ⟨w.heap.size, 1, none⟩ = some (.string ⟨#[]⟩) := R4.cell 1); (have c42 : w4.cell? ⟨w.heap.size, 2, none⟩ = some (.int .i64 0) := R4.cell 2); (have c43 : w4.cell? ⟨w.heap.size, 3, none⟩ = some (.int .i64 0) := R4.cell 3); (have c44 : w4.cell? ⟨w.heap.size, 4, none⟩ = some (.bool false) := R4.cell 4); (have f4 : ∀ i, w4.frozen? ⟨w.heap.size, i, none⟩ = false := R4.frozen)))
      refine bodyPost_ret (v := .tuple #[.agg #[.bool false, .string ⟨#[]⟩, .int .i64 0, .int .i64 0, .bool false], .bool false]) (by simp [results, Tryz.results54, go_sem, c30, c31, c32, c33, c34]) rfl ⟨rfl, ?_⟩
      repeat (first | exact R3.below | with_reducible refine below_drewN ?_ _ | (with_reducible refine Below.setCell ?_ (by simp) _))
end Go.Proofs.YtlhcejbimlilaaaGreatDoor
