/- VdM VaE VaG, laid as one. -/
import Derived.Test.YtlhcejbimlilaaaGreatDoorVaC
import Derived.Test.YtlhcejbimlilaaaGreatDoorVaD
import Derived.Test.YtlhcejbimlilaaaGreatDoorVaF
import Derived.Test.YtlhcejbimlilaaaGreatDoorVaB
set_option linter.unusedVariables false
set_option linter.unusedSimpArgs false
/- The document's two, between, leap, days. -/
namespace Go.Tk
open Go Go.RowKit
def tw8 : List UInt8 → Int
  | a :: b :: _ => if dgB [a, b] = true then 10 * ((a.toNat : Int) - 48) + ((b.toNat : Int) - 48) else -1
  | _ => -1
def btw (l : List UInt8) (lo hi : Int) : Int := if tw8 l < lo ∨ hi < tw8 l then -1 else tw8 l
theorem tw8_rng (l : List UInt8) : -1 ≤ tw8 l ∧ tw8 l ≤ 99 := by
  unfold tw8
  split
  · rename_i a b t
    split
    · rename_i h
      have h1 := List.all_eq_true.1 h a (by simp)
      have h2 := List.all_eq_true.1 h b (by simp)
      simp only [Bool.and_eq_true, decide_eq_true_eq] at h1 h2
      have e1 := UInt8.le_iff_toNat_le.1 h1.1
      have e2 := UInt8.le_iff_toNat_le.1 h1.2
      have e3 := UInt8.le_iff_toNat_le.1 h2.1
      have e4 := UInt8.le_iff_toNat_le.1 h2.2
      have k1 : (48 : UInt8).toNat = 48 := rfl
      have k2 : (57 : UInt8).toNat = 57 := rfl
      omega
    · omega
  · omega
end Go.Tk
namespace Go.Proofs.YtlhcejbimlilaaaGreatDoor
open Go.RowKit Go.Tk
theorem rtwo_calls (s : ByteArray) (w : World) (hs : s.size ≤ 4000000000) : Calls Tryz.prog 158 #[.string s] w fun e w' => e = .returned (.int .i64 (tw8 s.data.toList)) ∧ Below w.heap.size w w' := by
  by_cases h2 : 1 < s.size
  · have hcs := ba_two s h2
    have h0 : 0 < s.size := by omega
    obtain ⟨a, ha⟩ : ∃ a, s[0] = a := ⟨_, rfl⟩
    obtain ⟨b, hb⟩ : ∃ b, s[1] = b := ⟨_, rfl⟩
    rw [ha, hb] at hcs
    obtain ⟨x, hx⟩ : ∃ x : Int, (((s[0]).toNat : Nat) : Int) = x := ⟨_, rfl⟩
    obtain ⟨y, hy⟩ : ∃ y : Int, (((s[1]).toNat : Nat) : Int) = y := ⟨_, rfl⟩
    have dx := fun w => rdigit_calls x w
    have dy := fun w => rdigit_calls y w
    have hT : tw8 s.data.toList = if ((decide (48 ≤ x) && decide (x ≤ 57)) && (decide (48 ≤ y) && decide (y ≤ 57))) = true then 10 * (x - 48) + (y - 48) else -1 := by
      have e : dgB [a, b] = ((decide (48 ≤ x) && decide (x ≤ 57)) && (decide (48 ≤ y) && decide (y ≤ 57))) := by
        have nx : (a.toNat : Int) = x := by rw [← ha]; exact hx
        have ny : (b.toNat : Int) = y := by rw [← hb]; exact hy
        rw [dgB_cons, dgB_cons, show dgB [] = true from rfl, Bool.and_true]
        have c1 : decide (48 ≤ a.toNat) = decide (48 ≤ x) := by rw [decide_eq_decide]; omega
        have c2 : decide (a.toNat ≤ 57) = decide (x ≤ 57) := by rw [decide_eq_decide]; omega
        have c3 : decide (48 ≤ b.toNat) = decide (48 ≤ y) := by rw [decide_eq_decide]; omega
        have c4 : decide (b.toNat ≤ 57) = decide (y ≤ 57) := by rw [decide_eq_decide]; omega
        rw [c1, c2, c3, c4]
      rw [hcs]
      show (if dgB [a, b] = true then 10 * ((a.toNat : Int) - 48) + ((b.toNat : Int) - 48) else -1) = _
      rw [e, ← ha, ← hb, hx, hy]
    rw [hT]
    by_cases cx : 48 ≤ x ∧ x ≤ 57
    · rw [decide_eq_true cx.1, decide_eq_true cx.2] at dx ⊢
      replace dx : ∀ w, Calls Tryz.prog 145 #[.int .u8 x] w fun e w' => e = .returned (.bool true) ∧ w = w' := dx
      have DX := Lib.hid dx
      by_cases cy : 48 ≤ y ∧ y ≤ 57
      · rw [decide_eq_true cy.1, decide_eq_true cy.2] at dy ⊢
        rw [if_pos (by rfl)]
        replace dy : ∀ w, Calls Tryz.prog 145 #[.int .u8 y] w fun e w' => e = .returned (.bool true) ∧ w = w' := dy
        have DY := Lib.hid dy
        obtain ⟨cx1, cx2⟩ := cx
        obtain ⟨cy1, cy2⟩ := cy
        have k1 : IntKind.u8.wrap (x - 48) = x - 48 := by rw [IntKind.wrap_u8]; omega
        have k2 : IntKind.u8.wrap (y - 48) = y - 48 := by rw [IntKind.wrap_u8]; omega
        have k3 : IntKind.i64.wrap (x - 48) = x - 48 := by rw [IntKind.wrap_i64]; omega
        have k4 : IntKind.i64.wrap (y - 48) = y - 48 := by rw [IntKind.wrap_i64]; omega
        have k5 : IntKind.i64.wrap (10 * (x - 48)) = 10 * (x - 48) := by rw [IntKind.wrap_i64]; omega
        have k6 : IntKind.i64.wrap (10 * (x - 48) + (y - 48)) = 10 * (x - 48) + (y - 48) := by rw [IntKind.wrap_i64]; omega
        clear hT hcs ha hb dx dy
        go_enter Tryz.func158, Tryz.ntmps158
        go_upto_region 3 with (go_at_call 145; (first | ((with_reducible refine (DX.out _).mono ?_); rintro e w' ⟨rfl, rfl⟩) | ((with_reducible refine (DY.out _).mono ?_); rintro e w' ⟨rfl, rfl⟩)))
        go_quiet (fail)
        go_wp2_with fail
        go_ret
        exact ⟨rfl, by repeat (first | with_reducible exact Below.refl _ _ | with_reducible refine below_drewN ?_ _)⟩
      · have cyb : (decide (48 ≤ y) && decide (y ≤ 57)) = false := by rw [← Bool.not_eq_true, Bool.and_eq_true, decide_eq_true_eq, decide_eq_true_eq]; exact cy
        rw [cyb] at dy ⊢
        have DY := Lib.hid dy
        rw [if_neg (by simp)]
        clear hT hcs ha hb dx dy cyb cx cy
        go_enter Tryz.func158, Tryz.ntmps158
        go_wp2_with (go_at_call 145; (first | ((with_reducible refine (DX.out _).mono ?_); rintro e w' ⟨rfl, rfl⟩) | ((with_reducible refine (DY.out _).mono ?_); rintro e w' ⟨rfl, rfl⟩)))
        go_ret
        exact ⟨rfl, Below.refl _ _⟩
    · have cxb : (decide (48 ≤ x) && decide (x ≤ 57)) = false := by rw [← Bool.not_eq_true, Bool.and_eq_true, decide_eq_true_eq, decide_eq_true_eq]; exact cx
      rw [cxb] at dx ⊢
      have DX := Lib.hid dx
      rw [Bool.false_and, if_neg (by simp)]
      clear hT hcs ha hb dx dy cxb cx
      go_enter Tryz.func158, Tryz.ntmps158
      go_wp2_with (go_at_call 145; (with_reducible refine (DX.out _).mono ?_); rintro e w' ⟨rfl, rfl⟩)
      go_ret
      exact ⟨rfl, Below.refl _ _⟩
  · have hT : tw8 s.data.toList = -1 := by
      have hl : s.data.toList.length = s.size := (Lib.size_eq s).symm
      cases hd : s.data.toList with
      | nil => rfl
      | cons a t =>
        cases t with
        | nil => rfl
        | cons b t => rw [hd] at hl; simp only [List.length_cons] at hl; omega
    rw [hT]
    have hz : (s.size : Int) < 2 := by omega
    clear hT h2
    go_enter Tryz.func158, Tryz.ntmps158
    go_wp2_with fail
    go_ret
    exact ⟨rfl, Below.refl _ _⟩
theorem rbetween_calls (s : ByteArray) (lo hi : Int) (w : World) (hs : s.size ≤ 4000000000) : Calls Tryz.prog 130 #[.string s, .int .i64 lo, .int .i64 hi] w fun e w' => e = .returned (.int .i64 (btw s.data.toList lo hi)) ∧ Below w.heap.size w w' := by
  have ht := fun w => rtwo_calls s w hs
  unfold btw
  obtain ⟨n, hn⟩ : ∃ n, n = tw8 s.data.toList := ⟨_, rfl⟩
  rw [← hn] at ht ⊢
  have HT := Lib.hid ht
  clear ht hn
  by_cases h1 : n < lo
  · rw [if_pos (.inl h1)]
    go_enter Tryz.func130, Tryz.ntmps130
    go_wp2_with (go_at_call 158; (with_reducible refine (HT.out _).mono ?_); rintro e w' ⟨rfl, hb1⟩)
    go_ret
    exact ⟨rfl, hb1⟩
  · by_cases h2 : hi < n
    · rw [if_pos (.inr h2)]
      have h3 : lo ≤ n := by omega
      clear h1
      go_enter Tryz.func130, Tryz.ntmps130
      go_wp2_with (go_at_call 158; (with_reducible refine (HT.out _).mono ?_); rintro e w' ⟨rfl, hb1⟩)
      go_ret
      exact ⟨rfl, hb1⟩
    · rw [if_neg (by rintro (h | h); exact h1 h; exact h2 h)]
      have h3 : lo ≤ n := by omega
      have h4 : n ≤ hi := by omega
      clear h1 h2
      go_enter Tryz.func130, Tryz.ntmps130
      go_wp2_with (go_at_call 158; (with_reducible refine (HT.out _).mono ?_); rintro e w' ⟨rfl, hb1⟩)
      go_ret
      exact ⟨rfl, hb1⟩
theorem rleap_calls (y : Int) (w : World) (h0 : -4000000000000000000 ≤ y) (h1 : y ≤ 4000000000000000000) :
    Calls Tryz.prog 159 #[.int .i64 y] w fun e w' => e = .returned (.bool (lpB y)) ∧ w = w' := by
  by_cases a4 : y % 4 = 0
  · have t4 := tmod_yes a4
    by_cases a1 : y % 100 = 0
    · have t1 := tmod_yes' a1
      by_cases a0 : y % 400 = 0
      · have t0 := tmod_yes a0
        have e : lpB y = true := by unfold lpB; simp [a4, a1, a0]
        rw [e]
        clear e a4 a1 a0
        go_enter Tryz.func159, Tryz.ntmps159
        go_wp2_with fail
        go_ret
        exact ⟨rfl, rfl⟩
      · have t0 := tmod_no a0
        have e : lpB y = false := by unfold lpB; simp [a4, a1, a0]
        rw [e]
        clear e a4 a1 a0
        go_enter Tryz.func159, Tryz.ntmps159
        go_wp2_with fail
        go_ret
        exact ⟨rfl, rfl⟩
    · have t1 := tmod_no' a1
      have e : lpB y = true := by unfold lpB; simp [a4, a1]
      rw [e]
      clear e a4 a1
      go_enter Tryz.func159, Tryz.ntmps159
      go_wp2_with fail
      go_ret
      exact ⟨rfl, rfl⟩
  · have t4 := tmod_no a4
    have e : lpB y = false := by unfold lpB; simp [a4]
    rw [e]
    clear e a4
    go_enter Tryz.func159, Tryz.ntmps159
    go_wp2_with fail
    go_ret
    exact ⟨rfl, rfl⟩
set_option maxHeartbeats 2000000 in
theorem rdays_calls (y m : Int) (w : World) (h0 : -4000000000000000000 ≤ y) (h1 : y ≤ 4000000000000000000) (m1 : 1 ≤ m) (m2 : m ≤ 12) :
    Calls Tryz.prog 131 #[.int .i64 y, .int .i64 m] w fun e w' => e = .returned (.int .i64 (mdP y m)) ∧ Below w.heap.size w w' := by
  have hl := fun w => rleap_calls y w h0 h1
  have hm : m = 1 ∨ m = 2 ∨ m = 3 ∨ m = 4 ∨ m = 5 ∨ m = 6 ∨ m = 7 ∨ m = 8 ∨ m = 9 ∨ m = 10 ∨ m = 11 ∨ m = 12 := by omega
  have hmd : mdP y m = if m = 2 then (if lpB y = true then 29 else 28) else if m = 4 ∨ m = 6 ∨ m = 9 ∨ m = 11 then 30 else 31 := rfl
  rw [hmd]
  obtain ⟨b, hb⟩ : ∃ b, b = lpB y := ⟨_, rfl⟩
  rw [← hb] at hl ⊢
  have HL := Lib.hid hl
  clear hmd hl hb m1 m2
  rcases hm with rfl | rfl | rfl | rfl | rfl | rfl | rfl | rfl | rfl | rfl | rfl | rfl
  case inr.inl =>
    cases b with
    | true =>
      go_enter Tryz.func131, Tryz.ntmps131
      go_wp2_with (go_at_call 159; (with_reducible refine (HL.out _).mono ?_); rintro e w' ⟨rfl, rfl⟩)
      go_ret
      exact ⟨rfl, (Below.refl _ _).alloc (Nat.le_refl _) _⟩
    | false =>
      go_enter Tryz.func131, Tryz.ntmps131
      go_wp2_with (go_at_call 159; (with_reducible refine (HL.out _).mono ?_); rintro e w' ⟨rfl, rfl⟩)
      go_ret
      exact ⟨rfl, (Below.refl _ _).alloc (Nat.le_refl _) _⟩
  all_goals
    clear HL
    go_enter Tryz.func131, Tryz.ntmps131
    go_wp2_with fail
    go_ret
    exact ⟨rfl, (Below.refl _ _).alloc (Nat.le_refl _) _⟩
end Go.Proofs.YtlhcejbimlilaaaGreatDoor
/- The program's double (written by gen_vab.py). -/
namespace Go.Tk
open Go Go.RowKit
theorem hdE_le (l : List UInt8) : (hdE l).length ≤ l.length := by
  unfold hdE
  have := congrArg List.length (List.takeWhile_append_dropWhile (p := fun c => !isE c) (l := l))
  rw [List.length_append] at this
  omega
theorem tlE_le (l : List UInt8) : (tlE l).length ≤ l.length := by
  unfold tlE
  have := congrArg List.length (List.takeWhile_append_dropWhile (p := fun c => !isE c) (l := l))
  rw [List.length_append] at this
  rw [List.length_drop]
  omega
end Go.Tk
namespace Go.Proofs.YtlhcejbimlilaaaGreatDoor
open Go.RowKit Go.Tk
set_option maxHeartbeats 4000000 in
set_option maxRecDepth 100000 in
theorem double_calls (s : ByteArray) (w : World) (hs : s.size ≤ 4000000000) :
    Calls Tryz.prog 54 #[.string s] w fun e w' => e = .returned (.tuple #[((dblP s.data.toList).getD nmZ).val, .bool (dblP s.data.toList).isSome]) ∧ Below w.heap.size w w' := by
  by_cases c1 : s.data.toList = [78, 97, 78]
  · rw [show dblP s.data.toList = some nmNaN by unfold dblP; rw [if_pos c1]]
    show Calls _ _ _ _ fun e w' => e = .returned (.tuple #[nmNaN.val, .bool true]) ∧ _
    unfold nmNaN Nm.val
    dsimp only
    obtain rfl : s = ⟨#[78, 97, 78]⟩ := by rw [← str_mk s, c1]
    go_enter Tryz.func54, Tryz.ntmps54
    go_wp2_with fail
    refine bodyPost_ret (v := .tuple #[.agg #[.bool false, .string ⟨#[]⟩, .int .i64 0, .int .i64 0, .bool true], .bool true]) (by simp [results, Tryz.results54, go_sem]) rfl ⟨rfl, ?_⟩
    repeat (first | with_reducible exact Below.refl _ _ | with_reducible refine below_drewN ?_ _ | (with_reducible refine Below.setCell ?_ (by simp) _) | (with_reducible refine Below.alloc ?_ (by simp) _))
  by_cases c2 : s.data.toList = [73, 78, 70]
  · rw [show dblP s.data.toList = some (nmInf 1) by unfold dblP; rw [if_neg c1, if_pos (.inl c2)]]
    show Calls _ _ _ _ fun e w' => e = .returned (.tuple #[(nmInf 1).val, .bool true]) ∧ _
    unfold nmInf Nm.val
    dsimp only
    clear c1
    obtain rfl : s = ⟨#[73, 78, 70]⟩ := by rw [← str_mk s, c2]
    go_enter Tryz.func54, Tryz.ntmps54
    go_wp2_with fail
    refine bodyPost_ret (v := .tuple #[.agg #[.bool false, .string ⟨#[]⟩, .int .i64 0, .int .i64 1, .bool false], .bool true]) (by simp [results, Tryz.results54, go_sem]) rfl ⟨rfl, ?_⟩
    repeat (first | with_reducible exact Below.refl _ _ | with_reducible refine below_drewN ?_ _ | (with_reducible refine Below.setCell ?_ (by simp) _) | (with_reducible refine Below.alloc ?_ (by simp) _))
  by_cases c3 : s.data.toList = [43, 73, 78, 70]
  · rw [show dblP s.data.toList = some (nmInf 1) by unfold dblP; rw [if_neg c1, if_pos (.inr c3)]]
    show Calls _ _ _ _ fun e w' => e = .returned (.tuple #[(nmInf 1).val, .bool true]) ∧ _
    unfold nmInf Nm.val
    dsimp only
    clear c1 c2
    obtain rfl : s = ⟨#[43, 73, 78, 70]⟩ := by rw [← str_mk s, c3]
    go_enter Tryz.func54, Tryz.ntmps54
    go_wp2_with fail
    refine bodyPost_ret (v := .tuple #[.agg #[.bool false, .string ⟨#[]⟩, .int .i64 0, .int .i64 1, .bool false], .bool true]) (by simp [results, Tryz.results54, go_sem]) rfl ⟨rfl, ?_⟩
    repeat (first | with_reducible exact Below.refl _ _ | with_reducible refine below_drewN ?_ _ | (with_reducible refine Below.setCell ?_ (by simp) _) | (with_reducible refine Below.alloc ?_ (by simp) _))
  by_cases c4 : s.data.toList = [45, 73, 78, 70]
  · rw [show dblP s.data.toList = some (nmInf (-1)) by unfold dblP; rw [if_neg c1, if_neg (by intro h; rcases h with h | h; exact c2 h; exact c3 h), if_pos c4]]
    show Calls _ _ _ _ fun e w' => e = .returned (.tuple #[(nmInf (-1)).val, .bool true]) ∧ _
    unfold nmInf Nm.val
    dsimp only
    clear c1 c2 c3
    obtain rfl : s = ⟨#[45, 73, 78, 70]⟩ := by rw [← str_mk s, c4]
    go_enter Tryz.func54, Tryz.ntmps54
    go_wp2_with fail
    refine bodyPost_ret (v := .tuple #[.agg #[.bool false, .string ⟨#[]⟩, .int .i64 0, .int .i64 (-1), .bool false], .bool true]) (by simp [results, Tryz.results54, go_sem]) rfl ⟨rfl, ?_⟩
    repeat (first | with_reducible exact Below.refl _ _ | with_reducible refine below_drewN ?_ _ | (with_reducible refine Below.setCell ?_ (by simp) _) | (with_reducible refine Below.alloc ?_ (by simp) _))
  have d1 : (s.toList == [78, 97, 78]) = false := by rw [Lib.toList_data]; exact beq_false_of_ne c1
  have d2 : (s.toList == [73, 78, 70]) = false := by rw [Lib.toList_data]; exact beq_false_of_ne c2
  have d3 : (s.toList == [43, 73, 78, 70]) = false := by rw [Lib.toList_data]; exact beq_false_of_ne c3
  have d4 : (s.toList == [45, 73, 78, 70]) = false := by rw [Lib.toList_data]; exact beq_false_of_ne c4
  have hdb : dblP s.data.toList = if s.data.toList.any isE = false then decP s.data.toList else if (okP (ctA (sgnR (hdE s.data.toList))) (ctB (sgnR (hdE s.data.toList))) && okE (tlE s.data.toList)) = true then some (mkN (sgnB (hdE s.data.toList)) (ctA (sgnR (hdE s.data.toList))) (ctB (sgnR (hdE s.data.toList))) (expZ (tlE s.data.toList))) else none := by
    unfold dblP; rw [if_neg c1, if_neg (by intro h; rcases h with h | h; exact c2 h; exact c3 h), if_neg c4]
  have hia := fun w => anyE_calls s w (by omega)
  clear c1 c2 c3 c4
  cases hE : s.data.toList.any isE with
  | false =>
    rw [hE, if_pos rfl] at hdb
    rw [hdb]
    have hdc := fun w => decimal_calls s w (by omega)
    rw [hE] at hia
    simp only [Bool.false_eq_true, if_false] at hia
    obtain ⟨⟨mb, md, mp, mi, mn⟩, hM⟩ : ∃ M, M = (decP s.data.toList).getD nmZ := ⟨_, rfl⟩
    obtain ⟨ok, hok⟩ : ∃ b, b = (decP s.data.toList).isSome := ⟨_, rfl⟩
    rw [← hM, ← hok] at hdc ⊢
    unfold Nm.val at hdc ⊢
    dsimp only at hdc ⊢
    have HIA := Lib.hid hia
    have HDC := Lib.hid hdc
    clear hdb hia hdc hE hM hok
    go_enter Tryz.func54, Tryz.ntmps54
    go_wp2_with (first | (go_at_call 99; (with_reducible refine (HIA.out _).mono ?_); rintro e w3 ⟨rfl, hb3⟩; (have R3 := (Res1.start 55 #[.bool false, .string ⟨#[]⟩, .int .i64 0, .int .i64 0, .bool false] w).next hb3); (have c30 : w3.cell? ⟨w.heap.size, 0, none⟩ = some (.bool false) := R3.cell 0); (have c31 : w3.cell? ⟨w.heap.size, 1, none⟩ = some (.string ⟨#[]⟩) := R3.cell 1); (have c32 : w3.cell? ⟨w.heap.size, 2, none⟩ = some (.int .i64 0) := R3.cell 2); (have c33 : w3.cell? ⟨w.heap.size, 3, none⟩ = some (.int .i64 0) := R3.cell 3); (have c34 : w3.cell? ⟨w.heap.size, 4, none⟩ = some (.bool false) := R3.cell 4); (have f3 : ∀ i, w3.frozen? ⟨w.heap.size, i, none⟩ = false := R3.frozen)) | (go_at_call 51; (with_reducible refine (HDC.out _).mono ?_); rintro e w4 ⟨rfl, hb4⟩; (have R4 := (R3).next hb4); (have c40 : w4.cell? ⟨w.heap.size, 0, none⟩ = some (.bool false) := R4.cell 0); (have c41 : w4.cell? ⟨w.heap.size, 1, none⟩ = some (.string ⟨#[]⟩) := R4.cell 1); (have c42 : w4.cell? ⟨w.heap.size, 2, none⟩ = some (.int .i64 0) := R4.cell 2); (have c43 : w4.cell? ⟨w.heap.size, 3, none⟩ = some (.int .i64 0) := R4.cell 3); (have c44 : w4.cell? ⟨w.heap.size, 4, none⟩ = some (.bool false) := R4.cell 4); (have f4 : ∀ i, w4.frozen? ⟨w.heap.size, i, none⟩ = false := R4.frozen)))
    refine bodyPost_ret (v := .tuple #[.agg #[.bool mb, .string ⟨md.toArray⟩, .int .i64 mp, .int .i64 mi, .bool mn], .bool ok]) (by simp [results, Tryz.results54, go_sem, c40, c41, c42, c43, c44]) rfl ⟨rfl, ?_⟩
    repeat (first | exact R4.below | with_reducible refine below_drewN ?_ _ | (with_reducible refine Below.setCell ?_ (by simp) _))
  | true =>
    rw [hE, if_neg (by simp)] at hdb
    rw [hE, if_pos rfl] at hia
    have hia : ∀ w, Calls Tryz.prog 99 #[.string s, .string ⟨#[101, 69]⟩] w fun e w' => e = .returned (.int .i64 ((hdE s.data.toList).length : Nat)) ∧ Below w.heap.size w w' := fun w => by have := hia w; simpa using this
    obtain ⟨k1, k2, k3⟩ := hdE_lt hE
    obtain ⟨m, hm⟩ : ∃ m, m = (hdE s.data.toList).length := ⟨_, rfl⟩
    rw [← hm] at hia k1 k2 k3
    rw [← Lib.size_eq] at k1
    have x1 := ex_take s m
    have x2 := ex_drop s (m + 1)
    rw [← k2] at x1
    rw [← k3] at x2
    obtain ⟨H, hH⟩ : ∃ H, s.extract 0 m = H := ⟨_, rfl⟩
    obtain ⟨X, hX⟩ : ∃ X, s.extract (m + 1) s.size = X := ⟨_, rfl⟩
    rw [hH] at x1
    rw [hX] at x2
    have hHd : H.data.toList = hdE s.data.toList := by rw [x1]
    have hXd : X.data.toList = tlE s.data.toList := by rw [x2]
    have hHs : H.size ≤ 4000000000 := by rw [Lib.size_eq, hHd]; have := hdE_le s.data.toList; rw [← Lib.size_eq] at this; omega
    have hXs : X.size ≤ 4000000000 := by rw [Lib.size_eq, hXd]; have := tlE_le s.data.toList; rw [← Lib.size_eq] at this; omega
    rw [← hHd, ← hXd] at hdb
    have hsg := fun w => sign_calls H w (by omega)
    have hsx := fun w => sign_calls X w (by omega)
    obtain ⟨R, hR⟩ : ∃ R : ByteArray, R = ⟨(sgnR H.data.toList).toArray⟩ := ⟨_, rfl⟩
    have hRd : R.data.toList = sgnR H.data.toList := by rw [hR]
    have hRs : R.size ≤ H.size := by rw [Lib.size_eq, hRd, Lib.size_eq]; exact sgnR_le _
    obtain ⟨Y, hY⟩ : ∃ Y : ByteArray, Y = ⟨(sgnR X.data.toList).toArray⟩ := ⟨_, rfl⟩
    have hYd : Y.data.toList = sgnR X.data.toList := by rw [hY]
    have hYs : Y.size ≤ X.size := by rw [Lib.size_eq, hYd, Lib.size_eq]; exact sgnR_le _
    rw [← hR] at hsg
    rw [← hY] at hsx
    have hct := fun w => cut_calls R w (by omega)
    obtain ⟨A, hA⟩ : ∃ A : ByteArray, A = ⟨(ctA R.data.toList).toArray⟩ := ⟨_, rfl⟩
    obtain ⟨B, hB⟩ : ∃ B : ByteArray, B = ⟨(ctB R.data.toList).toArray⟩ := ⟨_, rfl⟩
    have hAd : A.data.toList = ctA R.data.toList := by rw [hA]
    have hBd : B.data.toList = ctB R.data.toList := by rw [hB]
    have hAB : A.size + B.size ≤ R.size := by rw [Lib.size_eq A, Lib.size_eq B, Lib.size_eq R, hAd, hBd]; exact ct_le _
    rw [← hA, ← hB] at hct
    rw [← hRd, ← hAd, ← hBd] at hdb
    have hok : (okP A.data.toList B.data.toList && okE X.data.toList) = (dgB A.data.toList && dgB B.data.toList && !(A.data.toList ++ B.data.toList).isEmpty && !(Y.data.toList).isEmpty && decide (Y.data.toList.length ≤ 9) && dgB Y.data.toList) := by
      unfold okP okE; rw [← hYd]; simp only [Bool.and_assoc]
    have hex : expZ X.data.toList = if sgnB X.data.toList = true then -(numN Y.data.toList : Int) else numN Y.data.toList := by unfold expZ; rw [← hYd]
    rw [hok, hex] at hdb
    obtain ⟨bl, hbl⟩ : ∃ bl, bl = sgnB H.data.toList := ⟨_, rfl⟩
    obtain ⟨lx, hlx⟩ : ∃ lx, lx = sgnB X.data.toList := ⟨_, rfl⟩
    rw [← hbl] at hsg hdb
    rw [← hlx] at hsx hdb
    have hda := fun w => allDigits_calls A w (by omega)
    have hdbb := fun w => allDigits_calls B w (by omega)
    have hdx := fun w => allDigits_calls Y w (by omega)
    have hcat := cat_ba A B
    have he1 : ((A ++ B).toList == []) = (A.data.toList ++ B.data.toList).isEmpty := by rw [Lib.toList_data, hcat]; cases (A.data.toList ++ B.data.toList) <;> rfl
    have he2 : (Y.toList == []) = Y.data.toList.isEmpty := by rw [Lib.toList_data]; cases Y.data.toList <;> rfl
    have hyl : Y.data.toList.length = Y.size := (Lib.size_eq Y).symm
    obtain ⟨h1, h2⟩ := nm_opt _ _ _ hdb
    rw [h1, h2]
    have hAz : A.size ≤ 4000000000 := by omega
    have hBz : B.size ≤ 4000000000 := by omega
    have hYz : Y.size ≤ 4000000000 := by omega
    have hm9 : ((m : Int) + 1).toNat = m + 1 := by omega
    obtain ⟨da, hda'⟩ : ∃ d, d = dgB A.data.toList := ⟨_, rfl⟩
    obtain ⟨db, hdb'⟩ : ∃ d, d = dgB B.data.toList := ⟨_, rfl⟩
    obtain ⟨dx, hdx'⟩ : ∃ d, d = dgB Y.data.toList := ⟨_, rfl⟩
    obtain ⟨em, hem⟩ : ∃ d, d = (A.data.toList ++ B.data.toList).isEmpty := ⟨_, rfl⟩
    obtain ⟨ex, hexx⟩ : ∃ d, d = Y.data.toList.isEmpty := ⟨_, rfl⟩
    rw [← hda'] at hda ⊢
    rw [← hdb'] at hdbb ⊢
    rw [← hdx'] at hdx ⊢
    rw [← hem] at he1 ⊢
    rw [← hexx] at he2 ⊢
    have HIA := Lib.hid hia
    have HSG := Lib.hid hsg
    have HSX := Lib.hid hsx
    have HCT := Lib.hid hct
    have HDA := Lib.hid hda
    have HDB := Lib.hid hdbb
    have HDX := Lib.hid hdx
    have HDX' := Lib.hid hdx'
    have HEX' := Lib.hid hexx
    have HYL := Lib.hid hyl
    clear hia hsg hsx hR hRd hY hYd hct hA hB hAd hBd hdb hbl hlx hda hdbb hdx hcat h1 h2 hok hex hda' hdb' hdx' hem hexx hE hm k2 k3 x1 x2 hHd hXd hyl
    cases da with
    | false =>
    go_enter Tryz.func54, Tryz.ntmps54
    go_wp2_with (first | (go_at_call 99; (with_reducible refine (HIA.out _).mono ?_); rintro e w3 ⟨rfl, hb3⟩; (have R3 := (Res1.start 55 #[.bool false, .string ⟨#[]⟩, .int .i64 0, .int .i64 0, .bool false] w).next hb3); (have c30 : w3.cell? ⟨w.heap.size, 0, none⟩ = some (.bool false) := R3.cell 0); (have c31 : w3.cell? ⟨w.heap.size, 1, none⟩ = some (.string ⟨#[]⟩) := R3.cell 1); (have c32 : w3.cell? ⟨w.heap.size, 2, none⟩ = some (.int .i64 0) := R3.cell 2); (have c33 : w3.cell? ⟨w.heap.size, 3, none⟩ = some (.int .i64 0) := R3.cell 3); (have c34 : w3.cell? ⟨w.heap.size, 4, none⟩ = some (.bool false) := R3.cell 4); (have f3 : ∀ i, w3.frozen? ⟨w.heap.size, i, none⟩ = false := R3.frozen)) | (go_at_call 94; (with_reducible refine (HSG.out _).mono ?_); rintro e w' ⟨rfl, n, rfl⟩) | (go_at_call 94; (with_reducible refine (HSX.out _).mono ?_); rintro e w' ⟨rfl, n3, rfl⟩) | (go_at_call 95; (with_reducible refine (HCT.out _).mono ?_); rintro e w' ⟨⟨b, rfl⟩, n2, rfl⟩) | (go_at_call 96; (with_reducible refine (HDA.out _).mono ?_); rintro e w' ⟨rfl, rfl⟩) | (go_at_call 96; (with_reducible refine (HDB.out _).mono ?_); rintro e w' ⟨rfl, rfl⟩) | (go_at_call 96; (with_reducible refine (HDX.out _).mono ?_); rintro e w' ⟨rfl, rfl⟩) | (go_at_call 100; (with_reducible refine (HAT.out _).mono ?_); rintro e w5 ⟨rfl, hb5⟩; (have R5 := (R3.drewN _).next hb5); (have c50 : w5.cell? ⟨w.heap.size, 0, none⟩ = some (.bool false) := R5.cell 0); (have c51 : w5.cell? ⟨w.heap.size, 1, none⟩ = some (.string ⟨#[]⟩) := R5.cell 1); (have c52 : w5.cell? ⟨w.heap.size, 2, none⟩ = some (.int .i64 0) := R5.cell 2); (have c53 : w5.cell? ⟨w.heap.size, 3, none⟩ = some (.int .i64 0) := R5.cell 3); (have c54 : w5.cell? ⟨w.heap.size, 4, none⟩ = some (.bool false) := R5.cell 4); (have f5 : ∀ i, w5.frozen? ⟨w.heap.size, i, none⟩ = false := R5.frozen)) | (go_at_call 97; (with_reducible refine (HMD.out _).mono ?_); rintro e w4 ⟨rfl, hb4⟩; (have R4 := (R5).next hb4); (have c40 : w4.cell? ⟨w.heap.size, 0, none⟩ = some (.bool false) := R4.cell 0); (have c41 : w4.cell? ⟨w.heap.size, 1, none⟩ = some (.string ⟨#[]⟩) := R4.cell 1); (have c42 : w4.cell? ⟨w.heap.size, 2, none⟩ = some (.int .i64 0) := R4.cell 2); (have c43 : w4.cell? ⟨w.heap.size, 3, none⟩ = some (.int .i64 0) := R4.cell 3); (have c44 : w4.cell? ⟨w.heap.size, 4, none⟩ = some (.bool false) := R4.cell 4); (have f4 : ∀ i, w4.frozen? ⟨w.heap.size, i, none⟩ = false := R4.frozen)))
    refine bodyPost_ret (v := .tuple #[.agg #[.bool false, .string ⟨#[]⟩, .int .i64 0, .int .i64 0, .bool false], .bool false]) (by simp [results, Tryz.results54, go_sem, c30, c31, c32, c33, c34]) rfl ⟨rfl, ?_⟩
    repeat (first | exact R3.below | with_reducible refine below_drewN ?_ _ | (with_reducible refine Below.setCell ?_ (by simp) _))
    | true =>
    cases db with
    | false =>
    go_enter Tryz.func54, Tryz.ntmps54
    go_wp2_with (first | (go_at_call 99; (with_reducible refine (HIA.out _).mono ?_); rintro e w3 ⟨rfl, hb3⟩; (have R3 := (Res1.start 55 #[.bool false, .string ⟨#[]⟩, .int .i64 0, .int .i64 0, .bool false] w).next hb3); (have c30 : w3.cell? ⟨w.heap.size, 0, none⟩ = some (.bool false) := R3.cell 0); (have c31 : w3.cell? ⟨w.heap.size, 1, none⟩ = some (.string ⟨#[]⟩) := R3.cell 1); (have c32 : w3.cell? ⟨w.heap.size, 2, none⟩ = some (.int .i64 0) := R3.cell 2); (have c33 : w3.cell? ⟨w.heap.size, 3, none⟩ = some (.int .i64 0) := R3.cell 3); (have c34 : w3.cell? ⟨w.heap.size, 4, none⟩ = some (.bool false) := R3.cell 4); (have f3 : ∀ i, w3.frozen? ⟨w.heap.size, i, none⟩ = false := R3.frozen)) | (go_at_call 94; (with_reducible refine (HSG.out _).mono ?_); rintro e w' ⟨rfl, n, rfl⟩) | (go_at_call 94; (with_reducible refine (HSX.out _).mono ?_); rintro e w' ⟨rfl, n3, rfl⟩) | (go_at_call 95; (with_reducible refine (HCT.out _).mono ?_); rintro e w' ⟨⟨b, rfl⟩, n2, rfl⟩) | (go_at_call 96; (with_reducible refine (HDA.out _).mono ?_); rintro e w' ⟨rfl, rfl⟩) | (go_at_call 96; (with_reducible refine (HDB.out _).mono ?_); rintro e w' ⟨rfl, rfl⟩) | (go_at_call 96; (with_reducible refine (HDX.out _).mono ?_); rintro e w' ⟨rfl, rfl⟩) | (go_at_call 100; (with_reducible refine (HAT.out _).mono ?_); rintro e w5 ⟨rfl, hb5⟩; (have R5 := (R3.drewN _).next hb5); (have c50 : w5.cell? ⟨w.heap.size, 0, none⟩ = some (.bool false) := R5.cell 0); (have c51 : w5.cell? ⟨w.heap.size, 1, none⟩ = some (.string ⟨#[]⟩) := R5.cell 1); (have c52 : w5.cell? ⟨w.heap.size, 2, none⟩ = some (.int .i64 0) := R5.cell 2); (have c53 : w5.cell? ⟨w.heap.size, 3, none⟩ = some (.int .i64 0) := R5.cell 3); (have c54 : w5.cell? ⟨w.heap.size, 4, none⟩ = some (.bool false) := R5.cell 4); (have f5 : ∀ i, w5.frozen? ⟨w.heap.size, i, none⟩ = false := R5.frozen)) | (go_at_call 97; (with_reducible refine (HMD.out _).mono ?_); rintro e w4 ⟨rfl, hb4⟩; (have R4 := (R5).next hb4); (have c40 : w4.cell? ⟨w.heap.size, 0, none⟩ = some (.bool false) := R4.cell 0); (have c41 : w4.cell? ⟨w.heap.size, 1, none⟩ = some (.string ⟨#[]⟩) := R4.cell 1); (have c42 : w4.cell? ⟨w.heap.size, 2, none⟩ = some (.int .i64 0) := R4.cell 2); (have c43 : w4.cell? ⟨w.heap.size, 3, none⟩ = some (.int .i64 0) := R4.cell 3); (have c44 : w4.cell? ⟨w.heap.size, 4, none⟩ = some (.bool false) := R4.cell 4); (have f4 : ∀ i, w4.frozen? ⟨w.heap.size, i, none⟩ = false := R4.frozen)))
    refine bodyPost_ret (v := .tuple #[.agg #[.bool false, .string ⟨#[]⟩, .int .i64 0, .int .i64 0, .bool false], .bool false]) (by simp [results, Tryz.results54, go_sem, c30, c31, c32, c33, c34]) rfl ⟨rfl, ?_⟩
    repeat (first | exact R3.below | with_reducible refine below_drewN ?_ _ | (with_reducible refine Below.setCell ?_ (by simp) _))
    | true =>
    cases em with
    | true =>
    go_enter Tryz.func54, Tryz.ntmps54
    go_wp2_with (first | (go_at_call 99; (with_reducible refine (HIA.out _).mono ?_); rintro e w3 ⟨rfl, hb3⟩; (have R3 := (Res1.start 55 #[.bool false, .string ⟨#[]⟩, .int .i64 0, .int .i64 0, .bool false] w).next hb3); (have c30 : w3.cell? ⟨w.heap.size, 0, none⟩ = some (.bool false) := R3.cell 0); (have c31 : w3.cell? ⟨w.heap.size, 1, none⟩ = some (.string ⟨#[]⟩) := R3.cell 1); (have c32 : w3.cell? ⟨w.heap.size, 2, none⟩ = some (.int .i64 0) := R3.cell 2); (have c33 : w3.cell? ⟨w.heap.size, 3, none⟩ = some (.int .i64 0) := R3.cell 3); (have c34 : w3.cell? ⟨w.heap.size, 4, none⟩ = some (.bool false) := R3.cell 4); (have f3 : ∀ i, w3.frozen? ⟨w.heap.size, i, none⟩ = false := R3.frozen)) | (go_at_call 94; (with_reducible refine (HSG.out _).mono ?_); rintro e w' ⟨rfl, n, rfl⟩) | (go_at_call 94; (with_reducible refine (HSX.out _).mono ?_); rintro e w' ⟨rfl, n3, rfl⟩) | (go_at_call 95; (with_reducible refine (HCT.out _).mono ?_); rintro e w' ⟨⟨b, rfl⟩, n2, rfl⟩) | (go_at_call 96; (with_reducible refine (HDA.out _).mono ?_); rintro e w' ⟨rfl, rfl⟩) | (go_at_call 96; (with_reducible refine (HDB.out _).mono ?_); rintro e w' ⟨rfl, rfl⟩) | (go_at_call 96; (with_reducible refine (HDX.out _).mono ?_); rintro e w' ⟨rfl, rfl⟩) | (go_at_call 100; (with_reducible refine (HAT.out _).mono ?_); rintro e w5 ⟨rfl, hb5⟩; (have R5 := (R3.drewN _).next hb5); (have c50 : w5.cell? ⟨w.heap.size, 0, none⟩ = some (.bool false) := R5.cell 0); (have c51 : w5.cell? ⟨w.heap.size, 1, none⟩ = some (.string ⟨#[]⟩) := R5.cell 1); (have c52 : w5.cell? ⟨w.heap.size, 2, none⟩ = some (.int .i64 0) := R5.cell 2); (have c53 : w5.cell? ⟨w.heap.size, 3, none⟩ = some (.int .i64 0) := R5.cell 3); (have c54 : w5.cell? ⟨w.heap.size, 4, none⟩ = some (.bool false) := R5.cell 4); (have f5 : ∀ i, w5.frozen? ⟨w.heap.size, i, none⟩ = false := R5.frozen)) | (go_at_call 97; (with_reducible refine (HMD.out _).mono ?_); rintro e w4 ⟨rfl, hb4⟩; (have R4 := (R5).next hb4); (have c40 : w4.cell? ⟨w.heap.size, 0, none⟩ = some (.bool false) := R4.cell 0); (have c41 : w4.cell? ⟨w.heap.size, 1, none⟩ = some (.string ⟨#[]⟩) := R4.cell 1); (have c42 : w4.cell? ⟨w.heap.size, 2, none⟩ = some (.int .i64 0) := R4.cell 2); (have c43 : w4.cell? ⟨w.heap.size, 3, none⟩ = some (.int .i64 0) := R4.cell 3); (have c44 : w4.cell? ⟨w.heap.size, 4, none⟩ = some (.bool false) := R4.cell 4); (have f4 : ∀ i, w4.frozen? ⟨w.heap.size, i, none⟩ = false := R4.frozen)))
    refine bodyPost_ret (v := .tuple #[.agg #[.bool false, .string ⟨#[]⟩, .int .i64 0, .int .i64 0, .bool false], .bool false]) (by simp [results, Tryz.results54, go_sem, c30, c31, c32, c33, c34]) rfl ⟨rfl, ?_⟩
    repeat (first | exact R3.below | with_reducible refine below_drewN ?_ _ | (with_reducible refine Below.setCell ?_ (by simp) _))
    | false =>
    cases ex with
    | true =>
    go_enter Tryz.func54, Tryz.ntmps54
    go_wp2_with (first | (go_at_call 99; (with_reducible refine (HIA.out _).mono ?_); rintro e w3 ⟨rfl, hb3⟩; (have R3 := (Res1.start 55 #[.bool false, .string ⟨#[]⟩, .int .i64 0, .int .i64 0, .bool false] w).next hb3); (have c30 : w3.cell? ⟨w.heap.size, 0, none⟩ = some (.bool false) := R3.cell 0); (have c31 : w3.cell? ⟨w.heap.size, 1, none⟩ = some (.string ⟨#[]⟩) := R3.cell 1); (have c32 : w3.cell? ⟨w.heap.size, 2, none⟩ = some (.int .i64 0) := R3.cell 2); (have c33 : w3.cell? ⟨w.heap.size, 3, none⟩ = some (.int .i64 0) := R3.cell 3); (have c34 : w3.cell? ⟨w.heap.size, 4, none⟩ = some (.bool false) := R3.cell 4); (have f3 : ∀ i, w3.frozen? ⟨w.heap.size, i, none⟩ = false := R3.frozen)) | (go_at_call 94; (with_reducible refine (HSG.out _).mono ?_); rintro e w' ⟨rfl, n, rfl⟩) | (go_at_call 94; (with_reducible refine (HSX.out _).mono ?_); rintro e w' ⟨rfl, n3, rfl⟩) | (go_at_call 95; (with_reducible refine (HCT.out _).mono ?_); rintro e w' ⟨⟨b, rfl⟩, n2, rfl⟩) | (go_at_call 96; (with_reducible refine (HDA.out _).mono ?_); rintro e w' ⟨rfl, rfl⟩) | (go_at_call 96; (with_reducible refine (HDB.out _).mono ?_); rintro e w' ⟨rfl, rfl⟩) | (go_at_call 96; (with_reducible refine (HDX.out _).mono ?_); rintro e w' ⟨rfl, rfl⟩) | (go_at_call 100; (with_reducible refine (HAT.out _).mono ?_); rintro e w5 ⟨rfl, hb5⟩; (have R5 := (R3.drewN _).next hb5); (have c50 : w5.cell? ⟨w.heap.size, 0, none⟩ = some (.bool false) := R5.cell 0); (have c51 : w5.cell? ⟨w.heap.size, 1, none⟩ = some (.string ⟨#[]⟩) := R5.cell 1); (have c52 : w5.cell? ⟨w.heap.size, 2, none⟩ = some (.int .i64 0) := R5.cell 2); (have c53 : w5.cell? ⟨w.heap.size, 3, none⟩ = some (.int .i64 0) := R5.cell 3); (have c54 : w5.cell? ⟨w.heap.size, 4, none⟩ = some (.bool false) := R5.cell 4); (have f5 : ∀ i, w5.frozen? ⟨w.heap.size, i, none⟩ = false := R5.frozen)) | (go_at_call 97; (with_reducible refine (HMD.out _).mono ?_); rintro e w4 ⟨rfl, hb4⟩; (have R4 := (R5).next hb4); (have c40 : w4.cell? ⟨w.heap.size, 0, none⟩ = some (.bool false) := R4.cell 0); (have c41 : w4.cell? ⟨w.heap.size, 1, none⟩ = some (.string ⟨#[]⟩) := R4.cell 1); (have c42 : w4.cell? ⟨w.heap.size, 2, none⟩ = some (.int .i64 0) := R4.cell 2); (have c43 : w4.cell? ⟨w.heap.size, 3, none⟩ = some (.int .i64 0) := R4.cell 3); (have c44 : w4.cell? ⟨w.heap.size, 4, none⟩ = some (.bool false) := R4.cell 4); (have f4 : ∀ i, w4.frozen? ⟨w.heap.size, i, none⟩ = false := R4.frozen)))
    refine bodyPost_ret (v := .tuple #[.agg #[.bool false, .string ⟨#[]⟩, .int .i64 0, .int .i64 0, .bool false], .bool false]) (by simp [results, Tryz.results54, go_sem, c30, c31, c32, c33, c34]) rfl ⟨rfl, ?_⟩
    repeat (first | exact R3.below | with_reducible refine below_drewN ?_ _ | (with_reducible refine Below.setCell ?_ (by simp) _))
    | false =>
    by_cases h9 : Y.data.toList.length ≤ 9
    · rw [decide_eq_true h9]
      have h9' : Y.size ≤ 9 := by have := HYL.out; omega
      cases dx with
      | false =>
        clear h9
        go_enter Tryz.func54, Tryz.ntmps54
        go_wp2_with (first | (go_at_call 99; (with_reducible refine (HIA.out _).mono ?_); rintro e w3 ⟨rfl, hb3⟩; (have R3 := (Res1.start 55 #[.bool false, .string ⟨#[]⟩, .int .i64 0, .int .i64 0, .bool false] w).next hb3); (have c30 : w3.cell? ⟨w.heap.size, 0, none⟩ = some (.bool false) := R3.cell 0); (have c31 : w3.cell? ⟨w.heap.size, 1, none⟩ = some (.string ⟨#[]⟩) := R3.cell 1); (have c32 : w3.cell? ⟨w.heap.size, 2, none⟩ = some (.int .i64 0) := R3.cell 2); (have c33 : w3.cell? ⟨w.heap.size, 3, none⟩ = some (.int .i64 0) := R3.cell 3); (have c34 : w3.cell? ⟨w.heap.size, 4, none⟩ = some (.bool false) := R3.cell 4); (have f3 : ∀ i, w3.frozen? ⟨w.heap.size, i, none⟩ = false := R3.frozen)) | (go_at_call 94; (with_reducible refine (HSG.out _).mono ?_); rintro e w' ⟨rfl, n, rfl⟩) | (go_at_call 94; (with_reducible refine (HSX.out _).mono ?_); rintro e w' ⟨rfl, n3, rfl⟩) | (go_at_call 95; (with_reducible refine (HCT.out _).mono ?_); rintro e w' ⟨⟨b, rfl⟩, n2, rfl⟩) | (go_at_call 96; (with_reducible refine (HDA.out _).mono ?_); rintro e w' ⟨rfl, rfl⟩) | (go_at_call 96; (with_reducible refine (HDB.out _).mono ?_); rintro e w' ⟨rfl, rfl⟩) | (go_at_call 96; (with_reducible refine (HDX.out _).mono ?_); rintro e w' ⟨rfl, rfl⟩) | (go_at_call 100; (with_reducible refine (HAT.out _).mono ?_); rintro e w5 ⟨rfl, hb5⟩; (have R5 := (R3.drewN _).next hb5); (have c50 : w5.cell? ⟨w.heap.size, 0, none⟩ = some (.bool false) := R5.cell 0); (have c51 : w5.cell? ⟨w.heap.size, 1, none⟩ = some (.string ⟨#[]⟩) := R5.cell 1); (have c52 : w5.cell? ⟨w.heap.size, 2, none⟩ = some (.int .i64 0) := R5.cell 2); (have c53 : w5.cell? ⟨w.heap.size, 3, none⟩ = some (.int .i64 0) := R5.cell 3); (have c54 : w5.cell? ⟨w.heap.size, 4, none⟩ = some (.bool false) := R5.cell 4); (have f5 : ∀ i, w5.frozen? ⟨w.heap.size, i, none⟩ = false := R5.frozen)) | (go_at_call 97; (with_reducible refine (HMD.out _).mono ?_); rintro e w4 ⟨rfl, hb4⟩; (have R4 := (R5).next hb4); (have c40 : w4.cell? ⟨w.heap.size, 0, none⟩ = some (.bool false) := R4.cell 0); (have c41 : w4.cell? ⟨w.heap.size, 1, none⟩ = some (.string ⟨#[]⟩) := R4.cell 1); (have c42 : w4.cell? ⟨w.heap.size, 2, none⟩ = some (.int .i64 0) := R4.cell 2); (have c43 : w4.cell? ⟨w.heap.size, 3, none⟩ = some (.int .i64 0) := R4.cell 3); (have c44 : w4.cell? ⟨w.heap.size, 4, none⟩ = some (.bool false) := R4.cell 4); (have f4 : ∀ i, w4.frozen? ⟨w.heap.size, i, none⟩ = false := R4.frozen)))
        refine bodyPost_ret (v := .tuple #[.agg #[.bool false, .string ⟨#[]⟩, .int .i64 0, .int .i64 0, .bool false], .bool false]) (by simp [results, Tryz.results54, go_sem, c30, c31, c32, c33, c34]) rfl ⟨rfl, ?_⟩
        repeat (first | exact R3.below | with_reducible refine below_drewN ?_ _ | (with_reducible refine Below.setCell ?_ (by simp) _))
      | true =>
        have hat := fun w => atoi_calls Y w HDX'.out.symm (by intro e; have := HEX'.out; rw [e] at this; cases this) h9
        have hnl := numN_lt _ HDX'.out.symm h9
        obtain ⟨N, hN⟩ : ∃ N, N = numN Y.data.toList := ⟨_, rfl⟩
        rw [← hN] at hat hnl ⊢
        have HAT := Lib.hid hat
        clear hat hN h9
        cases lx with
        | false =>
          have hmd := fun w => made_calls bl A B (N : Int) w (by omega) (by omega) (by omega)
          simp only [Bool.and_self, Bool.not_false, if_true, Bool.false_eq_true, if_false]
          obtain ⟨⟨mb, md, mp, mi, mn⟩, hM⟩ : ∃ M, M = mkN bl A.data.toList B.data.toList (N : Int) := ⟨_, rfl⟩
          rw [← hM] at hmd ⊢
          unfold Nm.val at hmd ⊢
          dsimp only at hmd ⊢
          have HMD := Lib.hid hmd
          clear hmd hM
          go_enter Tryz.func54, Tryz.ntmps54
          go_wp2_with (first | (go_at_call 99; (with_reducible refine (HIA.out _).mono ?_); rintro e w3 ⟨rfl, hb3⟩; (have R3 := (Res1.start 55 #[.bool false, .string ⟨#[]⟩, .int .i64 0, .int .i64 0, .bool false] w).next hb3); (have c30 : w3.cell? ⟨w.heap.size, 0, none⟩ = some (.bool false) := R3.cell 0); (have c31 : w3.cell? ⟨w.heap.size, 1, none⟩ = some (.string ⟨#[]⟩) := R3.cell 1); (have c32 : w3.cell? ⟨w.heap.size, 2, none⟩ = some (.int .i64 0) := R3.cell 2); (have c33 : w3.cell? ⟨w.heap.size, 3, none⟩ = some (.int .i64 0) := R3.cell 3); (have c34 : w3.cell? ⟨w.heap.size, 4, none⟩ = some (.bool false) := R3.cell 4); (have f3 : ∀ i, w3.frozen? ⟨w.heap.size, i, none⟩ = false := R3.frozen)) | (go_at_call 94; (with_reducible refine (HSG.out _).mono ?_); rintro e w' ⟨rfl, n, rfl⟩) | (go_at_call 94; (with_reducible refine (HSX.out _).mono ?_); rintro e w' ⟨rfl, n3, rfl⟩) | (go_at_call 95; (with_reducible refine (HCT.out _).mono ?_); rintro e w' ⟨⟨b, rfl⟩, n2, rfl⟩) | (go_at_call 96; (with_reducible refine (HDA.out _).mono ?_); rintro e w' ⟨rfl, rfl⟩) | (go_at_call 96; (with_reducible refine (HDB.out _).mono ?_); rintro e w' ⟨rfl, rfl⟩) | (go_at_call 96; (with_reducible refine (HDX.out _).mono ?_); rintro e w' ⟨rfl, rfl⟩) | (go_at_call 100; (with_reducible refine (HAT.out _).mono ?_); rintro e w5 ⟨rfl, hb5⟩; (have R5 := (R3.drewN _).next hb5); (have c50 : w5.cell? ⟨w.heap.size, 0, none⟩ = some (.bool false) := R5.cell 0); (have c51 : w5.cell? ⟨w.heap.size, 1, none⟩ = some (.string ⟨#[]⟩) := R5.cell 1); (have c52 : w5.cell? ⟨w.heap.size, 2, none⟩ = some (.int .i64 0) := R5.cell 2); (have c53 : w5.cell? ⟨w.heap.size, 3, none⟩ = some (.int .i64 0) := R5.cell 3); (have c54 : w5.cell? ⟨w.heap.size, 4, none⟩ = some (.bool false) := R5.cell 4); (have f5 : ∀ i, w5.frozen? ⟨w.heap.size, i, none⟩ = false := R5.frozen)) | (go_at_call 97; (with_reducible refine (HMD.out _).mono ?_); rintro e w4 ⟨rfl, hb4⟩; (have R4 := (R5).next hb4); (have c40 : w4.cell? ⟨w.heap.size, 0, none⟩ = some (.bool false) := R4.cell 0); (have c41 : w4.cell? ⟨w.heap.size, 1, none⟩ = some (.string ⟨#[]⟩) := R4.cell 1); (have c42 : w4.cell? ⟨w.heap.size, 2, none⟩ = some (.int .i64 0) := R4.cell 2); (have c43 : w4.cell? ⟨w.heap.size, 3, none⟩ = some (.int .i64 0) := R4.cell 3); (have c44 : w4.cell? ⟨w.heap.size, 4, none⟩ = some (.bool false) := R4.cell 4); (have f4 : ∀ i, w4.frozen? ⟨w.heap.size, i, none⟩ = false := R4.frozen)))
          refine bodyPost_ret (v := .tuple #[.agg #[.bool mb, .string ⟨md.toArray⟩, .int .i64 mp, .int .i64 mi, .bool mn], .bool true]) (by simp [results, Tryz.results54, go_sem, c40, c41, c42, c43, c44]) rfl ⟨rfl, ?_⟩
          repeat (first | exact R4.below | with_reducible refine below_drewN ?_ _ | (with_reducible refine Below.setCell ?_ (by simp) _))
        | true =>
          have hmd := fun w => made_calls bl A B (-(N : Int)) w (by omega) (by omega) (by omega)
          simp only [Bool.and_self, Bool.not_false, if_true]
          obtain ⟨⟨mb, md, mp, mi, mn⟩, hM⟩ : ∃ M, M = mkN bl A.data.toList B.data.toList (-(N : Int)) := ⟨_, rfl⟩
          rw [← hM] at hmd ⊢
          unfold Nm.val at hmd ⊢
          dsimp only at hmd ⊢
          have HMD := Lib.hid hmd
          clear hmd hM
          go_enter Tryz.func54, Tryz.ntmps54
          go_wp2_with (first | (go_at_call 99; (with_reducible refine (HIA.out _).mono ?_); rintro e w3 ⟨rfl, hb3⟩; (have R3 := (Res1.start 55 #[.bool false, .string ⟨#[]⟩, .int .i64 0, .int .i64 0, .bool false] w).next hb3); (have c30 : w3.cell? ⟨w.heap.size, 0, none⟩ = some (.bool false) := R3.cell 0); (have c31 : w3.cell? ⟨w.heap.size, 1, none⟩ = some (.string ⟨#[]⟩) := R3.cell 1); (have c32 : w3.cell? ⟨w.heap.size, 2, none⟩ = some (.int .i64 0) := R3.cell 2); (have c33 : w3.cell? ⟨w.heap.size, 3, none⟩ = some (.int .i64 0) := R3.cell 3); (have c34 : w3.cell? ⟨w.heap.size, 4, none⟩ = some (.bool false) := R3.cell 4); (have f3 : ∀ i, w3.frozen? ⟨w.heap.size, i, none⟩ = false := R3.frozen)) | (go_at_call 94; (with_reducible refine (HSG.out _).mono ?_); rintro e w' ⟨rfl, n, rfl⟩) | (go_at_call 94; (with_reducible refine (HSX.out _).mono ?_); rintro e w' ⟨rfl, n3, rfl⟩) | (go_at_call 95; (with_reducible refine (HCT.out _).mono ?_); rintro e w' ⟨⟨b, rfl⟩, n2, rfl⟩) | (go_at_call 96; (with_reducible refine (HDA.out _).mono ?_); rintro e w' ⟨rfl, rfl⟩) | (go_at_call 96; (with_reducible refine (HDB.out _).mono ?_); rintro e w' ⟨rfl, rfl⟩) | (go_at_call 96; (with_reducible refine (HDX.out _).mono ?_); rintro e w' ⟨rfl, rfl⟩) | (go_at_call 100; (with_reducible refine (HAT.out _).mono ?_); rintro e w5 ⟨rfl, hb5⟩; (have R5 := (R3.drewN _).next hb5); (have c50 : w5.cell? ⟨w.heap.size, 0, none⟩ = some (.bool false) := R5.cell 0); (have c51 : w5.cell? ⟨w.heap.size, 1, none⟩ = some (.string ⟨#[]⟩) := R5.cell 1); (have c52 : w5.cell? ⟨w.heap.size, 2, none⟩ = some (.int .i64 0) := R5.cell 2); (have c53 : w5.cell? ⟨w.heap.size, 3, none⟩ = some (.int .i64 0) := R5.cell 3); (have c54 : w5.cell? ⟨w.heap.size, 4, none⟩ = some (.bool false) := R5.cell 4); (have f5 : ∀ i, w5.frozen? ⟨w.heap.size, i, none⟩ = false := R5.frozen)) | (go_at_call 97; (with_reducible refine (HMD.out _).mono ?_); rintro e w4 ⟨rfl, hb4⟩; (have R4 := (R5).next hb4); (have c40 : w4.cell? ⟨w.heap.size, 0, none⟩ = some (.bool false) := R4.cell 0); (have c41 : w4.cell? ⟨w.heap.size, 1, none⟩ = some (.string ⟨#[]⟩) := R4.cell 1); (have c42 : w4.cell? ⟨w.heap.size, 2, none⟩ = some (.int .i64 0) := R4.cell 2); (have c43 : w4.cell? ⟨w.heap.size, 3, none⟩ = some (.int .i64 0) := R4.cell 3); (have c44 : w4.cell? ⟨w.heap.size, 4, none⟩ = some (.bool false) := R4.cell 4); (have f4 : ∀ i, w4.frozen? ⟨w.heap.size, i, none⟩ = false := R4.frozen)))
          refine bodyPost_ret (v := .tuple #[.agg #[.bool mb, .string ⟨md.toArray⟩, .int .i64 mp, .int .i64 mi, .bool mn], .bool true]) (by simp [results, Tryz.results54, go_sem, c40, c41, c42, c43, c44]) rfl ⟨rfl, ?_⟩
          repeat (first | exact R4.below | with_reducible refine below_drewN ?_ _ | (with_reducible refine Below.setCell ?_ (by simp) _))
    · rw [decide_eq_false h9]
      have h9' : 9 < Y.size := by have := HYL.out; omega
      simp only [Bool.and_false, Bool.false_and, Bool.and_self]
      clear h9
      go_enter Tryz.func54, Tryz.ntmps54
      go_wp2_with (first | (go_at_call 99; (with_reducible refine (HIA.out _).mono ?_); rintro e w3 ⟨rfl, hb3⟩; (have R3 := (Res1.start 55 #[.bool false, .string ⟨#[]⟩, .int .i64 0, .int .i64 0, .bool false] w).next hb3); (have c30 : w3.cell? ⟨w.heap.size, 0, none⟩ = some (.bool false) := R3.cell 0); (have c31 : w3.cell? ⟨w.heap.size, 1, none⟩ = some (.string ⟨#[]⟩) := R3.cell 1); (have c32 : w3.cell? ⟨w.heap.size, 2, none⟩ = some (.int .i64 0) := R3.cell 2); (have c33 : w3.cell? ⟨w.heap.size, 3, none⟩ = some (.int .i64 0) := R3.cell 3); (have c34 : w3.cell? ⟨w.heap.size, 4, none⟩ = some (.bool false) := R3.cell 4); (have f3 : ∀ i, w3.frozen? ⟨w.heap.size, i, none⟩ = false := R3.frozen)) | (go_at_call 94; (with_reducible refine (HSG.out _).mono ?_); rintro e w' ⟨rfl, n, rfl⟩) | (go_at_call 94; (with_reducible refine (HSX.out _).mono ?_); rintro e w' ⟨rfl, n3, rfl⟩) | (go_at_call 95; (with_reducible refine (HCT.out _).mono ?_); rintro e w' ⟨⟨b, rfl⟩, n2, rfl⟩) | (go_at_call 96; (with_reducible refine (HDA.out _).mono ?_); rintro e w' ⟨rfl, rfl⟩) | (go_at_call 96; (with_reducible refine (HDB.out _).mono ?_); rintro e w' ⟨rfl, rfl⟩) | (go_at_call 96; (with_reducible refine (HDX.out _).mono ?_); rintro e w' ⟨rfl, rfl⟩) | (go_at_call 100; (with_reducible refine (HAT.out _).mono ?_); rintro e w5 ⟨rfl, hb5⟩; (have R5 := (R3.drewN _).next hb5); (have c50 : w5.cell? ⟨w.heap.size, 0, none⟩ = some (.bool false) := R5.cell 0); (have c51 : w5.cell? ⟨w.heap.size, 1, none⟩ = some (.string ⟨#[]⟩) := R5.cell 1); (have c52 : w5.cell? ⟨w.heap.size, 2, none⟩ = some (.int .i64 0) := R5.cell 2); (have c53 : w5.cell? ⟨w.heap.size, 3, none⟩ = some (.int .i64 0) := R5.cell 3); (have c54 : w5.cell? ⟨w.heap.size, 4, none⟩ = some (.bool false) := R5.cell 4); (have f5 : ∀ i, w5.frozen? ⟨w.heap.size, i, none⟩ = false := R5.frozen)) | (go_at_call 97; (with_reducible refine (HMD.out _).mono ?_); rintro e w4 ⟨rfl, hb4⟩; (have R4 := (R5).next hb4); (have c40 : w4.cell? ⟨w.heap.size, 0, none⟩ = some (.bool false) := R4.cell 0); (have c41 : w4.cell? ⟨w.heap.size, 1, none⟩ = some (.string ⟨#[]⟩) := R4.cell 1); (have c42 : w4.cell? ⟨w.heap.size, 2, none⟩ = some (.int .i64 0) := R4.cell 2); (have c43 : w4.cell? ⟨w.heap.size, 3, none⟩ = some (.int .i64 0) := R4.cell 3); (have c44 : w4.cell? ⟨w.heap.size, 4, none⟩ = some (.bool false) := R4.cell 4); (have f4 : ∀ i, w4.frozen? ⟨w.heap.size, i, none⟩ = false := R4.frozen)))
      refine bodyPost_ret (v := .tuple #[.agg #[.bool false, .string ⟨#[]⟩, .int .i64 0, .int .i64 0, .bool false], .bool false]) (by simp [results, Tryz.results54, go_sem, c30, c31, c32, c33, c34]) rfl ⟨rfl, ?_⟩
      repeat (first | exact R3.below | with_reducible refine below_drewN ?_ _ | (with_reducible refine Below.setCell ?_ (by simp) _))
end Go.Proofs.YtlhcejbimlilaaaGreatDoor
/- The program's own texts of decimals, integers, doubles; the rows' small functions; what find's closures answer. -/
namespace Go.Tk
open Go Go.RowKit
theorem below_box {w w1 w2 : World} (hb1 : Below w.heap.size w w1) (o : Obj) (hb2 : Below (w1.alloc o).heap.size (w1.alloc o) w2) : Below w.heap.size w w2 :=
  (hb1.trans (((Below.refl w1.heap.size w1).alloc (Nat.le_refl _) o).mono hb1.size)).trans (hb2.mono (by have := hb1.size; simp; omega))
end Go.Tk
namespace Go.Proofs.YtlhcejbimlilaaaGreatDoor
open Go.RowKit Go.Tk
theorem mkN_bd (b : Bool) (a p : List UInt8) (e : Int) : (mkN b a p e).dg.length ≤ a.length + p.length ∧ (mkN b a p e).inf = 0 ∧ ((mkN b a p e).dg ≠ [] → e - p.length ≤ (mkN b a p e).pw ∧ (mkN b a p e).pw ≤ a.length + e) ∧ ((mkN b a p e).dg = [] → (mkN b a p e).pw = 0) := by
  unfold mkN
  split
  · simp [nmZ]
  · rename_i h
    have h1 := tl0_le (a ++ p)
    have h2 := tr0_le (tl0 (a ++ p))
    rw [List.length_append] at h1
    refine ⟨by dsimp only; omega, rfl, fun _ => ?_, fun h3 => absurd h3 h⟩
    dsimp only
    rw [List.length_append]
    omega
theorem mkN_int (b : Bool) (a : List UInt8) : (mkN b a [] 0).dg.length ≤ a.length ∧ ((mkN b a [] 0).dg ≠ [] → ((mkN b a [] 0).dg.length : Int) ≤ (mkN b a [] 0).pw ∧ (mkN b a [] 0).pw ≤ a.length) := by
  have hb := mkN_bd b a [] 0
  refine ⟨by simpa using hb.1, fun h => ⟨?_, by have := (hb.2.2.1 h).2; simpa using this⟩⟩
  have h2 := tr0_le (tl0 (a ++ []))
  have h1 := tl0_le (a ++ [])
  unfold mkN at h ⊢
  split
  · rename_i e; rw [if_pos e] at h; simp [nmZ] at h
  · dsimp only
    rw [List.append_nil] at *
    omega
theorem decP_bd {l : List UInt8} {n : Nm} (h : decP l = some n) : n.dg.length ≤ l.length ∧ n.inf = 0 ∧ -(l.length : Int) ≤ n.pw ∧ n.pw ≤ l.length := by
  unfold decP at h
  split at h
  · obtain rfl := Option.some.inj h
    have hb := mkN_bd (sgnB l) (ctA (sgnR l)) (ctB (sgnR l)) 0
    have h1 := ct_le (sgnR l)
    have h2 := sgnR_le l
    refine ⟨by omega, hb.2.1, ?_⟩
    by_cases hz : (mkN (sgnB l) (ctA (sgnR l)) (ctB (sgnR l)) 0).dg = []
    · have := hb.2.2.2 hz; omega
    · have := hb.2.2.1 hz; omega
  · cases h
theorem intP_bd {l : List UInt8} {n : Nm} (h : intP l = some n) : n.dg.length ≤ l.length ∧ n.inf = 0 ∧ (n.dg ≠ [] → (n.dg.length : Int) ≤ n.pw ∧ n.pw ≤ l.length) := by
  unfold intP at h
  split at h
  · obtain rfl := Option.some.inj h
    have hb := mkN_int (sgnB l) (sgnR l)
    have h2 := sgnR_le l
    refine ⟨by omega, (mkN_bd _ _ _ _).2.1, fun hz => ?_⟩
    have := hb.2 hz; omega
  · cases h
theorem expZ_bd {x : List UInt8} (h : okE x = true) : -1000000000 < expZ x ∧ expZ x < 1000000000 := by
  unfold okE at h
  simp at h
  have := numN_lt _ h.2 h.1.2
  unfold expZ
  split <;> omega
theorem dblP_bd {l : List UInt8} {n : Nm} (h : dblP l = some n) : n.dg.length ≤ l.length ∧ (-1 ≤ n.inf ∧ n.inf ≤ 1) ∧ -(l.length : Int) - 1000000000 ≤ n.pw ∧ n.pw ≤ l.length + 1000000000 := by
  unfold dblP at h
  split at h
  · obtain rfl := Option.some.inj h; simp [nmNaN]; omega
  split at h
  · obtain rfl := Option.some.inj h; simp [nmInf]; omega
  split at h
  · obtain rfl := Option.some.inj h; simp [nmInf]; omega
  split at h
  · have := decP_bd h; omega
  split at h
  · rename_i ho
    simp only [Bool.and_eq_true] at ho
    have he := expZ_bd ho.2
    obtain rfl := Option.some.inj h
    have hb := mkN_bd (sgnB (hdE l)) (ctA (sgnR (hdE l))) (ctB (sgnR (hdE l))) (expZ (tlE l))
    have h1 := ct_le (sgnR (hdE l))
    have h2 := sgnR_le (hdE l)
    have h3 := hdE_le l
    refine ⟨by omega, by omega, ?_⟩
    by_cases hz : (mkN (sgnB (hdE l)) (ctA (sgnR (hdE l))) (ctB (sgnR (hdE l))) (expZ (tlE l))).dg = []
    · have := hb.2.2.2 hz; omega
    · have := hb.2.2.1 hz; omega
  · cases h
end Go.Proofs.YtlhcejbimlilaaaGreatDoor
