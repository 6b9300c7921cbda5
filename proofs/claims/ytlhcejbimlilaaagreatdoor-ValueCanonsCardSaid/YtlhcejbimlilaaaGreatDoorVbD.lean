/- VdL VbD, laid as one. -/
import Derived.Test.YtlhcejbimlilaaaGreatDoorVdK
import Derived.Test.YtlhcejbimlilaaaGreatDoorQuL
import Derived.Laws.Concat
set_option linter.unusedVariables false
set_option linter.unusedSimpArgs false
/- The document's KindOf (written by gen_vdk.py). -/
namespace Go.Proofs.YtlhcejbimlilaaaGreatDoor
open Go.RowKit Go.Tk
def lkO : Option Kd → Int
  | none => 0
  | some k => lkK k
def loO : Option Kd → List UInt8
  | none => []
  | some k => loK k
def hiO : Option Kd → List UInt8
  | none => []
  | some k => hiK k
def KdPost (o : Option Kd) (w : World) (e : Ending) (w' : World) : Prop := ∃ nm : ByteArray, e = .returned (.agg #[.string nm, .int .i64 (lkO o), .string ⟨(loO o).toArray⟩, .string ⟨(hiO o).toArray⟩]) ∧ Below w.heap.size w w'
set_option maxRecDepth 100000 in
set_option maxHeartbeats 4000000 in
theorem kindOf_calls (T : ByteArray) (w : World) : Calls Tryz.prog 25 #[.string T] w (KdPost (kdOf T.data.toList) w) := by
  have HK := Lib.hid (fun w => kinds_calls w)
  go_enter Tryz.func25, Tryz.ntmps25
  go_upto_region 2 with (go_at_call 69; (with_reducible refine (HK.out _).mono ?_); rintro e w1 ⟨rfl, rfl⟩)
  obtain ⟨r0, r1, hb⟩ := box2 w (.cells #[.string ⟨#[]⟩, .int .i64 0, .string ⟨#[]⟩, .string ⟨#[]⟩] 48) (.cells kTab 48)
  have hsz : (w.alloc (.cells #[.string ⟨#[]⟩, .int .i64 0, .string ⟨#[]⟩, .string ⟨#[]⟩] 48)).heap.size = w.heap.size + 1 := by simp
  try rw [hsz]
  generalize World.alloc (World.alloc w _) _ = w2 at r0 r1 hb ⊢
  have a0 := row_cell r0 0
  have a1 := row_cell r0 1
  have a2 := row_cell r0 2
  have a3 := row_cell r0 3
  simp at a0 a1 a2 a3
  have f0 : ∀ i, w2.frozen? ⟨w.heap.size, i, none⟩ = false := fun i => frozen_of_row _ _ _ _ _ r0
  have HB := Lib.hid hb
  have HR1 := Lib.hid r1
  clear hb r0 r1 hsz HK
  go_wp2_with fail
  go_loop [4] (fun i => ∃ k : Nat, k ≤ 23 ∧ i = .int .i64 (k : Nat) ∧ ∀ j, j < k → T.data.toList ≠ xsd ++ kiN j) (fun i => 23 - (intOf i).toNat)
  case atStart => exact ⟨0, by decide, rfl, fun j hj => by omega⟩
  case round =>
    obtain ⟨k, hk, rfl, hno⟩ := hrel
    by_cases hlt : k < 23
    · have x0 := (row_cell HR1.out (4 * k)).trans (ki_0 k hlt)
      have x1 := (row_cell HR1.out (4 * k + 1)).trans (ki_1 k hlt)
      have x2 := (row_cell HR1.out (4 * k + 2)).trans (ki_2 k hlt)
      have x3 := (row_cell HR1.out (4 * k + 3)).trans (ki_3 k hlt)
      rw [Nat.mul_comm 4 k] at x0 x1 x2 x3
      have zn : (⟨(kiN k).toArray⟩ : ByteArray).size ≤ 100 := by rw [sz_mk]; exact ki_len k hlt
      obtain ⟨S, hS⟩ : ∃ S : ByteArray, ⟨#[104, 116, 116, 112, 58, 47, 47, 119, 119, 119, 46, 119, 51, 46, 111, 114, 103, 47, 50, 48, 48, 49, 47, 88, 77, 76, 83, 99, 104, 101, 109, 97, 35]⟩ ++ ⟨(kiN k).toArray⟩ = S := ⟨_, rfl⟩
      have hSd : S.data.toList = xsd ++ kiN k := by rw [← hS]; simp [xsd]
      generalize hnm : (⟨(kiN k).toArray⟩ : ByteArray) = nm at x0 zn hS
      by_cases he : T.data.toList = xsd ++ kiN k
      · have hT : T = S := ba_ext (by rw [he, hSd])
        have hkd : kdOf T.data.toList = some (kiD k) := by rw [he]; exact ki_yes k hlt
        have HKD := Lib.hid hkd
        have hTS : (T.toList == S.toList) = true := by rw [hT]; exact beq_self_eq_true _
        obtain ⟨kk, hkk⟩ : ∃ kk, kk = kiD k := ⟨_, rfl⟩
        rw [← hkk] at x1 x2 x3
        have HKK := Lib.hid hkk
        clear hno he hT hkd hkk hSd hnm
        go_wp2_with fail
        refine bodyPost_ret (v := .agg #[.string nm, .int .i64 (lkK kk), .string ⟨(loK kk).toArray⟩, .string ⟨(hiK kk).toArray⟩]) (by simp [results, Tryz.results25, go_sem, a0, a1, a2, a3]) rfl ⟨nm, by rw [HKD.out, ← HKK.out]; rfl, ?_⟩
        repeat (first | exact HB.out | with_reducible refine below_drewN ?_ _ | (with_reducible refine Below.setCell ?_ (by simp) _))
      · have hTS : (T.toList == S.toList) = false := by rw [Lib.toList_data, Lib.toList_data, hSd]; exact beq_false_of_ne he
        have hno2 : ∀ j, j < k + 1 → T.data.toList ≠ xsd ++ kiN j := fun j hj => by
          by_cases hjk : j = k
          · subst hjk; exact he
          · exact hno j (by omega)
        have HNO := Lib.hid hno2
        clear hno he hSd hnm hno2 x1 x2 x3
        go_wp2_with fail
        go_round
        case rel => exact ⟨k + 1, by omega, by go_num, HNO.out⟩
        case measure => simp [intOf]; omega
    · have hk23 : k = 23 := by omega
      subst hk23
      have hkd : kdOf T.data.toList = none := ki_no hno
      have HKD := Lib.hid hkd
      clear hno hkd
      go_wp2_with fail
      refine bodyPost_ret (v := .agg #[.string ⟨#[]⟩, .int .i64 0, .string ⟨#[]⟩, .string ⟨#[]⟩]) (by simp [results, Tryz.results25, go_sem, a0, a1, a2, a3]) rfl ⟨⟨#[]⟩, by rw [HKD.out]; rfl, ?_⟩
      repeat (first | exact HB.out | with_reducible refine below_drewN ?_ _ | (with_reducible refine Below.setCell ?_ (by simp) _))
end Go.Proofs.YtlhcejbimlilaaaGreatDoor
/- The program's Known, Check. -/
namespace Go.Proofs.YtlhcejbimlilaaaGreatDoor
open Go.RowKit Go.Tk
/-- What Check answers. -/
def chkE (t s : List UInt8) : Int := if 65536 < s.length then 2 else match kdOf t with
  | none => 0
  | some k => if isK k s = true then 0 else 80
theorem kdOf_cases (t : List UInt8) : (kdOf t = none ∧ (Lib.hasPrefix t xsd = false ∨ Lib.hasPrefix t xsd = true ∧ kdL (t.drop 33) = none)) ∨ ∃ k, kdOf t = some k ∧ Lib.hasPrefix t xsd = true ∧ kdL (t.drop 33) = some k := by
  unfold kdOf
  cases h : Lib.hasPrefix t xsd with
  | false => exact .inl ⟨rfl, .inl rfl⟩
  | true =>
    rw [if_pos rfl]
    cases h2 : kdL (t.drop 33) with
    | none => exact .inl ⟨rfl, .inr ⟨rfl, rfl⟩⟩
    | some k => exact .inr ⟨k, rfl, rfl, rfl⟩
theorem find_none' (t : ByteArray) (w : World) (h : kdOf t.data.toList = none) :
    Calls Tryz.prog 24 #[.string t] w fun e w' => e = .returned (.tuple #[.agg #[.int .i64 0, .nilFunc, .nilFunc], .bool false]) ∧ Below w.heap.size w w' := by
  rcases kdOf_cases t.data.toList with ⟨_, h1 | ⟨h1, h2⟩⟩ | ⟨k, hk, _⟩
  · exact find_no t w h1
  · exact find_none t w h1 h2
  · rw [h] at hk; cases hk
theorem find_some (t s : ByteArray) (k : Kd) (w : World) (hs : s.size ≤ 65536) (h : kdOf t.data.toList = some k) :
    Calls Tryz.prog 24 #[.string t] w (FdRow s k w) := by
  rcases kdOf_cases t.data.toList with ⟨h1, _⟩ | ⟨k', hk, h1, h2⟩
  · rw [h] at h1; cases h1
  · rw [h] at hk
    obtain rfl := Option.some.inj hk
    exact find_yes t s k w hs h1 h2
theorem enter_isF (k : Kd) (args : Array Value) (W : World) : (callFunc (isF k) args).run Tryz.prog W = .ok (.enter (isF k) args) W := by
  cases k <;> kernel_rfl
theorem enter_ownF (k : Kd) (args : Array Value) (W : World) : (callFunc (ownF k) args).run Tryz.prog W = .ok (.enter (ownF k) args) W := by
  cases k <;> kernel_rfl
theorem known_calls (t : ByteArray) (w : World) : Calls Tryz.prog 10 #[.string t] w fun e w' => e = .returned (.bool (kdOf t.data.toList).isSome) ∧ Below w.heap.size w w' := by
  cases hk : kdOf t.data.toList with
  | none =>
    have h := fun w => find_none' t w hk
    have H := Lib.hid h
    clear h hk
    go_enter Tryz.func10, Tryz.ntmps10
    go_wp2_with (go_at_call 24; (with_reducible refine (H.out _).mono ?_); rintro e w1 ⟨rfl, hb1⟩)
    go_ret
    exact ⟨rfl, hb1.trans ((Below.refl _ _).alloc hb1.size _)⟩
  | some k =>
    have h := fun w => find_some t ⟨#[]⟩ k w (by decide) hk
    obtain ⟨F, hF⟩ : ∃ F, F = isF k := ⟨_, rfl⟩
    obtain ⟨G, hG⟩ : ∃ F, F = ownF k := ⟨_, rfl⟩
    obtain ⟨f, hf⟩ : ∃ F, F = famK k := ⟨_, rfl⟩
    have h : ∀ w, Calls Tryz.prog 24 #[.string t] w fun e w' => ∃ caps : Array Value, e = .returned (.tuple #[.agg #[.int .i64 f, .func (.func F) #[] caps, .func (.func G) #[] #[]], .bool true]) ∧ Below w.heap.size w w' := fun w => (h w).mono fun e w' ⟨caps, a, b, _⟩ => ⟨caps, by rw [hF, hG, hf]; exact a, b⟩
    have H := Lib.hid h
    clear h hk hF hG hf
    go_enter Tryz.func10, Tryz.ntmps10
    go_wp2_with (go_at_call 24; (with_reducible refine (H.out _).mono ?_); rintro e w1 ⟨caps, rfl, hb1⟩)
    go_ret
    exact ⟨rfl, hb1.trans ((Below.refl _ _).alloc hb1.size _)⟩
set_option maxHeartbeats 1000000 in
theorem vcheck_calls (t s : ByteArray) (w : World) (hs : s.size ≤ 9223372036854775807) : Calls Tryz.prog 13 #[.string t, .string s] w fun e w' => e = .returned (.int .i64 (chkE t.data.toList s.data.toList)) ∧ Below w.heap.size w w' := by
  have hl : s.data.toList.length = s.size := (Lib.size_eq s).symm
  by_cases hz : 65536 < s.size
  · have e : chkE t.data.toList s.data.toList = 2 := by unfold chkE; rw [hl, if_pos hz]
    rw [e]
    have hz' : 65536 < (s.size : Int) := by omega
    clear e hl hz
    go_enter Tryz.func13, Tryz.ntmps13
    go_wp2_with fail
    go_ret
    exact ⟨rfl, Below.refl _ _⟩
  have hz' : (s.size : Int) ≤ 65536 := by omega
  have hz2 : s.size ≤ 65536 := by omega
  cases hk : kdOf t.data.toList with
  | none =>
    have e : chkE t.data.toList s.data.toList = 0 := by unfold chkE; rw [hl, if_neg hz, hk]
    rw [e]
    have h := fun w => find_none' t w hk
    have H := Lib.hid h
    clear h hk e hl hz
    go_enter Tryz.func13, Tryz.ntmps13
    go_wp2_with (go_at_call 24; (with_reducible refine (H.out _).mono ?_); rintro e w1 ⟨rfl, hb1⟩)
    go_ret
    exact ⟨rfl, hb1.trans ((Below.refl _ _).alloc hb1.size _)⟩
  | some k =>
    have e : chkE t.data.toList s.data.toList = if isK k s.data.toList = true then 0 else 80 := by unfold chkE; rw [hl, if_neg hz, hk]
    rw [e]
    have h := fun w => find_some t s k w hz2 hk
    have hcf := enter_isF k
    obtain ⟨F, hF⟩ : ∃ F, F = isF k := ⟨_, rfl⟩
    obtain ⟨G, hG⟩ : ∃ F, F = ownF k := ⟨_, rfl⟩
    obtain ⟨f, hf⟩ : ∃ F, F = famK k := ⟨_, rfl⟩
    obtain ⟨b, hb⟩ : ∃ b, b = isK k s.data.toList := ⟨_, rfl⟩
    have h : ∀ w, Calls Tryz.prog 24 #[.string t] w fun e w' => ∃ caps : Array Value, e = .returned (.tuple #[.agg #[.int .i64 f, .func (.func F) #[] caps, .func (.func G) #[] #[]], .bool true]) ∧ Below w.heap.size w w' ∧
      ∀ w2, Below w'.heap.size w' w2 → Calls Tryz.prog F (#[.string s] ++ caps) w2 fun e2 w3 => e2 = .returned (.bool b) ∧ Below w2.heap.size w2 w3 := fun w => (h w).mono fun e w' ⟨caps, a, b', c⟩ => ⟨caps, by rw [hF, hG, hf]; exact a, b', by rw [hF, hb]; exact c⟩
    rw [← hF] at hcf
    rw [← hb]
    have H := Lib.hid h
    clear h hk hF hG hf hb e hl hz
    cases b with
    | true =>
      rw [if_pos rfl]
      go_enter Tryz.func13, Tryz.ntmps13
      go_wp2_with (first | (go_at_call 24; (with_reducible refine (H.out _).mono ?_); rintro e w1 ⟨caps, rfl, hb1, his⟩; (have HIS := Lib.hid his); clear his) | ((with_reducible refine (HIS.out _ ((Below.refl _ _).alloc (Nat.le_refl _) _)).mono ?_); rintro e w3 ⟨rfl, hb3⟩))
      go_ret
      exact ⟨rfl, below_box hb1 _ hb3⟩
    | false =>
      rw [if_neg (by simp)]
      go_enter Tryz.func13, Tryz.ntmps13
      go_wp2_with (first | (go_at_call 24; (with_reducible refine (H.out _).mono ?_); rintro e w1 ⟨caps, rfl, hb1, his⟩; (have HIS := Lib.hid his); clear his) | ((with_reducible refine (HIS.out _ ((Below.refl _ _).alloc (Nat.le_refl _) _)).mono ?_); rintro e w3 ⟨rfl, hb3⟩))
      go_ret
      exact ⟨rfl, below_box hb1 _ hb3⟩
end Go.Proofs.YtlhcejbimlilaaaGreatDoor
