/- UtfBack: what Escape writes is read back as the text, has no byte that may not stand there, and is as long as the text if nothing needed an escape; what is no UTF-8 is not written. -/
import Derived.Test.YthloijpnbljpeaaDoorUtfBk
import Derived.Test.YthloijpnbljpeaaDoorUtfWk
import Derived.Test.YthloijpnbljpeaaDoorUtfFl
set_option linter.unusedVariables false
set_option linter.unusedSimpArgs false
namespace Go.Proofs.YthloijpnbljpeaaDoor
open Go.RowKit Go.Tk
set_option maxRecDepth 100000 in
set_option maxHeartbeats 4000000 in
theorem back_bad (w : World) (s : ByteArray) (hs : s.size ≤ 1048576) (q : Bool) (hg : HandleMet w) (c0 : 0 ≤ chkF s.data.toList 0) :
    Calls Tryd.prog 6 #[.string s, .bool q] w fun e w' => e = .returned (.bool true) ∧ Below w.heap.size w w' := by
  have hE := fun way w => uescape_calls s way w (by omega)
  have hC := fun w => check_calls s w (by omega)
  obtain ⟨c, hc⟩ : ∃ c, c = chkF s.data.toList 0 := ⟨_, rfl⟩
  rw [← hc] at hE hC c0
  have hE2 : ∀ way w, Calls Tryd.prog 17 #[.string s, .int .i64 way] w fun e w' => ∃ b, e = .returned (.tuple #[.string ⟨#[]⟩, .iface 58 (.pointer (some ⟨b, 0, none⟩))]) ∧ EV w' (.iface 58 (.pointer (some ⟨b, 0, none⟩))) c 40 ∧ Below w.heap.size w w' := fun way w => (hE way w).mono fun e w' ⟨h1, _, hb⟩ => by
    obtain ⟨v, h2, h3⟩ := h1 c0
    have h4 := EV.at (y := 40) (by decide) h3
    obtain ⟨b, rfl, _⟩ := h3
    exact ⟨b, h2, h4, hb⟩
  have e1 : (c == c) = true := by simp
  have HE := Lib.hid hE2
  have HC := Lib.hid hC
  have HG := Lib.hid hg
  clear hE hE2 hC hc hg
  have hf0 := fl_field0
  cases q
  all_goals
    go_enter Tryd.func6, Tryd.ntmps6
    go_wp2_with (first
      | (go_at_call 21; refine (works_calls _).mono ?_; rintro e w0 ⟨rfl, hb0⟩; (have HB0 := Lib.hid hb0); clear hb0)
      | (go_at_call 17; refine (HE.out _ _).mono ?_; rintro e w1 ⟨b, rfl, hv, hb1⟩; (have HB1 := Lib.hid (HB0.out.trans (hb1.mono HB0.out.size))); (have HV := Lib.hid hv); clear hb1 hv)
      | (go_at_call 22; refine (HC.out _).mono ?_; rintro e w2 ⟨rfl, rfl⟩)
      | (go_at_call 10; refine (fault_calls _ _ _ _ (HandleMet.below HG.out HB1.out HG.out.pos) HV.out).mono ?_; rintro e w3 ⟨rfl, hb3⟩; (have HB3 := Lib.hid (HB1.out.trans (hb3.mono HB1.out.size))); clear hb3))
    go_ret
    exact ⟨rfl, HB3.out⟩
set_option maxRecDepth 100000 in
set_option maxHeartbeats 4000000 in
theorem back_good (w : World) (s A : ByteArray) (q : Bool) (way : Int) (least : Nat) (hw : (q = true ∧ way = 1 ∧ least = 32) ∨ (q = false ∧ way = 2 ∧ least = 33))
    (hE : ∀ w, Calls Tryd.prog 17 #[.string s, .int .i64 way] w fun e w' => e = .returned (.tuple #[.string A, .nilIface]) ∧ Below w.heap.size w w')
    (hU : ∀ w, Calls Tryd.prog 19 #[.string A, .int .i64 way] w fun e w' => e = .returned (.tuple #[.string s, .nilIface]) ∧ Below w.heap.size w w')
    (hC : ∀ w, Calls Tryd.prog 22 #[.string s] w fun e w' => e = .returned (.int .i64 (-1)) ∧ w = w')
    (hD : ∀ w, Calls Tryd.prog 22 #[.string A] w fun e w' => e = .returned (.int .i64 (-1)) ∧ w = w')
    (hsc : scanB A.data.toList 0 least = true) (hA : A.size ≤ 8000000) (hle : ((A.toList == s.toList) == ((A.size : Int) == (s.size : Int))) = true) :
    Calls Tryd.prog 6 #[.string s, .bool q] w fun e w' => e = .returned (.bool true) ∧ Below w.heap.size w w' := by
  have hll : A.data.toList.length = A.size := Lib.size_eq A
  have HE := Lib.hid hE
  have HU := Lib.hid hU
  have HC := Lib.hid hC
  have HD := Lib.hid hD
  have HS := Lib.hid hsc
  have HL := Lib.hid hle
  have HLL := Lib.hid hll
  clear hE hU hC hD hsc hle hll
  rcases hw with ⟨rfl, rfl, hlt⟩ | ⟨rfl, rfl, hlt⟩
  all_goals
    have HLT := Lib.hid hlt
    clear hlt
    go_enter Tryd.func6, Tryd.ntmps6
    go_wp2_with (first
      | (go_at_call 21; refine (works_calls _).mono ?_; rintro e w0 ⟨rfl, hb0⟩; (have HB0 := Lib.hid hb0); clear hb0)
      | (go_at_call 17; refine (HE.out _).mono ?_; rintro e w1 ⟨rfl, hb1⟩; (have HB1 := Lib.hid (HB0.out.trans (hb1.mono HB0.out.size))); clear hb1)
      | (go_at_call 19; refine (HU.out _).mono ?_; rintro e w1 ⟨rfl, hb1⟩; (have HB2 := Lib.hid (HB1.out.trans (hb1.mono HB1.out.size))); clear hb1)
      | (go_at_call 22; (with_reducible refine (HC.out _).mono ?_); rintro e w2 ⟨rfl, rfl⟩)
      | (go_at_call 22; (with_reducible refine (HD.out _).mono ?_); rintro e w2 ⟨rfl, rfl⟩))
    go_loop [11, 12] (fun sv iv => ∃ (i sl : Nat), iv = .int .i64 (i : Nat) ∧ sv = .int .i64 (sl : Nat) ∧ sl ≤ i ∧ i ≤ A.size ∧ scanB (A.data.toList.drop i) sl least = true) (fun _ iv => A.size - (intOf iv).toNat)
    case atStart => exact ⟨0, 0, rfl, rfl, Nat.zero_le _, Nat.zero_le _, HS.out⟩
    case round =>
      obtain ⟨i, sl, rfl, rfl, h1, h2, hsc⟩ := hrel
      by_cases hi : i < A.size
      · have hl : i < A.data.toList.length := by rw [HLL.out]; exact hi
        rw [List.drop_eq_getElem_cons hl] at hsc
        simp only [scanB] at hsc
        have hidx : A.data.toList[i] = A[i] := rfl
        rw [hidx] at hsc
        clear hidx
        obtain ⟨y, hy⟩ : ∃ y : Int, y = ((A[i]).toNat : Int) := ⟨_, rfl⟩
        split at hsc
        · exact absurd hsc (by decide)
        · rename_i hn
          have hyl := fun (h : y < (least : Int)) => hn (.inl (by omega))
          rw [HLT.out] at hyl
          have hyl := Int.not_lt.1 hyl
          simp at hyl
          have hyx := hy.symm
          have hm : y = 34 → sl % 2 = 1 := fun h => by
            by_cases h0 : sl % 2 = 0
            · exact absurd (.inr ⟨by omega, h0⟩) hn
            · omega
          have hif : (A[i]).toNat = 92 ↔ y = 92 := by omega
          have HY := Lib.hid hif
          have HSC := Lib.hid hsc
          have HM := Lib.hid hm
          clear hy hsc hif hm hn
          have hsm : sl ≤ 8000000 := by omega
          by_cases h34 : y = 34
          · have h92 : ¬ y = 92 := by omega
            have e3 : ((sl : Int) % 2 == 0) = false := by
              have := HM.out h34
              simp; omega
            go_wp2_with fail
            go_round
            case rel => exact ⟨i + 1, 0, by go_num, rfl, by omega, by omega, by have h := HSC.out; rw [if_neg (fun h => h92 (HY.out.1 h))] at h; exact h⟩
            case measure => simp [intOf]; omega
          · by_cases h92 : y = 92
            · subst h92
              go_wp2_with fail
              go_round
              case rel => exact ⟨i + 1, sl + 1, by go_num, by go_num, by omega, by omega, by have h := HSC.out; rw [if_pos (HY.out.2 rfl)] at h; exact h⟩
              case measure => simp [intOf]; omega
            · go_wp2_with fail
              go_round
              case rel => exact ⟨i + 1, 0, by go_num, rfl, by omega, by omega, by have h := HSC.out; rw [if_neg (fun h => h92 (HY.out.1 h))] at h; exact h⟩
              case measure => simp [intOf]; omega
      · have e4 := HL.out
        go_wp2_with fail
        go_ret
        exact ⟨rfl, HB2.out⟩
theorem utfback_up (w : World) (s : ByteArray) (hs : s.size ≤ 1048576) (q : Bool) (hg : HandleMet w) :
    Calls Tryd.prog 6 #[.string s, .bool q] w fun e w' => e = .returned (.bool true) ∧ Below w.heap.size w w' := by
  by_cases c0 : 0 ≤ chkF s.data.toList 0
  · exact back_bad w s hs q hg c0
  have hc : chkF s.data.toList 0 = -1 := by
    rcases chkF_val s.data.toList 0 (Int.le_refl _) with h | h
    · exact h
    · omega
  obtain ⟨way, least, hw, hv⟩ : ∃ (way : Int) (least : Nat), ((q = true ∧ way = 1 ∧ least = 32) ∨ (q = false ∧ way = 2 ∧ least = 33)) ∧ ((way = 1 ∧ least = 32) ∨ (way ≠ 1 ∧ least = 33)) := by
    cases q
    · exact ⟨2, 33, .inr ⟨rfl, rfl, rfl⟩, .inr ⟨by decide, rfl⟩⟩
    · exact ⟨1, 32, .inl ⟨rfl, rfl, rfl⟩, .inl ⟨rfl, rfl⟩⟩
  have hl : s.data.toList.length = s.size := Lib.size_eq s
  have hA := escF_len s.data.toList way
  have hAs : (⟨(escF s.data.toList way).toArray⟩ : ByteArray).size = (escF s.data.toList way).length := by simp [ByteArray.size]
  have hAl : (⟨(escF s.data.toList way).toArray⟩ : ByteArray).data.toList = escF s.data.toList way := by simp
  have hE := esc_len _ s.data.toList 0 way (Nat.le_refl _) (Int.le_refl _) hc
  refine back_good w s ⟨(escF s.data.toList way).toArray⟩ q way least hw (fun w => (uescape_calls s way w (by omega)).mono fun e w' ⟨_, h1, hb⟩ => ⟨h1 (by omega), hb⟩)
    (fun w => (uunescape_calls _ way w (by omega)).mono fun e w' h => ?_) (fun w => ?_) (fun w => ?_) ?_ (by omega) ?_
  · rw [hAl, un_esc _ s.data.toList 0 0 way (Nat.le_refl _) (Int.le_refl _) hc] at h
    obtain ⟨v, h1, h2, hb⟩ := h
    obtain rfl := h2.none
    exact ⟨h1, hb⟩
  · have h := check_calls s w (by omega)
    rw [hc] at h; exact h
  · have h := check_calls ⟨(escF s.data.toList way).toArray⟩ w (by omega)
    rw [hAl, chk_esc _ s.data.toList 0 0 way (Nat.le_refl _) (Int.le_refl _) hc] at h; exact h
  · rw [hAl]
    exact scan_esc way least hv _ s.data.toList 0 0 (Nat.le_refl _) (Int.le_refl _) hc rfl
  · rw [hAs, Lib.toList_data, Lib.toList_data]
    show ((escF s.data.toList way == s.data.toList) == _) = true
    by_cases h : (escF s.data.toList way).length = s.data.toList.length
    · rw [hE.2 h, hl]; simp
    · have h2 : escF s.data.toList way ≠ s.data.toList := fun he => h (by rw [he])
      have e1 : (escF s.data.toList way == s.data.toList) = false := beq_false_of_ne h2
      have e2 : (((escF s.data.toList way).length : Int) == (s.size : Int)) = false := beq_false_of_ne (by omega)
      rw [e1, e2]; rfl
end Go.Proofs.YthloijpnbljpeaaDoor
