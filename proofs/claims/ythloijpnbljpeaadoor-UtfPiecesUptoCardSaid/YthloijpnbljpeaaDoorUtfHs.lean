/- escape: the document's. -/
import Derived.Test.YthloijpnbljpeaaDoorUtfHr
set_option linter.unusedVariables false
set_option linter.unusedSimpArgs false
namespace Go.Proofs.YthloijpnbljpeaaDoor
open Go.RowKit Go.Tk
set_option maxRecDepth 100000 in
set_option maxHeartbeats 4000000 in
theorem resc_calls (s : ByteArray) (k : Nat) (way : Int) (w : World) (hs : s.size ≤ 8000000) (hk : k < s.size) :
    Calls Tryd.prog 37 #[.string s, .int .i64 (k : Nat), .int .i64 way] w fun e w' => e = .returned (.tuple #[.int .i64 (escI (s.data.toList.drop k) way).1, .int .i64 (escI (s.data.toList.drop k) way).2]) ∧ w = w' := by
  obtain ⟨l, hl⟩ : ∃ l, l = s.data.toList := ⟨_, rfl⟩
  have hll : l.length = s.size := by rw [hl, Lib.size_eq]
  have h4 := fun w => rnumber_calls s (k + 2) 4 w (by omega) (by omega) (by decide)
  have h8 := fun w => rnumber_calls s (k + 2) 8 w (by omega) (by omega) (by decide)
  have hge : ∀ i (h : i < s.size) (h' : i < l.length), s[i] = l[i] := fun i h h' => by subst hl; rfl
  rw [← hl] at h4 h8
  rw [← hl]
  clear hl
  by_cases h2 : s.size ≤ k + 1
  · have e : escI (l.drop k) way = (0, 0) := by
      have : (l.drop k).length ≤ 1 := by rw [List.length_drop]; omega
      match l.drop k, this with
      | [], _ => rfl
      | [_], _ => rfl
      | _ :: _ :: _, h => simp at h
    rw [e]
    clear h4 h8 hge e
    go_enter Tryd.func37, Tryd.ntmps37
    go_wp2
    go_ret2
    exact ⟨rfl, rfl⟩
  have hk1 : k + 1 < l.length := by omega
  obtain ⟨x, c, t, hlt, hcl, hdt⟩ : ∃ x c t, l.drop k = x :: c :: t ∧ l[k + 1] = c ∧ l.drop (k + 2) = t := by
    refine ⟨l[k]'(by omega), l[k + 1], l.drop (k + 2), ?_, rfl, rfl⟩
    rw [List.drop_eq_getElem_cons (by omega : k < l.length), List.drop_eq_getElem_cons hk1]
  rw [hlt]
  rw [hdt] at h4 h8
  have hc : s[k + 1]'(by omega) = c := (hge (k + 1) (by omega) hk1).trans hcl
  obtain ⟨y, hy⟩ : ∃ y : Int, y = (c.toNat : Int) := ⟨_, rfl⟩
  have hy0 : 0 ≤ y ∧ y < 256 := by have := UInt8.toNat_lt c; omega
  have hyx : ((s[k + 1]'(by omega)).toNat : Int) = y := by rw [hc, hy]
  have he : escI (x :: c :: t) way = if y = 117 then (if numI t 4 < 0 then (0, 0) else (numI t 4, 6)) else if y = 85 then (if numI t 8 < 0 then (0, 0) else (numI t 8, 10)) else if way = 1 ∧ 0 ≤ escL y then (escL y, 2) else (0, 0) := by
    rw [hy]
    show (if c.toNat = 117 then _ else _) = _
    have a1 : (c.toNat = 117) = ((c.toNat : Int) = 117) := by apply propext; omega
    have a2 : (c.toNat = 85) = ((c.toNat : Int) = 85) := by apply propext; omega
    simp only [a1, a2]
  obtain ⟨m4, hm4⟩ : ∃ m, m = numI t 4 := ⟨_, rfl⟩
  obtain ⟨m8, hm8⟩ : ∃ m, m = numI t 8 := ⟨_, rfl⟩
  rw [← hm4] at h4 he
  rw [← hm8] at h8 he
  have H4 := Lib.hid h4
  have H8 := Lib.hid h8
  have HE := Lib.hid he
  clear h4 h8 he hm4 hm8 hc hcl hy hge hlt hdt
  have f0 : ((((⟨#[116, 98, 110, 114, 102, 34, 39, 92]⟩ : ByteArray)[0]'(by decide)).toNat : Nat) : Int) = 116 := by decide +kernel
  have f1 : ((((⟨#[116, 98, 110, 114, 102, 34, 39, 92]⟩ : ByteArray)[1]'(by decide)).toNat : Nat) : Int) = 98 := by decide +kernel
  have f2 : ((((⟨#[116, 98, 110, 114, 102, 34, 39, 92]⟩ : ByteArray)[2]'(by decide)).toNat : Nat) : Int) = 110 := by decide +kernel
  have f3 : ((((⟨#[116, 98, 110, 114, 102, 34, 39, 92]⟩ : ByteArray)[3]'(by decide)).toNat : Nat) : Int) = 114 := by decide +kernel
  have f4 : ((((⟨#[116, 98, 110, 114, 102, 34, 39, 92]⟩ : ByteArray)[4]'(by decide)).toNat : Nat) : Int) = 102 := by decide +kernel
  have f5 : ((((⟨#[116, 98, 110, 114, 102, 34, 39, 92]⟩ : ByteArray)[5]'(by decide)).toNat : Nat) : Int) = 34 := by decide +kernel
  have f6 : ((((⟨#[116, 98, 110, 114, 102, 34, 39, 92]⟩ : ByteArray)[6]'(by decide)).toNat : Nat) : Int) = 39 := by decide +kernel
  have f7 : ((((⟨#[116, 98, 110, 114, 102, 34, 39, 92]⟩ : ByteArray)[7]'(by decide)).toNat : Nat) : Int) = 92 := by decide +kernel
  have g0 : wrap64 ((((⟨#[9, 8, 10, 13, 12, 34, 39, 92]⟩ : ByteArray)[0]'(by decide)).toNat : Nat) : Int) = 9 := by decide +kernel
  have g1 : wrap64 ((((⟨#[9, 8, 10, 13, 12, 34, 39, 92]⟩ : ByteArray)[1]'(by decide)).toNat : Nat) : Int) = 8 := by decide +kernel
  have g2 : wrap64 ((((⟨#[9, 8, 10, 13, 12, 34, 39, 92]⟩ : ByteArray)[2]'(by decide)).toNat : Nat) : Int) = 10 := by decide +kernel
  have g3 : wrap64 ((((⟨#[9, 8, 10, 13, 12, 34, 39, 92]⟩ : ByteArray)[3]'(by decide)).toNat : Nat) : Int) = 13 := by decide +kernel
  have g4 : wrap64 ((((⟨#[9, 8, 10, 13, 12, 34, 39, 92]⟩ : ByteArray)[4]'(by decide)).toNat : Nat) : Int) = 12 := by decide +kernel
  have g5 : wrap64 ((((⟨#[9, 8, 10, 13, 12, 34, 39, 92]⟩ : ByteArray)[5]'(by decide)).toNat : Nat) : Int) = 34 := by decide +kernel
  have g6 : wrap64 ((((⟨#[9, 8, 10, 13, 12, 34, 39, 92]⟩ : ByteArray)[6]'(by decide)).toNat : Nat) : Int) = 39 := by decide +kernel
  have g7 : wrap64 ((((⟨#[9, 8, 10, 13, 12, 34, 39, 92]⟩ : ByteArray)[7]'(by decide)).toNat : Nat) : Int) = 92 := by decide +kernel
  by_cases y1 : y = 117
  · have he := HE.out
    rw [if_pos y1] at he
    have HE1 := Lib.hid he
    clear he f0 f1 f2 f3 f4 f5 f6 f7 g0 g1 g2 g3 g4 g5 g6 g7
    subst y1
    by_cases n4 : m4 < 0
    · have HN := Lib.hid n4
      go_enter Tryd.func37, Tryd.ntmps37
      go_wp2_with (go_at_call 52; refine (H4.out _).mono ?_; rintro e w1 ⟨rfl, rfl⟩)
      go_ret2
      exact ⟨by rw [HE1.out, if_pos HN.out]; rfl, rfl⟩
    · have HN := Lib.hid n4
      go_enter Tryd.func37, Tryd.ntmps37
      go_wp2_with (go_at_call 52; refine (H4.out _).mono ?_; rintro e w1 ⟨rfl, rfl⟩)
      go_ret2
      exact ⟨by rw [HE1.out, if_neg (by have := HN.out; omega)]; rfl, rfl⟩
  by_cases y2 : y = 85
  · have he := HE.out
    rw [if_neg y1, if_pos y2] at he
    have HE1 := Lib.hid he
    clear he f0 f1 f2 f3 f4 f5 f6 f7 g0 g1 g2 g3 g4 g5 g6 g7
    subst y2
    by_cases n4 : m8 < 0
    · have HN := Lib.hid n4
      go_enter Tryd.func37, Tryd.ntmps37
      go_wp2_with (go_at_call 52; refine (H8.out _).mono ?_; rintro e w1 ⟨rfl, rfl⟩)
      go_ret2
      exact ⟨by rw [HE1.out, if_pos HN.out]; rfl, rfl⟩
    · have HN := Lib.hid n4
      go_enter Tryd.func37, Tryd.ntmps37
      go_wp2_with (go_at_call 52; refine (H8.out _).mono ?_; rintro e w1 ⟨rfl, rfl⟩)
      go_ret2
      exact ⟨by rw [HE1.out, if_neg (by have := HN.out; omega)]; rfl, rfl⟩
  have b1 : (y == 117) = false := beq_eq_false_iff_ne.2 y1
  have b2 : (y == 85) = false := beq_eq_false_iff_ne.2 y2
  have he := HE.out
  rw [if_neg y1, if_neg y2] at he
  by_cases hw : way = 1
  · subst hw
    by_cases c0 : y = 116 ∨ y = 98 ∨ y = 110 ∨ y = 114 ∨ y = 102 ∨ y = 34 ∨ y = 39 ∨ y = 92
    · rcases c0 with rfl | rfl | rfl | rfl | rfl | rfl | rfl | rfl
      all_goals (
        rw [if_pos ⟨rfl, by decide⟩] at he
        have HE1 := Lib.hid he
        clear he y1 y2 b1 b2
        go_enter Tryd.func37, Tryd.ntmps37
        go_wp2
        refine wp_loop_rounds 9 ?_
        repeat (rw [rounds_succ]; go_wp2)
        go_ret2
        refine ⟨ret_ii (k := .i64) (k' := .i64) (a := wrap64 _) (c := 2) ?_ ?_, rfl⟩
        · rw [HE1.out]; decide +kernel
        · rw [HE1.out]; rfl)
    · have hq : escL y = -1 := by unfold escL; repeat (rw [if_neg (by omega)])
      rw [if_neg (fun h => absurd h.2 (by omega))] at he
      have a0 : (116 == y) = false := beq_eq_false_iff_ne.2 (by omega)
      have a1 : (98 == y) = false := beq_eq_false_iff_ne.2 (by omega)
      have a2 : (110 == y) = false := beq_eq_false_iff_ne.2 (by omega)
      have a3 : (114 == y) = false := beq_eq_false_iff_ne.2 (by omega)
      have a4 : (102 == y) = false := beq_eq_false_iff_ne.2 (by omega)
      have a5 : (34 == y) = false := beq_eq_false_iff_ne.2 (by omega)
      have a6 : (39 == y) = false := beq_eq_false_iff_ne.2 (by omega)
      have a7 : (92 == y) = false := beq_eq_false_iff_ne.2 (by omega)
      have HE1 := Lib.hid he
      clear he y1 y2 c0 hq
      go_enter Tryd.func37, Tryd.ntmps37
      go_wp2
      refine wp_loop_rounds 9 ?_
      repeat (rw [rounds_succ]; go_wp2)
      go_ret2
      exact ⟨by rw [HE1.out]; rfl, rfl⟩
  · rw [if_neg (fun h => hw h.1)] at he
    have b3 : (way == 1) = false := beq_eq_false_iff_ne.2 hw
    have HE1 := Lib.hid he
    clear he y1 y2 hw
    go_enter Tryd.func37, Tryd.ntmps37
    go_wp2
    refine wp_loop_rounds 9 ?_
    repeat (rw [rounds_succ]; go_wp2)
    go_ret2
    exact ⟨by rw [HE1.out]; rfl, rfl⟩
end Go.Proofs.YthloijpnbljpeaaDoor
