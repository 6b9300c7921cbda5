/- number: the document's; escape: both. -/
import Derived.Test.YthloijpnbljpeaaUtfHx
import Derived.Test.YthloijpnbljpeaaShelf
set_option linter.unusedVariables false
set_option linter.unusedSimpArgs false
namespace Go.Tk
open Go Go.RowKit
/-- What a letter behind a backslash means. -/
def escL (c : Int) : Int := if c = 116 then 9 else if c = 98 then 8 else if c = 110 then 10 else if c = 114 then 13 else if c = 102 then 12 else if c = 34 then 34 else if c = 39 then 39 else if c = 92 then 92 else -1
/-- The scalar of an escape at a text's front, and how many bytes it has; 0: there is none. -/
def escI (l : List UInt8) (way : Int) : Int × Nat := match l with
  | _ :: c :: t =>
    if c.toNat = 117 then (if numI t 4 < 0 then (0, 0) else (numI t 4, 6))
    else if c.toNat = 85 then (if numI t 8 < 0 then (0, 0) else (numI t 8, 10))
    else if way = 1 ∧ 0 ≤ escL c.toNat then (escL c.toNat, 2) else (0, 0)
  | _ => (0, 0)
theorem idx_meant : ∀ c : Fin 256, (Lib.indexByte [116, 98, 110, 114, 102, 34, 39, 92] ((c.val : Int).toNat.toUInt8) < 0 ∧ escL (c.val : Int) = -1) ∨
    (0 ≤ Lib.indexByte [116, 98, 110, 114, 102, 34, 39, 92] ((c.val : Int).toNat.toUInt8) ∧ Lib.indexByte [116, 98, 110, 114, 102, 34, 39, 92] ((c.val : Int).toNat.toUInt8) < 8 ∧ 0 ≤ escL (c.val : Int) ∧ escL (c.val : Int) < 128 ∧
      (((⟨#[9, 8, 10, 13, 12, 34, 39, 92]⟩ : ByteArray).data.toList.getD (Lib.indexByte [116, 98, 110, 114, 102, 34, 39, 92] ((c.val : Int).toNat.toUInt8)).toNat 0).toNat : Int) = escL (c.val : Int)) := by decide +kernel
end Go.Tk
namespace Go.Proofs.Ythloijpnbljpeaa
open Go.RowKit Go.Tk
theorem extract_ds' (q : ByteArray) (n : Nat) : (q.extract n q.size).data.toList = q.data.toList.drop n := by
  rw [Lib.extract_data, List.take_of_length_le (by rw [List.length_drop, ← Lib.size_eq]; omega)]
set_option maxRecDepth 100000 in
set_option maxHeartbeats 4000000 in
theorem uesc_calls (s : ByteArray) (way : Int) (w : World) (hs : s.size ≤ 8000000) :
    Calls Try.prog 31 #[.string s, .int .i64 way] w fun e w' => e = .returned (.tuple #[.int .i32 (escI s.data.toList way).1, .int .i64 (escI s.data.toList way).2]) ∧ w = w' := by
  obtain ⟨l, hl⟩ : ∃ l, l = s.data.toList := ⟨_, rfl⟩
  have hll : l.length = s.size := by rw [hl, Lib.size_eq]
  have h4 := fun w => unumber_calls (s.extract 2 s.size) 4 w (by rw [Lib.size_eq, extract_ds']; simp; omega) (by decide)
  have h8 := fun w => unumber_calls (s.extract 2 s.size) 8 w (by rw [Lib.size_eq, extract_ds']; simp; omega) (by decide)
  have hge : ∀ i (h : i < s.size) (h' : i < l.length), s[i] = l[i] := fun i h h' => by subst hl; rfl
  rw [extract_ds', ← hl] at h4 h8
  rw [← hl]
  clear hl
  by_cases h2 : s.size < 2
  · have e : escI l way = (0, 0) := by
      match l, hll with
      | [], _ => rfl
      | [_], _ => rfl
      | _ :: _ :: _, h => simp at h; omega
    rw [e]
    clear h4 h8 hge hll e
    go_enter Try.func31, Try.ntmps31
    go_wp2
    go_ret2
    exact ⟨rfl, rfl⟩
  obtain ⟨x, c, t, rfl⟩ : ∃ x c t, l = x :: c :: t := by
    match l, hll with
    | [], h => simp at h; omega
    | [_], h => simp at h; omega
    | x :: c :: t, _ => exact ⟨x, c, t, rfl⟩
  have hc : s[1]'(by omega) = c := hge 1 (by omega) (by simp)
  obtain ⟨y, hy⟩ : ∃ y : Int, y = (c.toNat : Int) := ⟨_, rfl⟩
  have hy0 : 0 ≤ y ∧ y < 256 := by have := UInt8.toNat_lt c; omega
  have hyx : ((s[1]'(by omega)).toNat : Int) = y := by rw [hc, hy]
  have hd : (x :: c :: t).drop 2 = t := rfl
  rw [hd] at h4 h8
  have he : escI (x :: c :: t) way = if y = 117 then (if numI t 4 < 0 then (0, 0) else (numI t 4, 6)) else if y = 85 then (if numI t 8 < 0 then (0, 0) else (numI t 8, 10)) else if way = 1 ∧ 0 ≤ escL y then (escL y, 2) else (0, 0) := by
    rw [hy]
    show (if c.toNat = 117 then _ else _) = _
    have a1 : (c.toNat = 117) = ((c.toNat : Int) = 117) := by apply propext; omega
    have a2 : (c.toNat = 85) = ((c.toNat : Int) = 85) := by apply propext; omega
    simp only [a1, a2]
  have hix := fun w => Try.strings_IndexByte ⟨#[116, 98, 110, 114, 102, 34, 39, 92]⟩ y w
  have hm := idx_meant ⟨y.toNat, by omega⟩
  simp only [Int.toNat_of_nonneg hy0.1] at hm
  obtain ⟨xi, hxi⟩ : ∃ xi, xi = Lib.indexByte [116, 98, 110, 114, 102, 34, 39, 92] y.toNat.toUInt8 := ⟨_, rfl⟩
  rw [← hxi] at hm
  have hix' : ∀ w, Calls Try.prog 34 #[.string ⟨#[116, 98, 110, 114, 102, 34, 39, 92]⟩, .int .u8 y] w fun e w' => e = .returned (.int .i64 xi) ∧ w' = w := fun w => by rw [hxi]; exact hix w
  obtain ⟨r, hr⟩ : ∃ r, r = escL y := ⟨_, rfl⟩
  rw [← hr] at hm he
  obtain ⟨m4, hm4⟩ : ∃ m, m = numI t 4 := ⟨_, rfl⟩
  obtain ⟨m8, hm8⟩ : ∃ m, m = numI t 8 := ⟨_, rfl⟩
  rw [← hm4] at h4 he
  rw [← hm8] at h8 he
  have H4 := Lib.hid h4
  have H8 := Lib.hid h8
  have HIX := Lib.hid hix'
  have HE := Lib.hid he
  have HM := Lib.hid hm
  have HS1 := Lib.hid (show 1 < s.size by omega)
  clear h4 h8 hix hix' he hm hxi hr hm4 hm8 hc hy hge hd
  by_cases y1 : y = 117
  · have he := HE.out
    rw [if_pos y1] at he
    have HE1 := Lib.hid he
    clear he
    subst y1
    by_cases n4 : 0 ≤ m4
    · have e1 : decide (0 ≤ m4) = true := decide_eq_true n4
      have HN := Lib.hid n4
      clear n4
      go_enter Try.func31, Try.ntmps31
      go_wp2_with (go_at_call 36; refine (H4.out _).mono ?_; rw [e1]; rintro e w1 ⟨⟨v, rfl, hv⟩, rfl⟩; (have HV := Lib.hid (hv HN.out)); clear hv)
      go_ret2
      exact ⟨by rw [HE1.out, if_neg (by have := HN.out; omega), ← HV.out]; rfl, rfl⟩
    · have e1 : decide (0 ≤ m4) = false := decide_eq_false n4
      have HN := Lib.hid n4
      clear n4
      go_enter Try.func31, Try.ntmps31
      go_wp2_with (go_at_call 36; refine (H4.out _).mono ?_; rw [e1]; rintro e w1 ⟨⟨v, rfl, hv⟩, rfl⟩; clear hv)
      go_ret2
      exact ⟨by rw [HE1.out, if_pos (by have := HN.out; omega)]; rfl, rfl⟩
  by_cases y2 : y = 85
  · have he := HE.out
    rw [if_neg y1, if_pos y2] at he
    have HE1 := Lib.hid he
    clear he
    subst y2
    by_cases n4 : 0 ≤ m8
    · have e1 : decide (0 ≤ m8) = true := decide_eq_true n4
      have HN := Lib.hid n4
      clear n4
      go_enter Try.func31, Try.ntmps31
      go_wp2_with (go_at_call 36; refine (H8.out _).mono ?_; rw [e1]; rintro e w1 ⟨⟨v, rfl, hv⟩, rfl⟩; (have HV := Lib.hid (hv HN.out)); clear hv)
      go_ret2
      exact ⟨by rw [HE1.out, if_neg (by have := HN.out; omega), ← HV.out]; rfl, rfl⟩
    · have e1 : decide (0 ≤ m8) = false := decide_eq_false n4
      have HN := Lib.hid n4
      clear n4
      go_enter Try.func31, Try.ntmps31
      go_wp2_with (go_at_call 36; refine (H8.out _).mono ?_; rw [e1]; rintro e w1 ⟨⟨v, rfl, hv⟩, rfl⟩; clear hv)
      go_ret2
      exact ⟨by rw [HE1.out, if_pos (by have := HN.out; omega)]; rfl, rfl⟩
  · have b1 : (y == 117) = false := beq_eq_false_iff_ne.2 y1
    have b2 : (y == 85) = false := beq_eq_false_iff_ne.2 y2
    have he := HE.out
    rw [if_neg y1, if_neg y2] at he
    rcases HM.out with ⟨i1, i2⟩ | ⟨i1, i2, i3, i4, i5⟩
    · rw [if_neg (fun h => absurd h.2 (by omega))] at he
      have HE1 := Lib.hid he
      clear he y1 y2 i2
      go_enter Try.func31, Try.ntmps31
      go_wp2_with (go_at_call 34; refine (HIX.out _).mono ?_; rintro e w1 ⟨rfl, rfl⟩)
      go_ret2
      exact ⟨by rw [HE1.out]; rfl, rfl⟩
    · by_cases hw : way = 1
      · rw [if_pos ⟨hw, i3⟩] at he
        have HE1 := Lib.hid he
        have hv : ∀ h, ((((⟨#[9, 8, 10, 13, 12, 34, 39, 92]⟩ : ByteArray)[xi.toNat]'h).toNat : Nat) : Int) = r := fun h => by
          rw [← i5]
          have h' : xi.toNat < (⟨#[9, 8, 10, 13, 12, 34, 39, 92]⟩ : ByteArray).data.toList.length := h
          rw [List.getD_eq_getElem?_getD, List.getElem?_eq_getElem h']
          rfl
        subst hw
        clear he y1 y2 i5
        go_enter Try.func31, Try.ntmps31
        go_wp2_with (go_at_call 34; refine (HIX.out _).mono ?_; rintro e w1 ⟨rfl, rfl⟩)
        go_ret2
        exact ⟨by rw [HE1.out]; rfl, rfl⟩
      · rw [if_neg (fun h => hw h.1)] at he
        have HE1 := Lib.hid he
        have b3 : (way == 1) = false := beq_eq_false_iff_ne.2 hw
        clear he y1 y2 i5
        go_enter Try.func31, Try.ntmps31
        go_wp2_with (go_at_call 34; refine (HIX.out _).mono ?_; rintro e w1 ⟨rfl, rfl⟩)
        go_ret2
        exact ⟨by rw [HE1.out]; rfl, rfl⟩
end Go.Proofs.Ythloijpnbljpeaa
