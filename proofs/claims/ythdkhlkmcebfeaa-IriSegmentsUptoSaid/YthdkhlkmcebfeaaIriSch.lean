/- scheme, Reference, Check: the program's and the document's. -/
import Derived.Test.YthdkhlkmcebfeaaIriIdx
import Derived.Test.YthdkhlkmcebfeaaReg
set_option linter.unusedVariables false
set_option linter.unusedSimpArgs false
namespace Go.Tk
open Go Go.RowKit
/-- A letter; a sign that may stand in a scheme behind its first letter. -/
def isL (x : Int) : Bool := decide (97 ≤ x ∧ x ≤ 122) || decide (65 ≤ x ∧ x ≤ 90)
def isD (x : Int) : Bool := decide (48 ≤ x ∧ x ≤ 57)
def isM (x : Int) : Bool := isD x || x == 43 || x == 45 || x == 46
/-- How long the scheme is with which a text begins; i bytes are ahead. -/
def schF : List UInt8 → Nat → Nat
  | [], _ => 0
  | b :: t, i => if b.toNat = 58 then i else if isL b.toNat || (i != 0 && isM b.toNat) then schF t (i + 1) else 0
def sch (l : List UInt8) : Nat := schF l 0
theorem schF_le : ∀ (l : List UInt8) (i : Nat), schF l i ≤ i + l.length
  | [], _ => Nat.zero_le _
  | b :: t, i => by
    have := schF_le t (i + 1)
    simp only [schF]
    split
    · simp
    split
    · simp; omega
    · omega
theorem sch_le (l : List UInt8) : sch l ≤ l.length := by have := schF_le l 0; unfold sch; omega
theorem schF_colon {b : UInt8} {t : List UInt8} {i : Nat} (h : (b.toNat : Int) = 58) : schF (b :: t) i = i := by simp only [schF]; rw [if_pos (by omega)]
theorem schF_on {b : UInt8} {t : List UInt8} {i : Nat} (h : (b.toNat : Int) ≠ 58) (h2 : (isL b.toNat || (i != 0 && isM b.toNat)) = true) : schF (b :: t) i = schF t (i + 1) := by simp only [schF]; rw [if_neg (by omega), if_pos h2]
theorem schF_off {b : UInt8} {t : List UInt8} {i : Nat} (h : (b.toNat : Int) ≠ 58) (h2 : (isL b.toNat || (i != 0 && isM b.toNat)) = false) : schF (b :: t) i = 0 := by simp only [schF]; rw [if_neg (by omega), if_neg (by simp [h2])]
theorem isL_yes {x : Int} (h : 97 ≤ x ∧ x ≤ 122 ∨ 65 ≤ x ∧ x ≤ 90) : isL x = true := by unfold isL; rcases h with h | h <;> simp [h]
theorem isL_no {x : Int} (h : ¬ (97 ≤ x ∧ x ≤ 122 ∨ 65 ≤ x ∧ x ≤ 90)) : isL x = false := by
  unfold isL
  have h1 : ¬ (97 ≤ x ∧ x ≤ 122) := fun e => h (.inl e)
  have h2 : ¬ (65 ≤ x ∧ x ≤ 90) := fun e => h (.inr e)
  rw [decide_eq_false h1, decide_eq_false h2]; rfl
theorem isM_yes {x : Int} (h : 48 ≤ x ∧ x ≤ 57 ∨ x = 43 ∨ x = 45 ∨ x = 46) : isM x = true := by
  unfold isM isD
  rcases h with h | h | h | h <;> simp [h]
theorem isM_no {x : Int} (h : ¬ (48 ≤ x ∧ x ≤ 57 ∨ x = 43 ∨ x = 45 ∨ x = 46)) : isM x = false := by
  unfold isM isD
  have h1 : ¬ (48 ≤ x ∧ x ≤ 57) := fun e => h (.inl e)
  rw [decide_eq_false h1]
  have h2 : (x == 43) = false := by rw [beq_eq_false_iff_ne]; omega
  have h3 : (x == 45) = false := by rw [beq_eq_false_iff_ne]; omega
  have h4 : (x == 46) = false := by rw [beq_eq_false_iff_ne]; omega
  rw [h2, h3, h4]; rfl
theorem extract_take (s : ByteArray) (n : Nat) : s.extract 0 n = ⟨(s.data.toList.take n).toArray⟩ := by
  rw [Lib.extract_eq]; simp
theorem extract_drop (s : ByteArray) (n : Nat) : s.extract n s.size = ⟨(s.data.toList.drop n).toArray⟩ := by
  rw [Lib.extract_eq, List.take_of_length_le (by rw [List.length_drop, ← Lib.size_eq]; omega)]
theorem ret_str {a b : ByteArray} (h : a = b) : Ending.returned (.string a) = .returned (.string b) := by rw [h]
end Go.Tk
namespace Go.Proofs.Ythdkhlkmcebfeaa
open Go.RowKit Go.Tk
set_option maxHeartbeats 2000000 in
set_option maxRecDepth 100000 in
theorem scheme_calls (s : ByteArray) (w : World) (hs : s.size ≤ 9223372036854770000) :
    Calls Try.prog 46 #[.string s] w fun e w' => e = .returned (.string ⟨(s.data.toList.take (sch s.data.toList)).toArray⟩) ∧ Below w.heap.size w w' := by
  obtain ⟨N, hN⟩ : ∃ N, N = sch s.data.toList := ⟨_, rfl⟩
  rw [← hN]
  have HN := Lib.hid hN
  have hemp : N = 0 → Ending.returned (.string { data := #[] }) = .returned (.string ⟨(s.data.toList.take N).toArray⟩) := fun h => by rw [h]; rfl
  have HEMP := Lib.hid hemp
  clear hN hemp
  go_enter Try.func46, Try.ntmps46
  go_wp2_with fail
  go_loopg [3, 4] s.size (fun gf _ _ wx => ∃ pos : Nat, wx.heap[w.heap.size]? = some (.stringIter s pos) ∧ Below w.heap.size w wx ∧ pos + gf = s.size ∧ schF (s.data.toList.drop pos) pos = N)
  case atStart => exact ⟨0, World.iter_heap w s 0, (Below.refl _ w).alloc (Nat.le_refl _) _, by omega, by rw [HN.out]; rfl⟩
  case round =>
    obtain ⟨pos, hit, hbw, hfu, hsc⟩ := hrel
    by_cases hps : pos < s.size
    · obtain ⟨g', rfl⟩ : ∃ g', gk = g' + 1 := ⟨gk - 1, by omega⟩
      have hnx : ∀ ty, (Instr.next (.pointer (some ⟨w.heap.size, 0, none⟩)) true ty).run Try.prog wr = _ := fun ty => Lib.run_next_any_at wr w.heap.size s pos ty hit hps
      have hd : s.data.toList.drop pos = s[pos] :: s.data.toList.drop (pos + 1) := List.drop_eq_getElem_cons (by rw [← Lib.size_eq]; exact hps)
      rw [hd] at hsc
      clear hd
      by_cases hb : s[pos].toNat < 128
      · rw [dec_low_byte s pos hps hb] at hnx
        have hit2 := Lib.iterAt_heap wr w.heap.size s pos (pos + 1) hit
        have hbw2 := Lib.below_iterAt hbw (k := w.heap.size) (Nat.le_refl _) s (pos + 1)
        obtain ⟨W, hWd⟩ : ∃ W, wr.iterAt w.heap.size s (pos + 1) = W := ⟨_, rfl⟩
        rw [hWd] at hnx hit2 hbw2
        obtain ⟨R, hR⟩ : ∃ R : Nat, s[pos].toNat = R := ⟨_, rfl⟩
        rw [hR] at hnx hb
        obtain ⟨bt, hbt⟩ : ∃ bt, bt = s[pos] := ⟨_, rfl⟩
        rw [← hbt] at hR hsc
        have hon := fun (h : (bt.toNat : Int) ≠ 58) (h2 : (isL bt.toNat || (pos != 0 && isM bt.toNat)) = true) => (schF_on (b := bt) (t := s.data.toList.drop (pos + 1)) (i := pos) h h2).symm.trans hsc
        have hoff := fun (h : (bt.toNat : Int) ≠ 58) (h2 : (isL bt.toNat || (pos != 0 && isM bt.toNat)) = false) => (schF_off (b := bt) (t := s.data.toList.drop (pos + 1)) (i := pos) h h2).symm.trans hsc
        have hcol := fun (h : (bt.toNat : Int) = 58) => (schF_colon (b := bt) (t := s.data.toList.drop (pos + 1)) (i := pos) h).symm.trans hsc
        rw [hR] at hon hoff hcol
        have HON := Lib.hid hon
        have HOFF := Lib.hid hoff
        have HCOL := Lib.hid hcol
        have HFU := Lib.hid hfu
        clear hon hoff hcol hR hWd hsc hit hbw hfu hbt
        by_cases c1 : 97 ≤ R ∧ R ≤ 122
        · obtain ⟨c1a, c1b⟩ := c1
          have hfin : schF (s.data.toList.drop (pos + 1)) (pos + 1) = N := HON.out (by omega) (by rw [isL_yes (by omega)]; rfl)
          have HF := Lib.hid hfin
          clear hfin
          go_wp2_with fail
          go_roundg g'
          case measure => omega
          case rel => exact ⟨pos + 1, hit2, hbw2, by have := HFU.out; omega, HF.out⟩
        by_cases c2 : 65 ≤ R ∧ R ≤ 90
        · obtain ⟨c2a, c2b⟩ := c2
          have hfin : schF (s.data.toList.drop (pos + 1)) (pos + 1) = N := HON.out (by omega) (by rw [isL_yes (by omega)]; rfl)
          have HF := Lib.hid hfin
          clear hfin
          go_wp2_with fail
          go_roundg g'
          case measure => omega
          case rel => exact ⟨pos + 1, hit2, hbw2, by have := HFU.out; omega, HF.out⟩
        have nl : isL (R : Int) = false := isL_no (by omega)
        have NL := Lib.hid nl
        clear nl
        by_cases c0 : pos = 0
        · subst c0
          by_cases c3 : R = 58
          · have hfin := HEMP.out (HCOL.out (by omega)).symm
            have HF := Lib.hid hfin
            have e58 : ((R : Int) == 58) = true := by rw [beq_iff_eq]; omega
            clear hfin
            go_wp2_with fail
            all_goals go_ret
            all_goals exact ⟨HF.out, hbw2⟩
          · have e58 : ((R : Int) == 58) = false := by rw [beq_eq_false_iff_ne]; omega
            have hfin := HEMP.out (HOFF.out (by omega) (by rw [NL.out]; rfl)).symm
            have HF := Lib.hid hfin
            clear hfin
            go_wp2_with fail
            all_goals go_ret
            all_goals exact ⟨HF.out, hbw2⟩
        have p0 : 0 < pos := by omega
        have n0 : ((pos : Int) == 0) = false := by rw [beq_eq_false_iff_ne]; omega
        have b0 : (pos != 0) = true := by rw [bne_iff_ne]; omega
        by_cases c3 : R = 58
        · have hfin := HCOL.out (by omega)
          have HF := Lib.hid hfin
          have e58 : ((R : Int) == 58) = true := by rw [beq_iff_eq]; omega
          clear hfin
          go_wp2_with fail
          go_ret
          exact ⟨ret_str (by rw [← HF.out, extract_take]), hbw2⟩
        have e58 : ((R : Int) == 58) = false := by rw [beq_eq_false_iff_ne]; omega
        by_cases c4 : 48 ≤ R ∧ R ≤ 57
        · obtain ⟨c4a, c4b⟩ := c4
          have hfin : schF (s.data.toList.drop (pos + 1)) (pos + 1) = N := HON.out (by omega) (by rw [NL.out, b0, isM_yes (by omega)]; rfl)
          have HF := Lib.hid hfin
          clear hfin
          go_wp2_with fail
          go_roundg g'
          case measure => omega
          case rel => exact ⟨pos + 1, hit2, hbw2, by have := HFU.out; omega, HF.out⟩
        by_cases d43 : R = 43
        · have n43 : ((R : Int) != 43) = false := by rw [bne_eq_false_iff_eq]; omega
          have n45 : ((R : Int) != 45) = true := by rw [bne_iff_ne]; omega
          have n46 : ((R : Int) != 46) = true := by rw [bne_iff_ne]; omega
          have hfin : schF (s.data.toList.drop (pos + 1)) (pos + 1) = N := HON.out (by omega) (by rw [NL.out, b0, isM_yes (by omega)]; rfl)
          have HF := Lib.hid hfin
          clear hfin
          go_wp2_with fail
          go_roundg g'
          case measure => omega
          case rel => exact ⟨pos + 1, hit2, hbw2, by have := HFU.out; omega, HF.out⟩
        have n43 : ((R : Int) != 43) = true := by rw [bne_iff_ne]; omega
        by_cases d45 : R = 45
        · have n45 : ((R : Int) != 45) = false := by rw [bne_eq_false_iff_eq]; omega
          have n46 : ((R : Int) != 46) = true := by rw [bne_iff_ne]; omega
          have hfin : schF (s.data.toList.drop (pos + 1)) (pos + 1) = N := HON.out (by omega) (by rw [NL.out, b0, isM_yes (by omega)]; rfl)
          have HF := Lib.hid hfin
          clear hfin
          go_wp2_with fail
          go_roundg g'
          case measure => omega
          case rel => exact ⟨pos + 1, hit2, hbw2, by have := HFU.out; omega, HF.out⟩
        have n45 : ((R : Int) != 45) = true := by rw [bne_iff_ne]; omega
        by_cases d46 : R = 46
        · have n46 : ((R : Int) != 46) = false := by rw [bne_eq_false_iff_eq]; omega
          have hfin : schF (s.data.toList.drop (pos + 1)) (pos + 1) = N := HON.out (by omega) (by rw [NL.out, b0, isM_yes (by omega)]; rfl)
          have HF := Lib.hid hfin
          clear hfin
          go_wp2_with fail
          go_roundg g'
          case measure => omega
          case rel => exact ⟨pos + 1, hit2, hbw2, by have := HFU.out; omega, HF.out⟩
        have n46 : ((R : Int) != 46) = true := by rw [bne_iff_ne]; omega
        have nm : isM (R : Int) = false := isM_no (by omega)
        have NM := Lib.hid nm
        clear nm
        by_cases d1 : R < 48
        · have hfin := HEMP.out (HOFF.out (by omega) (by rw [NL.out, b0, NM.out]; rfl)).symm
          have HF := Lib.hid hfin
          clear hfin
          go_wp2_with fail
          all_goals go_ret
          all_goals exact ⟨HF.out, hbw2⟩
        · have d2 : 57 < R := by omega
          have hfin := HEMP.out (HOFF.out (by omega) (by rw [NL.out, b0, NM.out]; rfl)).symm
          have HF := Lib.hid hfin
          clear hfin
          go_wp2_with fail
          all_goals go_ret
          all_goals exact ⟨HF.out, hbw2⟩
      · obtain ⟨h1, h2, h3, h4⟩ := dec_high_byte s pos hps (by omega)
        obtain ⟨R, hR⟩ : ∃ R, (Utf8.decode s pos).1 = R := ⟨_, rfl⟩
        obtain ⟨K, hK⟩ : ∃ K, (Utf8.decode s pos).2 = K := ⟨_, rfl⟩
        rw [hR, hK] at hnx
        rw [hR] at h1
        have hbw2 := Lib.below_iterAt hbw (k := w.heap.size) (Nat.le_refl _) s (pos + K)
        obtain ⟨W, hWd⟩ : ∃ W, wr.iterAt w.heap.size s (pos + K) = W := ⟨_, rfl⟩
        rw [hWd] at hnx hbw2
        have hfin := HEMP.out ((schF_off (b := s[pos]) (t := s.data.toList.drop (pos + 1)) (i := pos) (by omega) (by rw [isL_no (by omega), isM_no (by omega)]; simp)).symm.trans hsc).symm
        have HF := Lib.hid hfin
        have e58 : ((R : Int) == 58) = false := by rw [beq_eq_false_iff_ne]; omega
        clear hfin hsc hR hK hWd h2 h3 h4 hit hbw
        by_cases c0 : pos = 0
        · subst c0
          go_wp2_with fail
          all_goals go_ret
          all_goals exact ⟨HF.out, hbw2⟩
        · have p0 : 0 < pos := by omega
          have n43 : ((R : Int) != 43) = true := by rw [bne_iff_ne]; omega
          have n45 : ((R : Int) != 45) = true := by rw [bne_iff_ne]; omega
          have n46 : ((R : Int) != 46) = true := by rw [bne_iff_ne]; omega
          have n0 : ((pos : Int) == 0) = false := by rw [beq_eq_false_iff_ne]; omega
          go_wp2_with fail
          all_goals go_ret
          all_goals exact ⟨HF.out, hbw2⟩
    · have hnx : ∀ ty, (Instr.next (.pointer (some ⟨w.heap.size, 0, none⟩)) true ty).run Try.prog wr = _ := fun ty => Lib.run_next_end_at wr w.heap.size s pos ty hit hps
      have hfin := HEMP.out (by rw [← hsc, List.drop_of_length_le (by rw [← Lib.size_eq]; omega)]; rfl)
      have HF := Lib.hid hfin
      clear hfin hsc
      go_wp2_with fail
      go_ret
      exact ⟨HF.out, hbw⟩
end Go.Proofs.Ythdkhlkmcebfeaa
