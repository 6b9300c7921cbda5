/- IndexAny; upto. -/
import Derived.Test.YthdkhlkmcebfeaaIriChk
set_option linter.unusedVariables false
set_option linter.unusedSimpArgs false
namespace Go.Tk
open Go Go.RowKit
theorem indexByte_among : ∀ (l : List UInt8) (b : UInt8), decide (0 ≤ Lib.indexByte l b) = l.contains b
  | [], b => by simp [Lib.indexByte]
  | x :: l, b => by
    have ih := indexByte_among l b
    by_cases h : x = b
    · subst h; simp [Lib.indexByte]
    · have h' : ¬ b = x := fun e => h e.symm
      have e1 : Lib.indexByte (x :: l) b = if Lib.indexByte l b = -1 then -1 else Lib.indexByte l b + 1 := by simp [Lib.indexByte, h]
      rw [e1, List.contains_cons, show (b == x) = false by simpa using h', Bool.false_or, ← ih]
      by_cases h2 : Lib.indexByte l b = -1
      · rw [if_pos h2, h2]
      · rw [if_neg h2]
        have : -1 ≤ Lib.indexByte l b := by
          have : ∀ l : List UInt8, -1 ≤ Lib.indexByte l b := by
            intro l
            induction l with
            | nil => simp [Lib.indexByte]
            | cons y l ih =>
              by_cases hy : y = b
              · simp [Lib.indexByte, hy]
              · have e1 : Lib.indexByte (y :: l) b = if Lib.indexByte l b = -1 then -1 else Lib.indexByte l b + 1 := by simp [Lib.indexByte, hy]
                rw [e1]; split <;> omega
          exact this l
        by_cases h3 : 0 ≤ Lib.indexByte l b
        · rw [decide_eq_true h3, decide_eq_true (by omega)]
        · rw [decide_eq_false h3, decide_eq_false (by omega)]
theorem runeAt_byte (l : List UInt8) (b : UInt8) (h : b.toNat < 128) : decide (0 ≤ runeAt l (b.toNat : Int)) = l.contains b := by
  unfold runeAt
  rw [if_pos (by omega)]
  have : ((b.toNat : Int)).toNat.toUInt8 = b := by simp
  rw [this]
  exact indexByte_among l b
theorem runeAt_high (l : List UInt8) (r : Int) (h : 128 ≤ r) : runeAt l r = -1 := by unfold runeAt; rw [if_neg (by omega)]
/-- The place of the first of some signs; -1: there is none. -/
def anyI (signs l : List UInt8) : Int := if unt (among signs) l < l.length then ((unt (among signs) l : Nat) : Int) else -1
theorem unt_yes {q : UInt8 → Bool} {b : UInt8} {l : List UInt8} (h : q b = true) : unt q (b :: l) = 0 := by simp [unt, h]
theorem unt_no {q : UInt8 → Bool} {b : UInt8} {l : List UInt8} (h : q b = false) : unt q (b :: l) = unt q l + 1 := by simp [unt, h]
theorem anyI_yes {signs : List UInt8} {b : UInt8} {l : List UInt8} (h : among signs b = true) : anyI signs (b :: l) = 0 := by
  unfold anyI; rw [unt_yes h, if_pos (by simp)]; rfl
theorem anyI_no {signs : List UInt8} {b : UInt8} {l : List UInt8} (h : among signs b = false) : anyI signs (b :: l) = if anyI signs l == -1 then -1 else anyI signs l + 1 := by
  unfold anyI
  rw [unt_no h]
  by_cases h2 : unt (among signs) l < l.length
  · rw [if_pos h2, if_pos (by rw [List.length_cons]; omega)]
    have : ¬ (((unt (among signs) l : Nat) : Int) == -1) = true := by rw [beq_iff_eq]; omega
    rw [if_neg this]; omega
  · rw [if_neg h2, if_neg (by rw [List.length_cons]; omega)]; rfl
theorem indexAny_anyI (signs : List UInt8) : ∀ l : List UInt8, Lib.indexAny l signs = anyI signs l
  | [] => by simp [Lib.indexAny, anyI, unt]
  | b :: l => by
    have ih := indexAny_anyI signs l
    simp only [Lib.indexAny]
    cases h : signs.contains b with
    | true => rw [if_pos rfl, anyI_yes (show among signs b = true from h)]
    | false => rw [if_neg (by simp), ih, anyI_no (show among signs b = false from h)]
end Go.Tk
namespace Go.Proofs.Ythdkhlkmcebfeaa
open Go.RowKit Go.Tk
theorem useSet_calls (n : Nat) (w : World) : Calls Try.prog 93 #[.int .i64 (n : Nat)] w fun e w' => e = .returned (.bool (decide (8 < n))) ∧ w = w' := by
  go_enter Try.func93, Try.ntmps93
  go_wp2
  go_ret
  exact ⟨by simp; omega, rfl⟩
set_option maxHeartbeats 2000000 in
set_option maxRecDepth 100000 in
theorem indexAny_short (s signs : ByteArray) (w : World) (hs : s.size ≤ 8) (ha : Ascii signs) (h2 : 2 ≤ signs.size) (h3 : signs.size ≤ 3) :
    Calls Try.prog 82 #[.string s, .string signs] w fun e w' => e = .returned (.int .i64 (anyI signs.data.toList s.data.toList)) ∧ Below w.heap.size w w' := by
  obtain ⟨q, hq⟩ : ∃ q : UInt8 → Bool, q = among signs.data.toList := ⟨_, rfl⟩
  have hA : anyI signs.data.toList s.data.toList = if unt q s.data.toList < s.data.toList.length then ((unt q s.data.toList : Nat) : Int) else -1 := by rw [hq]; rfl
  have hne : signs.data.toList ≠ [] := by intro e; have := Lib.size_eq signs; rw [e, List.length_nil] at this; omega
  have e1 : signs.toList.isEmpty = false := by rw [Lib.toList_data]; simpa using hne
  have e2 : ((signs.size : Int) == 1) = false := by rw [beq_eq_false_iff_ne]; omega
  have e3 : decide (8 < s.size) = false := by simpa using hs
  have hus := fun w => useSet_calls s.size w
  rw [e3] at hus
  have hir := fun (r : Int) (w : World) (h0 : 0 ≤ r) (h1 : r ≤ 1114111) => indexRune_any signs r w ha h0 h1 (by omega)
  have HUS := Lib.hid hus
  have HIR := Lib.hid hir
  have HA := Lib.hid hA
  have HQ := Lib.hid hq
  obtain ⟨U, hU⟩ : ∃ U, U = unt q s.data.toList := ⟨_, rfl⟩
  have HU := Lib.hid hU
  clear hA hne hir hq hus hU
  go_enter Try.func82, Try.ntmps82
  go_wp2_with (go_at_call 93; refine (HUS.out _).mono ?_; rintro e w' ⟨rfl, rfl⟩)
  go_loopg [9, 10] s.size (fun gf _ _ wx => ∃ pos : Nat, wx.heap[w.heap.size]? = some (.stringIter s pos) ∧ Below w.heap.size w wx ∧ s.size ≤ pos + gf ∧ pos ≤ s.size ∧ pos + unt q (s.data.toList.drop pos) = U)
  case atStart => exact ⟨0, World.iter_heap w s 0, (Below.refl _ w).alloc (Nat.le_refl _) _, by omega, by omega, by rw [HU.out]; simp⟩
  case round =>
    obtain ⟨pos, hit, hbw, hfu, hpe, hun⟩ := hrel
    by_cases hps : pos < s.size
    · obtain ⟨g', rfl⟩ : ∃ g', gk = g' + 1 := ⟨gk - 1, by omega⟩
      have hnx : ∀ ty, (Instr.next (.pointer (some ⟨w.heap.size, 0, none⟩)) true ty).run Try.prog wr = _ := fun ty => Lib.run_next_any_at wr w.heap.size s pos ty hit hps
      have hd : s.data.toList.drop pos = s[pos] :: s.data.toList.drop (pos + 1) := List.drop_eq_getElem_cons (by rw [← Lib.size_eq]; exact hps)
      obtain ⟨bt, hbt⟩ : ∃ bt, bt = s[pos] := ⟨_, rfl⟩
      obtain ⟨R, hR⟩ : ∃ R, (Utf8.decode s pos).1 = R := ⟨_, rfl⟩
      obtain ⟨K, hK⟩ : ∃ K, (Utf8.decode s pos).2 = K := ⟨_, rfl⟩
      have hRb : (R : Int) ≤ 1114111 := by have := Lib.rune_le s pos; omega
      have hstep : (decide (0 ≤ runeAt signs.data.toList (R : Int)) = true ∧ U = pos) ∨ (decide (0 ≤ runeAt signs.data.toList (R : Int)) = false ∧ pos + K + unt q (s.data.toList.drop (pos + K)) = U ∧ 1 ≤ K ∧ pos + K ≤ s.size) := by
        by_cases hb : s[pos].toNat < 128
        · have hdec := dec_low_byte s pos hps hb
          rw [hdec] at hR hK
          simp only at hR hK
          subst hR
          subst hK
          rw [runeAt_byte _ _ hb]
          rw [hd] at hun
          cases hc : signs.data.toList.contains s[pos] with
          | true =>
            left
            rw [unt_yes (by rw [HQ.out]; exact hc)] at hun
            exact ⟨rfl, by omega⟩
          | false =>
            right
            rw [unt_no (by rw [HQ.out]; exact hc)] at hun
            exact ⟨rfl, by omega, by omega, by omega⟩
        · obtain ⟨h1, h2, h3, h4⟩ := dec_high_byte s pos hps (by omega)
          rw [hR] at h1
          rw [hK] at h2 h3 h4
          right
          refine ⟨by rw [runeAt_high _ _ (by omega)]; rfl, ?_, h2, h3⟩
          have hsk := unt_skip q (s.data.toList.drop pos) K (by rw [List.length_drop, ← Lib.size_eq]; omega) (fun b hb => by
            obtain ⟨j, hj, rfl⟩ := List.getElem_of_mem hb
            have hj' : j < K := by rw [List.length_take] at hj; omega
            rw [HQ.out]
            unfold among
            cases e : signs.data.toList.contains (((s.data.toList.drop pos).take K)[j])
            · rfl
            · have hlt := ha _ (by simpa using e)
              have h5 := h4 j hj' (by omega)
              have e9 : s[pos + j]'(by omega) = s.data[pos + j]'(by have : s.data.size = s.size := rfl
                                                                    omega) := rfl
              rw [e9] at h5
              omega)
          rw [hsk, List.drop_drop] at hun
          omega
      rw [hR, hK] at hnx
      have hit2 := Lib.iterAt_heap wr w.heap.size s pos (pos + K) hit
      have hbw2 := Lib.below_iterAt hbw (k := w.heap.size) (Nat.le_refl _) s (pos + K)
      obtain ⟨W, hWd⟩ : ∃ W, wr.iterAt w.heap.size s (pos + K) = W := ⟨_, rfl⟩
      rw [hWd] at hnx hit2 hbw2
      have hcall := fun w => HIR.out (R : Int) w (by omega) hRb
      obtain ⟨z, hz⟩ : ∃ z, z = runeAt signs.data.toList (R : Int) := ⟨_, rfl⟩
      rw [← hz] at hcall hstep
      have HC := Lib.hid hcall
      have hWl := World.block_lt_of_cell?
      have hwl : w.heap.size < W.heap.size := (Array.getElem?_eq_some_iff.1 hit2).1
      have HIT := Lib.hid hit2
      clear hcall hz hd hbt hR hK hWd hit hbw hit2 hun hWl
      rcases hstep with ⟨hz0, hU⟩ | ⟨hz0, hU, hK1, hK2⟩
      · have hfin : anyI signs.data.toList s.data.toList = (pos : Int) := by
          rw [HA.out, ← HU.out, hU, if_pos (by rw [← Lib.size_eq]; exact hps)]
        have HF := Lib.hid hfin
        clear hfin hU
        go_wp2_with (go_at_call 79; refine (HC.out _).mono ?_; rintro e w' ⟨rfl, hb3⟩)
        go_ret
        exact ⟨ret_int HF.out.symm, hbw2.trans (hb3.mono hbw2.size)⟩
      · have HU2 := Lib.hid hU
        clear hU
        go_wp2_with (go_at_call 79; refine (HC.out _).mono ?_; rintro e w' ⟨rfl, hb3⟩)
        go_roundg g'
        case measure => omega
        case rel => exact ⟨pos + K, (hb3.block _ hwl).trans HIT.out, hbw2.trans (hb3.mono hbw2.size), by omega, hK2, HU2.out⟩
    · have hnx : ∀ ty, (Instr.next (.pointer (some ⟨w.heap.size, 0, none⟩)) true ty).run Try.prog wr = _ := fun ty => Lib.run_next_end_at wr w.heap.size s pos ty hit hps
      have hfin : anyI signs.data.toList s.data.toList = -1 := by
        rw [HA.out, ← HU.out, if_neg (by rw [← Lib.size_eq]; omega)]
      have HF := Lib.hid hfin
      have HUN := Lib.hid hun
      clear hfin hun
      go_wp2_with fail
      go_ret
      exact ⟨ret_int HF.out.symm, hbw⟩
/-- IndexAny at the signs that the package asks for. -/
theorem indexAny_calls (s signs : ByteArray) (w : World) (hs : s.size < 4294967281) (ha : Ascii signs) (h1 : 1 ≤ signs.size) (h3 : signs.size ≤ 3) :
    Calls Try.prog 82 #[.string s, .string signs] w fun e w' => e = .returned (.int .i64 (anyI signs.data.toList s.data.toList)) ∧ Below w.heap.size w w' := by
  have hac : ∀ (j : Nat) b, signs.data.toList[j]? = some b → b.toNat < 128 := fun j b h => ha b (List.mem_of_getElem? h)
  by_cases h : signs.size = 1
  · rw [← indexAny_anyI]
    exact (Try.strings_IndexAny_one s signs w h hac).mono fun _ _ ⟨a, b⟩ => ⟨a, b ▸ Below.refl _ _⟩
  · by_cases h8 : s.size ≤ 8
    · exact indexAny_short s signs w h8 ha (by omega) h3
    · rw [← indexAny_anyI]
      exact (Try.strings_IndexAny_long (fun _ => by kernel_rfl) s signs w (by omega) (by omega) hs (by omega) hac).mono fun _ _ ⟨a, b⟩ => ⟨a, b ▸ ((Below.refl _ _).alloc (Nat.le_refl _) _).alloc (by simp) _⟩
theorem upto_calls (s signs : ByteArray) (w : World) (hs : s.size < 4294967281) (ha : Ascii signs) (h1 : 1 ≤ signs.size) (h3 : signs.size ≤ 3) :
    Calls Try.prog 67 #[.string s, .string signs] w fun e w' => e = .returned (.tuple #[.string ⟨(s.data.toList.take (unt (among signs.data.toList) s.data.toList)).toArray⟩, .string ⟨(s.data.toList.drop (unt (among signs.data.toList) s.data.toList)).toArray⟩]) ∧ Below w.heap.size w w' := by
  have hia := indexAny_calls s signs (hs := hs) (ha := ha) (h1 := h1) (h3 := h3)
  have hle := unt_le (among signs.data.toList) s.data.toList
  have hA : anyI signs.data.toList s.data.toList = if unt (among signs.data.toList) s.data.toList < s.data.toList.length then ((unt (among signs.data.toList) s.data.toList : Nat) : Int) else -1 := rfl
  obtain ⟨k, hk⟩ : ∃ k, k = unt (among signs.data.toList) s.data.toList := ⟨_, rfl⟩
  rw [← hk] at hA hle ⊢
  rw [← Lib.size_eq] at hA hle
  by_cases h : k < s.size
  · rw [hA, if_pos h] at hia
    have HIA := Lib.hid hia
    have ht := extract_take s k
    have hd := extract_drop s k
    have HT := Lib.hid ht
    have HD := Lib.hid hd
    clear hA hk hia ht hd
    go_enter Try.func67, Try.ntmps67
    go_wp2_with (go_at_call 82; refine (HIA.out _).mono ?_; rintro e w' ⟨rfl, hb⟩)
    go_quiet (fail)
    go_wp2_with fail
    go_ret2
    exact ⟨by rw [← HT.out, ← HD.out]; rfl, Go.Tk.below_drewN hb _⟩
  · have e : k = s.size := by omega
    rw [hA, if_neg h] at hia
    have HIA := Lib.hid hia
    have ht : (⟨(s.data.toList.take k).toArray⟩ : ByteArray) = s := by rw [List.take_of_length_le (by rw [← Lib.size_eq]; omega), Lib.mk_data]
    have hd : (⟨(s.data.toList.drop k).toArray⟩ : ByteArray) = { data := #[] } := by rw [List.drop_of_length_le (by rw [← Lib.size_eq]; omega)]
    rw [ht, hd]
    clear hA hk hia ht hd e h
    go_enter Try.func67, Try.ntmps67
    go_wp2_with (go_at_call 82; refine (HIA.out _).mono ?_; rintro e w' ⟨rfl, hb⟩)
    go_ret2
    exact ⟨rfl, hb⟩
end Go.Proofs.Ythdkhlkmcebfeaa
