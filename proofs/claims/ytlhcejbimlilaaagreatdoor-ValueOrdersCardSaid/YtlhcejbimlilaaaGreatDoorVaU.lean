/- IndexAny of some ASCII signs in any text (parts of IriIdx, IriUp). -/
import Derived.Test.YtlhcejbimlilaaaGreatDoorIriRune
import Derived.Test.YtlhcejbimlilaaaGreatDoorIriU
import Derived.Lib.TrimU
set_option linter.unusedVariables false
set_option linter.unusedSimpArgs false
namespace Go.Tk
open Go Go.RowKit
theorem dec_high_byte (s : ByteArray) (pos : Nat) (h : pos < s.size) (hb : 128 ≤ s[pos].toNat) :
    128 ≤ (Utf8.decode s pos).1 ∧ 1 ≤ (Utf8.decode s pos).2 ∧ pos + (Utf8.decode s pos).2 ≤ s.size ∧ ∀ j, (hj : j < (Utf8.decode s pos).2) → (h' : pos + j < s.size) → 128 ≤ s[pos + j].toNat := by
  have hc : ∀ k, (pos + k < s.size && (s.get! (pos + k)).toNat / 64 == 2) = true → ∃ h : pos + k < s.size, 128 ≤ s[pos + k].toNat := by
    intro k hk
    simp only [Bool.and_eq_true, decide_eq_true_eq, beq_iff_eq] at hk
    obtain ⟨h1, h2⟩ := hk
    refine ⟨h1, ?_⟩
    rw [get!_lt h1] at h2
    omega
  have one : ∀ j, j < 1 → (h' : pos + j < s.size) → 128 ≤ s[pos + j].toNat := fun j hj h' => by
    obtain rfl : j = 0 := by omega
    exact hb
  unfold Utf8.decode
  simp only [Nat.add_zero, get!_lt h]
  rw [if_neg (by omega)]
  split
  · rename_i c1
    simp only [Bool.and_eq_true] at c1
    obtain ⟨k1, g1⟩ := hc 1 (by simpa using c1.2)
    split
    · refine ⟨by simpa using (by assumption : _ ≥ 0x80), by simp, by simp; omega, fun j hj h' => ?_⟩
      obtain rfl | rfl : j = 0 ∨ j = 1 := by simp at hj; omega
      · exact hb
      · exact g1
    · exact ⟨by simp [Utf8.runeError], by simp, by simp; omega, fun j hj h' => one j hj h'⟩
  split
  · rename_i c1
    simp only [Bool.and_eq_true] at c1
    obtain ⟨k1, g1⟩ := hc 1 (by simpa using c1.1.2)
    obtain ⟨k2, g2⟩ := hc 2 (by simpa using c1.2)
    split
    · rename_i c2
      simp only [Bool.and_eq_true, decide_eq_true_eq] at c2
      refine ⟨by have := c2.1; simp at this ⊢; omega, by simp, by simp; omega, fun j hj h' => ?_⟩
      obtain rfl | rfl | rfl : j = 0 ∨ j = 1 ∨ j = 2 := by simp at hj; omega
      · exact hb
      · exact g1
      · exact g2
    · exact ⟨by simp [Utf8.runeError], by simp, by simp; omega, fun j hj h' => one j hj h'⟩
  split
  · rename_i c1
    simp only [Bool.and_eq_true] at c1
    obtain ⟨k1, g1⟩ := hc 1 (by simpa using c1.1.1.2)
    obtain ⟨k2, g2⟩ := hc 2 (by simpa using c1.1.2)
    obtain ⟨k3, g3⟩ := hc 3 (by simpa using c1.2)
    split
    · rename_i c2
      simp only [Bool.and_eq_true, decide_eq_true_eq] at c2
      refine ⟨by have := c2.1; simp at this ⊢; omega, by simp, by simp; omega, fun j hj h' => ?_⟩
      obtain rfl | rfl | rfl | rfl : j = 0 ∨ j = 1 ∨ j = 2 ∨ j = 3 := by simp at hj; omega
      · exact hb
      · exact g1
      · exact g2
      · exact g3
    · exact ⟨by simp [Utf8.runeError], by simp, by simp; omega, fun j hj h' => one j hj h'⟩
  · exact ⟨by simp [Utf8.runeError], by simp, by simp; omega, fun j hj h' => one j hj h'⟩
theorem unt_skip (q : UInt8 → Bool) : ∀ (l : List UInt8) (k : Nat), k ≤ l.length → (∀ b ∈ l.take k, q b = false) → unt q l = k + unt q (l.drop k)
  | l, 0, _, _ => by simp
  | [], k + 1, h, _ => by simp at h
  | b :: l, k + 1, h, hn => by
    have hb : q b = false := hn b (by simp)
    simp only [unt, List.drop_succ_cons]
    rw [if_neg (by simp [hb]), unt_skip q l k (by simpa using h) (fun x hx => hn x (by simp [hx]))]
    omega
/-- As IndexFunc looks at runes, so one looks at bytes, if what is looked for is ASCII. -/
theorem indexByte_among : ∀ (l : List UInt8) (b : UInt8), decide (0 ≤ Lib.indexByte l b) = l.contains b
  | [], b => by simp [Lib.indexByte]
  | x :: l, b => by
    have ih := indexByte_among l b
    by_cases h : x = b
    · subst h; simp [Lib.indexByte]
    · have h' : ¬ b = x := fun e => h e.symm
      have e1 : Lib.indexByte (x :: l) b = if Lib.indexByte l b = -1 then -1 else Lib.indexByte l b + 1 := by simp [Lib.indexByte, h]
      rw [e1, List.contains_cons, show (b == x) = false by simpa using h', Bool.false_or, ← ih]
      by_cases h2 : Lib.indexByte l b = -1
      · rw [if_pos h2, h2]
      · rw [if_neg h2]
        have : -1 ≤ Lib.indexByte l b := by
          have : ∀ l : List UInt8, -1 ≤ Lib.indexByte l b := by
            intro l
            induction l with
            | nil => simp [Lib.indexByte]
            | cons y l ih =>
              by_cases hy : y = b
              · simp [Lib.indexByte, hy]
              · have e1 : Lib.indexByte (y :: l) b = if Lib.indexByte l b = -1 then -1 else Lib.indexByte l b + 1 := by simp [Lib.indexByte, hy]
                rw [e1]; split <;> omega
          exact this l
        by_cases h3 : 0 ≤ Lib.indexByte l b
        · rw [decide_eq_true h3, decide_eq_true (by omega)]
        · rw [decide_eq_false h3, decide_eq_false (by omega)]
theorem runeAt_byte (l : List UInt8) (b : UInt8) (h : b.toNat < 128) : decide (0 ≤ runeAt l (b.toNat : Int)) = l.contains b := by
  unfold runeAt
  rw [if_pos (by omega)]
  have : ((b.toNat : Int)).toNat.toUInt8 = b := by simp
  rw [this]
  exact indexByte_among l b
theorem runeAt_high (l : List UInt8) (r : Int) (h : 128 ≤ r) : runeAt l r = -1 := by unfold runeAt; rw [if_neg (by omega)]
/-- The place of the first of some signs; -1: there is none. -/
def anyI (signs l : List UInt8) : Int := if unt (among signs) l < l.length then ((unt (among signs) l : Nat) : Int) else -1
theorem unt_yes {q : UInt8 → Bool} {b : UInt8} {l : List UInt8} (h : q b = true) : unt q (b :: l) = 0 := by simp [unt, h]
theorem unt_no {q : UInt8 → Bool} {b : UInt8} {l : List UInt8} (h : q b = false) : unt q (b :: l) = unt q l + 1 := by simp [unt, h]
theorem anyI_yes {signs : List UInt8} {b : UInt8} {l : List UInt8} (h : among signs b = true) : anyI signs (b :: l) = 0 := by
  unfold anyI; rw [unt_yes h, if_pos (by simp)]; rfl
theorem anyI_no {signs : List UInt8} {b : UInt8} {l : List UInt8} (h : among signs b = false) : anyI signs (b :: l) = if anyI signs l == -1 then -1 else anyI signs l + 1 := by
  unfold anyI
  rw [unt_no h]
  by_cases h2 : unt (among signs) l < l.length
  · rw [if_pos h2, if_pos (by rw [List.length_cons]; omega)]
    have : ¬ (((unt (among signs) l : Nat) : Int) == -1) = true := by rw [beq_iff_eq]; omega
    rw [if_neg this]; omega
  · rw [if_neg h2, if_neg (by rw [List.length_cons]; omega)]; rfl
theorem indexAny_anyI (signs : List UInt8) : ∀ l : List UInt8, Lib.indexAny l signs = anyI signs l
  | [] => by simp [Lib.indexAny, anyI, unt]
  | b :: l => by
    have ih := indexAny_anyI signs l
    simp only [Lib.indexAny]
    cases h : signs.contains b with
    | true => rw [if_pos rfl, anyI_yes (show among signs b = true from h)]
    | false => rw [if_neg (by simp), ih, anyI_no (show among signs b = false from h)]
end Go.Tk
namespace Go.Proofs.YtlhcejbimlilaaaGreatDoor
open Go.RowKit Go.Tk
theorem useSet_calls (n : Nat) (w : World) : Calls Tryz.prog 137 #[.int .i64 (n : Nat)] w fun e w' => e = .returned (.bool (decide (8 < n))) ∧ w = w' := by
  go_enter Tryz.func137, Tryz.ntmps137
  go_wp2
  go_ret
  exact ⟨by simp; omega, rfl⟩
set_option maxHeartbeats 2000000 in
set_option maxRecDepth 100000 in
theorem indexAny_short (s signs : ByteArray) (w : World) (hs : s.size ≤ 8) (ha : Ascii signs) (h2 : 2 ≤ signs.size) (h3 : signs.size ≤ 3) :
    Calls Tryz.prog 99 #[.string s, .string signs] w fun e w' => e = .returned (.int .i64 (anyI signs.data.toList s.data.toList)) ∧ Below w.heap.size w w' := by
  obtain ⟨q, hq⟩ : ∃ q : UInt8 → Bool, q = among signs.data.toList := ⟨_, rfl⟩
  have hA : anyI signs.data.toList s.data.toList = if unt q s.data.toList < s.data.toList.length then ((unt q s.data.toList : Nat) : Int) else -1 := by rw [hq]; rfl
  have hne : signs.data.toList ≠ [] := by intro e; have := Lib.size_eq signs; rw [e, List.length_nil] at this; omega
  have e1 : signs.toList.isEmpty = false := by rw [Lib.toList_data]; simpa using hne
  have e2 : ((signs.size : Int) == 1) = false := by rw [beq_eq_false_iff_ne]; omega
  have e3 : decide (8 < s.size) = false := by simpa using hs
  have hus := fun w => useSet_calls s.size w
  rw [e3] at hus
  have hir := fun (r : Int) (w : World) (h0 : 0 ≤ r) (h1 : r ≤ 1114111) => indexRune_any signs r w ha h0 h1 (by omega)
  have HUS := Lib.hid hus
  have HIR := Lib.hid hir
  have HA := Lib.hid hA
  have HQ := Lib.hid hq
  obtain ⟨U, hU⟩ : ∃ U, U = unt q s.data.toList := ⟨_, rfl⟩
  have HU := Lib.hid hU
  clear hA hne hir hq hus hU
  go_enter Tryz.func99, Tryz.ntmps99
  go_wp2_with (go_at_call 137; refine (HUS.out _).mono ?_; rintro e w' ⟨rfl, rfl⟩)
  go_loopg [9, 10] s.size (fun gf _ _ wx => ∃ pos : Nat, wx.heap[w.heap.size]? = some (.stringIter s pos) ∧ Below w.heap.size w wx ∧ s.size ≤ pos + gf ∧ pos ≤ s.size ∧ pos + unt q (s.data.toList.drop pos) = U)
  case atStart => exact ⟨0, World.iter_heap w s 0, (Below.refl _ w).alloc (Nat.le_refl _) _, by omega, by omega, by rw [HU.out]; simp⟩
  case round =>
    obtain ⟨pos, hit, hbw, hfu, hpe, hun⟩ := hrel
    by_cases hps : pos < s.size
    · obtain ⟨g', rfl⟩ : ∃ g', gk = g' + 1 := ⟨gk - 1, by omega⟩
      have hnx : ∀ ty, (Instr.next (.pointer (some ⟨w.heap.size, 0, none⟩)) true ty).run Tryz.prog wr = _ := fun ty => Lib.run_next_any_at wr w.heap.size s pos ty hit hps
      have hd : s.data.toList.drop pos = s[pos] :: s.data.toList.drop (pos + 1) := List.drop_eq_getElem_cons (by rw [← Lib.size_eq]; exact hps)
      obtain ⟨bt, hbt⟩ : ∃ bt, bt = s[pos] := ⟨_, rfl⟩
      obtain ⟨R, hR⟩ : ∃ R, (Utf8.decode s pos).1 = R := ⟨_, rfl⟩
      obtain ⟨K, hK⟩ : ∃ K, (Utf8.decode s pos).2 = K := ⟨_, rfl⟩
      have hRb : (R : Int) ≤ 1114111 := by have := Lib.rune_le s pos; omega
      have hstep : (decide (0 ≤ runeAt signs.data.toList (R : Int)) = true ∧ U = pos) ∨ (decide (0 ≤ runeAt signs.data.toList (R : Int)) = false ∧ pos + K + unt q (s.data.toList.drop (pos + K)) = U ∧ 1 ≤ K ∧ pos + K ≤ s.size) := by
        by_cases hb : s[pos].toNat < 128
        · have hdec := dec_low_byte s pos hps hb
          rw [hdec] at hR hK
          simp only at hR hK
          subst hR
          subst hK
          rw [runeAt_byte _ _ hb]
          rw [hd] at hun
          cases hc : signs.data.toList.contains s[pos] with
          | true =>
            left
            rw [unt_yes (by rw [HQ.out]; exact hc)] at hun
            exact ⟨rfl, by omega⟩
          | false =>
            right
            rw [unt_no (by rw [HQ.out]; exact hc)] at hun
            exact ⟨rfl, by omega, by omega, by omega⟩
        · obtain ⟨h1, h2, h3, h4⟩ := dec_high_byte s pos hps (by omega)
          rw [hR] at h1
          rw [hK] at h2 h3 h4
          right
          refine ⟨by rw [runeAt_high _ _ (by omega)]; rfl, ?_, h2, h3⟩
          have hsk := unt_skip q (s.data.toList.drop pos) K (by rw [List.length_drop, ← Lib.size_eq]; omega) (fun b hb => by
            obtain ⟨j, hj, rfl⟩ := List.getElem_of_mem hb
            have hj' : j < K := by rw [List.length_take] at hj; omega
            rw [HQ.out]
            unfold among
            cases e : signs.data.toList.contains (((s.data.toList.drop pos).take K)[j])
            · rfl
            · have hlt := ha _ (by simpa using e)
              have h5 := h4 j hj' (by omega)
              have e9 : s[pos + j]'(by omega) = s.data[pos + j]'(by have : s.data.size = s.size := rfl
                                                                    omega) := rfl
              rw [e9] at h5
              omega)
          rw [hsk, List.drop_drop] at hun
          omega
      rw [hR, hK] at hnx
      have hit2 := Lib.iterAt_heap wr w.heap.size s pos (pos + K) hit
      have hbw2 := Lib.below_iterAt hbw (k := w.heap.size) (Nat.le_refl _) s (pos + K)
      obtain ⟨W, hWd⟩ : ∃ W, wr.iterAt w.heap.size s (pos + K) = W := ⟨_, rfl⟩
      rw [hWd] at hnx hit2 hbw2
      have hcall := fun w => HIR.out (R : Int) w (by omega) hRb
      obtain ⟨z, hz⟩ : ∃ z, z = runeAt signs.data.toList (R : Int) := ⟨_, rfl⟩
      rw [← hz] at hcall hstep
      have HC := Lib.hid hcall
      have hWl := World.block_lt_of_cell?
      have hwl : w.heap.size < W.heap.size := (Array.getElem?_eq_some_iff.1 hit2).1
      have HIT := Lib.hid hit2
      clear hcall hz hd hbt hR hK hWd hit hbw hit2 hun hWl
      rcases hstep with ⟨hz0, hU⟩ | ⟨hz0, hU, hK1, hK2⟩
      · have hfin : anyI signs.data.toList s.data.toList = (pos : Int) := by
          rw [HA.out, ← HU.out, hU, if_pos (by rw [← Lib.size_eq]; exact hps)]
        have HF := Lib.hid hfin
        clear hfin hU
        go_wp2_with (go_at_call 136; refine (HC.out _).mono ?_; rintro e w' ⟨rfl, hb3⟩)
        go_ret
        exact ⟨ret_int HF.out.symm, hbw2.trans (hb3.mono hbw2.size)⟩
      · have HU2 := Lib.hid hU
        clear hU
        go_wp2_with (go_at_call 136; refine (HC.out _).mono ?_; rintro e w' ⟨rfl, hb3⟩)
        go_roundg g'
        case measure => omega
        case rel => exact ⟨pos + K, (hb3.block _ hwl).trans HIT.out, hbw2.trans (hb3.mono hbw2.size), by omega, hK2, HU2.out⟩
    · have hnx : ∀ ty, (Instr.next (.pointer (some ⟨w.heap.size, 0, none⟩)) true ty).run Tryz.prog wr = _ := fun ty => Lib.run_next_end_at wr w.heap.size s pos ty hit hps
      have hfin : anyI signs.data.toList s.data.toList = -1 := by
        rw [HA.out, ← HU.out, if_neg (by rw [← Lib.size_eq]; omega)]
      have HF := Lib.hid hfin
      have HUN := Lib.hid hun
      clear hfin hun
      go_wp2_with fail
      go_ret
      exact ⟨ret_int HF.out.symm, hbw⟩
/-- IndexAny at the signs that the package asks for. -/
theorem indexAny_calls (s signs : ByteArray) (w : World) (hs : s.size < 4294967281) (ha : Ascii signs) (h1 : 1 ≤ signs.size) (h3 : signs.size ≤ 3) :
    Calls Tryz.prog 99 #[.string s, .string signs] w fun e w' => e = .returned (.int .i64 (anyI signs.data.toList s.data.toList)) ∧ Below w.heap.size w w' := by
  have hac : ∀ (j : Nat) b, signs.data.toList[j]? = some b → b.toNat < 128 := fun j b h => ha b (List.mem_of_getElem? h)
  by_cases h : signs.size = 1
  · rw [← indexAny_anyI]
    exact (Tryz.strings_IndexAny_one s signs w h hac).mono fun _ _ ⟨a, b⟩ => ⟨a, b ▸ Below.refl _ _⟩
  · by_cases h8 : s.size ≤ 8
    · exact indexAny_short s signs w h8 ha (by omega) h3
    · rw [← indexAny_anyI]
      exact (Tryz.strings_IndexAny_long (fun _ => by kernel_rfl) s signs w (by omega) (by omega) hs (by omega) hac).mono fun _ _ ⟨a, b⟩ => ⟨a, b ▸ ((Below.refl _ _).alloc (Nat.le_refl _) _).alloc (by simp) _⟩
end Go.Proofs.YtlhcejbimlilaaaGreatDoor
