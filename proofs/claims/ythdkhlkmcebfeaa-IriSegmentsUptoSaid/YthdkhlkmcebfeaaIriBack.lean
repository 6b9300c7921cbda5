/- iri.Clean's closure; contracts of the library in the forms that the walks ask. -/
import Derived.Test.YthdkhlkmcebfeaaIriCut
import Derived.Test.YthdkhlkmcebfeaaShA
import Derived.OneCell
set_option linter.unusedVariables false
set_option linter.unusedSimpArgs false
namespace Go.Proofs.Ythdkhlkmcebfeaa
open Go.RowKit Go.Tk
theorem prefix_calls (s p : ByteArray) (w : World) : Calls Try.prog 34 #[.string s, .string p] w fun e w' => e = .returned (.bool (Lib.hasPrefix s.data.toList p.data.toList)) ∧ w = w' :=
  (Try.strings_HasPrefix s p w).mono fun _ _ ⟨h, e⟩ => ⟨h, e.symm⟩
theorem slash_some (s : ByteArray) (w : World) (h : toS s.data.toList < s.data.toList.length) : Calls Try.prog 35 #[.string s, .int .u8 47] w fun e w' => e = .returned (.int .i64 (toS s.data.toList : Nat)) ∧ w = w' :=
  (Try.strings_IndexByte s 47 w).mono fun _ _ ⟨h1, e⟩ => ⟨h1.trans (ret_int (by show Lib.indexByte _ 47 = _; rw [indexByte_toS, if_pos h])), e.symm⟩
theorem slash_none (s : ByteArray) (w : World) (h : ¬ toS s.data.toList < s.data.toList.length) : Calls Try.prog 35 #[.string s, .int .u8 47] w fun e w' => e = .returned (.int .i64 (-1)) ∧ w = w' :=
  (Try.strings_IndexByte s 47 w).mono fun _ _ ⟨h1, e⟩ => ⟨h1.trans (ret_int (by show Lib.indexByte _ 47 = _; rw [indexByte_toS, if_neg h])), e.symm⟩
theorem back_calls (w : World) (B B0 : Nat) (v : Value) (bs : List UInt8) (hb : w.heap[B0]? = some (.cells #[v] 50 (0, 0))) (hw : Ow .u8 5 B w v (nums bs)) (hB : B0 < B) :
    Calls Try.prog 32 #[.pointer (some ⟨B0, 0, none⟩)] w fun e w' => e = .returned (.tuple #[]) ∧ ∃ v', w'.heap[B0]? = some (.cells #[v'] 50 (0, 0)) ∧ Ow .u8 5 B w' v' (nums (upB bs)) ∧ w.grownBy w' (some B0) := by
  obtain ⟨a, c, rfl, h, _⟩ := hw.sl
  rw [nums_len] at h hb hw
  have hlt := hw.lt
  have HW := Lib.hid hw
  have HB := Lib.hid hb
  have hc := cell_of_one hb
  have hf := free_of_one hb
  have hm := h.max
  have hle := h.le
  have hu := upB_lastS bs
  have hL := lastS_le 47 bs
  have HU := Lib.hid hu
  clear hw hb hu
  have fin : ∀ (w1 : World) (m : Nat), m = lastS 47 bs - 1 → (∃ n, w1 = w.drewN n) → ((w1.setCell ⟨B0, 0, none⟩ (.slice a m c)).heap[B0]? = some (.cells #[.slice a m c] 50 (0, 0)) ∧ Ow .u8 5 B (w1.setCell ⟨B0, 0, none⟩ (.slice a m c)) (.slice a m c) (nums (upB bs)) ∧ w.grownBy (w1.setCell ⟨B0, 0, none⟩ (.slice a m c)) (some B0)) := by
    rintro w1 m rfl ⟨n, rfl⟩
    have hb' : (w.drewN n).heap[B0]? = some (.cells #[.slice a bs.length c] 50 (0, 0)) := HB.out
    refine ⟨one_setCell hb', ?_, grownBy_setCell (grownBy_drewN (World.grownBy.refl _ _) n) 0 _⟩
    have h1 := (HW.out.front (lastS 47 bs - 1) (by rw [nums_len]; omega)).drewN n
    rw [nums_take, ← HU.out] at h1
    unfold Ow at h1 ⊢
    refine ownsRow_setCell_other h1 ?_ _
    cases a with
    | none => simp [Value.ownBlock]
    | some x => have := hlt x.block rfl; simp [Value.ownBlock]; omega
  by_cases h0 : lastS 47 bs = 0
  · have e0 : ((lastS 47 bs : Nat) : Int) - 1 = -1 := by omega
    have E0 := Lib.hid e0
    have H0 := Lib.hid h0
    clear e0 h0
    go_enter Try.func32, Try.ntmps32
    go_wp2_with fail
    refine wp_region_quiet_tail (fun w' => ∃ n, w' = World.drewN _ n) 5 (by kernel_rfl) (by kernel_rfl) ⟨1, rfl⟩ ?_
    simp only [List.take_succ_cons, List.take_zero, List.drop_succ_cons, List.drop_zero]
    repeat (go_big_quiet_step ((go_at_call 33; exact quiet_eq ((blastIndexByte_calls _ _ _ _ bs 47 (h.drewN _)).mono fun _ _ ⟨h1, h2⟩ => ⟨h1.trans (ret_int E0.out), h2⟩))))
    refine wpQuiet_nil ?_
    rintro _ ⟨n1, rfl⟩
    go_wp2_with fail
    go_end0
    exact ⟨rfl, _, fin _ 0 (by have := H0.out; omega) ⟨_, rfl⟩⟩
  · obtain ⟨i, hi⟩ : ∃ i, lastS 47 bs = i + 1 := ⟨lastS 47 bs - 1, by omega⟩
    have e0 : ((lastS 47 bs : Nat) : Int) - 1 = (i : Int) := by omega
    have hil : i < bs.length := by omega
    have E0 := Lib.hid e0
    have H0 := Lib.hid hi
    clear e0 h0 hi
    go_enter Try.func32, Try.ntmps32
    go_wp2_with fail
    refine wp_region_quiet_tail (fun w' => ∃ n, w' = World.drewN _ n) 5 (by kernel_rfl) (by kernel_rfl) ⟨1, rfl⟩ ?_
    simp only [List.take_succ_cons, List.take_zero, List.drop_succ_cons, List.drop_zero]
    repeat (go_big_quiet_step ((go_at_call 33; exact quiet_eq ((blastIndexByte_calls _ _ _ _ bs 47 (h.drewN _)).mono fun _ _ ⟨h1, h2⟩ => ⟨h1.trans (ret_int E0.out), h2⟩))))
    refine wpQuiet_nil ?_
    rintro _ ⟨n1, rfl⟩
    go_wp2_with fail
    go_end0
    exact ⟨rfl, _, fin _ i (by have := H0.out; omega) ⟨_, rfl⟩⟩
end Go.Proofs.Ythdkhlkmcebfeaa
