/- iri.Clean. -/
import Derived.Test.YthdkhlkmcebfeaaIriBack
import Derived.WalkLawsBesides
import Derived.Outline
import Derived.OneCell
set_option linter.unusedVariables false
set_option linter.unusedSimpArgs false
namespace Go.Tk
open Go Go.RowKit
theorem clS_1 {p out : List UInt8} (h1 : Lib.hasPrefix p [46, 46, 47] = true) : clS p out = (p.drop 3, out) := by unfold clS; rw [if_pos h1]
theorem clS_2 {p out : List UInt8} (h1 : Lib.hasPrefix p [46, 46, 47] = false) (h2 : Lib.hasPrefix p [46, 47] = true) : clS p out = (p.drop 2, out) := by unfold clS; rw [if_neg (by simp [h1]), if_pos h2]
theorem clS_3 {p out : List UInt8} (h1 : Lib.hasPrefix p [46, 46, 47] = false) (h2 : Lib.hasPrefix p [46, 47] = false) (h3 : Lib.hasPrefix p [47, 46, 47] = true) : clS p out = (p.drop 2, out) := by
  unfold clS; rw [if_neg (by simp [h1]), if_neg (by simp [h2]), if_pos h3]
theorem clS_4 {p out : List UInt8} (h1 : Lib.hasPrefix p [46, 46, 47] = false) (h2 : Lib.hasPrefix p [46, 47] = false) (h3 : Lib.hasPrefix p [47, 46, 47] = false) (h4 : p = [47, 46]) : clS p out = ([47], out) := by
  unfold clS; rw [if_neg (by simp [h1]), if_neg (by simp [h2]), if_neg (by simp [h3]), if_pos h4]
theorem clS_5 {p out : List UInt8} (h1 : Lib.hasPrefix p [46, 46, 47] = false) (h2 : Lib.hasPrefix p [46, 47] = false) (h3 : Lib.hasPrefix p [47, 46, 47] = false) (h4 : p ≠ [47, 46])
    (h5 : Lib.hasPrefix p [47, 46, 46, 47] = true) : clS p out = (p.drop 3, upB out) := by
  unfold clS; rw [if_neg (by simp [h1]), if_neg (by simp [h2]), if_neg (by simp [h3]), if_neg h4, if_pos h5]
theorem clS_6 {p out : List UInt8} (h1 : Lib.hasPrefix p [46, 46, 47] = false) (h2 : Lib.hasPrefix p [46, 47] = false) (h3 : Lib.hasPrefix p [47, 46, 47] = false) (h4 : p ≠ [47, 46])
    (h5 : Lib.hasPrefix p [47, 46, 46, 47] = false) (h6 : p = [47, 46, 46]) : clS p out = ([47], upB out) := by
  unfold clS; rw [if_neg (by simp [h1]), if_neg (by simp [h2]), if_neg (by simp [h3]), if_neg h4, if_neg (by simp [h5]), if_pos h6]
theorem clS_7 {p out : List UInt8} (h1 : Lib.hasPrefix p [46, 46, 47] = false) (h2 : Lib.hasPrefix p [46, 47] = false) (h3 : Lib.hasPrefix p [47, 46, 47] = false) (h4 : p ≠ [47, 46])
    (h5 : Lib.hasPrefix p [47, 46, 46, 47] = false) (h6 : p ≠ [47, 46, 46]) (h7 : p = [46] ∨ p = [46, 46]) : clS p out = ([], out) := by
  unfold clS; rw [if_neg (by simp [h1]), if_neg (by simp [h2]), if_neg (by simp [h3]), if_neg h4, if_neg (by simp [h5]), if_neg h6, if_pos h7]
theorem clS_8 {p out : List UInt8} (h1 : Lib.hasPrefix p [46, 46, 47] = false) (h2 : Lib.hasPrefix p [46, 47] = false) (h3 : Lib.hasPrefix p [47, 46, 47] = false) (h4 : p ≠ [47, 46])
    (h5 : Lib.hasPrefix p [47, 46, 46, 47] = false) (h6 : p ≠ [47, 46, 46]) (h7 : ¬ (p = [46] ∨ p = [46, 46])) : clS p out = (p.drop (toS (p.drop 1) + 1), out ++ p.take (toS (p.drop 1) + 1)) := by
  unfold clS; rw [if_neg (by simp [h1]), if_neg (by simp [h2]), if_neg (by simp [h3]), if_neg h4, if_neg (by simp [h5]), if_neg h6, if_neg h7]
theorem prefix_len {p q : List UInt8} (h : Lib.hasPrefix p q = true) : q.length ≤ p.length := by
  rw [← Lib.hasPrefix_of_take] at h
  simp at h
  omega
theorem isEmpty_ne {p : ByteArray} (h : p.data.toList ≠ []) : p.toList.isEmpty = false := by
  rw [Lib.toList_data]; simpa using h
theorem extract_ds (q : ByteArray) (n : Nat) : (q.extract n q.size).data.toList = q.data.toList.drop n := by
  rw [Lib.extract_data, List.take_of_length_le (by rw [List.length_drop, ← Lib.size_eq]; omega)]
theorem extract_ts (q : ByteArray) (n : Nat) : (q.extract 0 n).data.toList = q.data.toList.take n := by
  rw [Lib.extract_data]; simp
theorem extract_dsize (q : ByteArray) (n : Nat) : (q.extract n q.size).size = q.size - n := by
  rw [Lib.size_eq, extract_ds, List.length_drop, ← Lib.size_eq]
def strLen : Value → Nat
  | .string q => q.size
  | _ => 0
/-- One round's relation. -/
structure ClR (T e B0 : Nat) (w wr : World) (path p : ByteArray) (bs : List UInt8) (v : Value) : Prop where
  size : p.size + bs.length ≤ path.size
  box : wr.heap[B0]? = some (.cells #[v] T (0, 0))
  own : Ow .u8 e (B0 + 1) wr v (nums bs)
  below : Below B0 w wr
  ans : cl p.data.toList bs = cl path.data.toList []
/-- A round that leaves the memory alone. -/
theorem ClR.go {T e B0 : Nat} {w wr : World} {path p : ByteArray} {bs : List UInt8} {v : Value} (h : ClR T e B0 w wr path p bs v) {q : ByteArray} {n : Nat} (hne : p.data.toList ≠ [])
    (hS : clS p.data.toList bs = (q.data.toList, bs)) : ClR T e B0 w (wr.drewN n) path q bs v where
  size := by
    have := clS_len p.data.toList bs
    rw [hS] at this
    have := h.size
    rw [Lib.size_eq] at this ⊢
    simp only [] at *
    omega
  box := h.box
  own := h.own.drewN n
  below := below_drewN h.below n
  ans := by rw [← h.ans, cl_step p.data.toList bs hne, hS]
theorem ClR.go0 {T e B0 : Nat} {w wr : World} {path p : ByteArray} {bs : List UInt8} {v : Value} (h : ClR T e B0 w wr path p bs v) {q : ByteArray} (hne : p.data.toList ≠ [])
    (hS : clS p.data.toList bs = (q.data.toList, bs)) : ClR T e B0 w wr path q bs v := h.go (n := 0) hne hS
/-- A round that turns the answer. -/
theorem ClR.turn {T e B0 : Nat} {w wr wr' : World} {path p : ByteArray} {bs bs' : List UInt8} {v v' : Value} (h : ClR T e B0 w wr path p bs v) {q : ByteArray} (hne : p.data.toList ≠ [])
    (hS : clS p.data.toList bs = (q.data.toList, bs')) (hb : wr'.heap[B0]? = some (.cells #[v'] T (0, 0))) (ho : Ow .u8 e (B0 + 1) wr' v' (nums bs')) (hbel : Below B0 wr wr') : ClR T e B0 w wr' path q bs' v' where
  size := by
    have := clS_len p.data.toList bs
    rw [hS] at this
    have := h.size
    rw [Lib.size_eq] at this ⊢
    simp only [] at *
    omega
  box := hb
  own := ho
  below := h.below.trans hbel
  ans := by rw [← h.ans, cl_step p.data.toList bs hne, hS]
end Go.Tk
namespace Go.Proofs.Ythdkhlkmcebfeaa
open Go.RowKit Go.Tk
set_option maxHeartbeats 1600000 in
theorem clean_calls (path : ByteArray) (w : World) (hs : path.size ≤ 140737488351232) :
    Calls Try.prog 14 #[.string path] w fun e w' => e = .returned (.string ⟨(cl path.data.toList []).toArray⟩) ∧ Below w.heap.size w w' := by
  obtain ⟨B0, hB0⟩ : ∃ B0, B0 = w.heap.size := ⟨_, rfl⟩
  have HB0 := Lib.hid hB0
  clear hB0
  go_enter Try.func14, Try.ntmps14
  go_wp2_with fail
  go_loopw [0] (fun p wr => ∃ (q : ByteArray) (bs : List UInt8) (v : Value), p = .string q ∧ ClR 50 5 w.heap.size w wr path q bs v) (fun p _ => strLen p)
  case atStart => exact ⟨path, [], _, rfl, by simp, heap_alloc_new _ _, Ow.nil _ _ _ _, (Below.refl _ _).alloc (Nat.le_refl _) _, rfl⟩
  case round =>
    obtain ⟨q, bs, v, rfl, hr⟩ := hrel
    obtain ⟨a, c, rfl, hsl, _⟩ := hr.own.sl
    rw [nums_len] at hr hsl
    have hz := hr.size
    have hqs : q.size = q.data.toList.length := Lib.size_eq q
    have HQ := Lib.hid hqs
    clear hqs
    have HR := Lib.hid hr
    have HSL := Lib.hid hsl
    have hc := cell_of_one hr.box
    have hf := free_of_one hr.box
    have hcv := hr.own.str (P := Try.prog) (dst := 9) Try.underlying50 Try.underlying5 Try.underlying9
    have hnil : q.data.toList = [] → cl path.data.toList [] = bs := fun h => by rw [← hr.ans, h]; rfl
    have HN := Lib.hid hnil
    have hwr : w.heap.size < wr.heap.size := (lt_of_block hr.box)
    clear hr hsl hnil
    by_cases h0 : q.data.toList = []
    · have e0 : q.toList.isEmpty = true := by rw [Lib.toList_data, h0]; rfl
      have e1 := HN.out h0
      have E1 := Lib.hid e1
      clear h0 e1
      go_wp2_with fail
      go_ret
      exact ⟨by rw [E1.out]; rfl, HR.out.below⟩
    have hqe : q.toList = q.data.toList := Lib.toList_data q
    have e0 := isEmpty_ne h0
    have H0 := Lib.hid h0
    have HQE := Lib.hid hqe
    clear h0 hqe
    by_cases h1 : Lib.hasPrefix q.data.toList [46, 46, 47] = true
    · have hl := prefix_len h1
      simp only [List.length_cons, List.length_nil] at hl
      have hl' : 3 ≤ q.size := by rw [HQ.out]; exact hl
      clear hl
      go_wp2_with (go_at_call 34; refine (prefix_calls _ _ _).mono ?_; rintro e w' ⟨rfl, rfl⟩)
      go_roundw
      case rel => exact ⟨_, bs, _, rfl, HR.out.go0 H0.out (by rw [clS_1 h1, extract_ds])⟩
      case measure => simp only [strLen, extract_dsize]; omega
    have h1 : Lib.hasPrefix q.data.toList [46, 46, 47] = false := by simpa using h1
    by_cases h2 : Lib.hasPrefix q.data.toList [46, 47] = true
    · have hl := prefix_len h2
      simp only [List.length_cons, List.length_nil] at hl
      have hl' : 2 ≤ q.size := by rw [HQ.out]; exact hl
      clear hl
      go_wp2_with (go_at_call 34; refine (prefix_calls _ _ _).mono ?_; rintro e w' ⟨rfl, rfl⟩)
      go_roundw
      case rel => exact ⟨_, bs, _, rfl, HR.out.go0 H0.out (by rw [clS_2 h1 h2, extract_ds])⟩
      case measure => simp only [strLen, extract_dsize]; omega
    have h2 : Lib.hasPrefix q.data.toList [46, 47] = false := by simpa using h2
    by_cases h3 : Lib.hasPrefix q.data.toList [47, 46, 47] = true
    · have hl := prefix_len h3
      simp only [List.length_cons, List.length_nil] at hl
      have hl' : 2 ≤ q.size := by rw [HQ.out]; omega
      clear hl
      go_wp2_with (go_at_call 34; refine (prefix_calls _ _ _).mono ?_; rintro e w' ⟨rfl, rfl⟩)
      go_roundw
      case rel => exact ⟨_, bs, _, rfl, HR.out.go0 H0.out (by rw [clS_3 h1 h2 h3, extract_ds])⟩
      case measure => simp only [strLen, extract_dsize]; omega
    have h3 : Lib.hasPrefix q.data.toList [47, 46, 47] = false := by simpa using h3
    by_cases h4 : q.data.toList = [47, 46]
    · have e4 : (q.toList == [47, 46]) = true := by rw [HQE.out, h4]; rfl
      have H4 := Lib.hid h4
      have hl' : 2 = q.size := by rw [HQ.out, h4]; rfl
      have HL := Lib.hid hl'
      clear h4 hl'
      go_wp2_with (go_at_call 34; refine (prefix_calls _ _ _).mono ?_; rintro e w' ⟨rfl, rfl⟩)
      go_roundw
      case rel => exact ⟨_, bs, _, rfl, HR.out.go0 H0.out (by rw [clS_4 h1 h2 h3 H4.out])⟩
      case measure =>
        have : strLen (.string q) = q.size := rfl
        have h2 : strLen (.string { data := #[47] }) = 1 := rfl
        have := HL.out
        omega
    have e4 : (q.toList == [47, 46]) = false := by rw [HQE.out]; simpa using h4
    have H4 := Lib.hid h4
    clear h4
    by_cases h5 : Lib.hasPrefix q.data.toList [47, 46, 46, 47] = true
    · have hl := prefix_len h5
      simp only [List.length_cons, List.length_nil] at hl
      have hl' : 3 ≤ q.size := by rw [HQ.out]; omega
      clear hl
      go_wp2_with (first
        | (go_at_call 34; refine (prefix_calls _ _ _).mono ?_; rintro e w' ⟨rfl, rfl⟩)
        | (go_at_call 32; refine (back_calls _ (w.heap.size + 1) w.heap.size _ bs HR.out.box HR.out.own (by omega)).mono ?_; rintro e w' ⟨rfl, v', hb', ho', hg'⟩; (have HB' := Lib.hid hb'); (have HO' := Lib.hid ho'); (have HG' := Lib.hid hg'); clear hb' ho' hg'))
      go_roundw
      case rel => exact ⟨_, _, _, rfl, HR.out.turn H0.out (by rw [clS_5 h1 h2 h3 H4.out h5, extract_ds]) HB'.out HO'.out (below_of_grown HG'.out (by omega) (by simp))⟩
      case measure => simp only [strLen, extract_dsize]; omega
    have h5 : Lib.hasPrefix q.data.toList [47, 46, 46, 47] = false := by simpa using h5
    by_cases h6 : q.data.toList = [47, 46, 46]
    · have e6 : (q.toList == [47, 46, 46]) = true := by rw [HQE.out, h6]; rfl
      have H6 := Lib.hid h6
      have hl' : 3 = q.size := by rw [HQ.out, h6]; rfl
      have HL := Lib.hid hl'
      clear h6 hl'
      go_wp2_with (first
        | (go_at_call 34; refine (prefix_calls _ _ _).mono ?_; rintro e w' ⟨rfl, rfl⟩)
        | (go_at_call 32; refine (back_calls _ (w.heap.size + 1) w.heap.size _ bs HR.out.box HR.out.own (by omega)).mono ?_; rintro e w' ⟨rfl, v', hb', ho', hg'⟩; (have HB' := Lib.hid hb'); (have HO' := Lib.hid ho'); (have HG' := Lib.hid hg'); clear hb' ho' hg'))
      go_roundw
      case rel => exact ⟨_, _, _, rfl, HR.out.turn H0.out (by rw [clS_6 h1 h2 h3 H4.out h5 H6.out]) HB'.out HO'.out (below_of_grown HG'.out (by omega) (by simp))⟩
      case measure =>
        have : strLen (.string q) = q.size := rfl
        have h2 : strLen (.string { data := #[47] }) = 1 := rfl
        have := HL.out
        omega
    have e6 : (q.toList == [47, 46, 46]) = false := by rw [HQE.out]; simpa using h6
    have H6 := Lib.hid h6
    clear h6
    by_cases h7 : q.data.toList = [46] ∨ q.data.toList = [46, 46]
    · have H7 := Lib.hid h7
      have hl' : 1 ≤ q.size := by rw [HQ.out]; exact List.length_pos_iff.2 H0.out
      by_cases h8 : q.data.toList = [46]
      · have e7 : (q.toList == [46]) = true := by rw [HQE.out, h8]; rfl
        clear h7 h8
        go_wp2_with (go_at_call 34; refine (prefix_calls _ _ _).mono ?_; rintro e w' ⟨rfl, rfl⟩)
        go_roundw
        case rel => exact ⟨_, bs, _, rfl, HR.out.go0 H0.out (by rw [clS_7 h1 h2 h3 H4.out h5 H6.out H7.out])⟩
        case measure =>
          have : strLen (.string q) = q.size := rfl
          have h2 : strLen (.string { data := #[] }) = 0 := rfl
          omega
      · have e7 : (q.toList == [46]) = false := by rw [HQE.out]; simpa using h8
        have e8 : (q.toList == [46, 46]) = true := by
          rcases h7 with h | h
          · exact absurd h h8
          · rw [HQE.out, h]; rfl
        clear h7 h8
        go_wp2_with (go_at_call 34; refine (prefix_calls _ _ _).mono ?_; rintro e w' ⟨rfl, rfl⟩)
        go_roundw
        case rel => exact ⟨_, bs, _, rfl, HR.out.go0 H0.out (by rw [clS_7 h1 h2 h3 H4.out h5 H6.out H7.out])⟩
        case measure =>
          have : strLen (.string q) = q.size := rfl
          have h2 : strLen (.string { data := #[] }) = 0 := rfl
          omega
    have e7 : (q.toList == [46]) = false := by rw [HQE.out]; simp; exact fun h => h7 (.inl h)
    have e8 : (q.toList == [46, 46]) = false := by rw [HQE.out]; simp; exact fun h => h7 (.inr h)
    have H7 := Lib.hid h7
    clear h7
    have hl' : 1 ≤ q.size := by rw [HQ.out]; exact List.length_pos_iff.2 H0.out
    have hd := extract_ds q 1
    have hdl := toS_le (q.data.toList.drop 1)
    have hdn : (q.data.toList.drop 1).length = q.size - 1 := by simp
    have hdz := extract_dsize q 1
    have HD := Lib.hid hd
    have HDN := Lib.hid hdn
    have HDZ := Lib.hid hdz
    clear hd hdn hdz
    obtain ⟨i, hi⟩ : ∃ i, i = toS (q.data.toList.drop 1) := ⟨_, rfl⟩
    rw [← hi] at hdl
    have hi' : i + 1 ≤ q.size := by have := HDN.out; omega
    have HI := Lib.hid hi
    obtain ⟨cs, hcs⟩ : ∃ cs, cs = q.data.toList.take (i + 1) := ⟨_, rfl⟩
    have hcls : ∀ q' : ByteArray, q'.data.toList = q.data.toList.drop (i + 1) → clS q.data.toList bs = (q'.data.toList, bs ++ cs) := fun q' e => by rw [clS_8 h1 h2 h3 H4.out h5 H6.out H7.out, e, ← hi, hcs]
    have HC := Lib.hid hcls
    have HCS := Lib.hid hcs
    clear hcs
    have hsz : (q.extract 0 (i + 1)).size = i + 1 := by rw [Lib.size_eq, extract_ts, List.length_take, ← Lib.size_eq]; omega
    have HSZ := Lib.hid hsz
    clear hcls hsz
    have fin : ∀ (q' : ByteArray) (w1 : World) (n : Nat) (v' : Value), q'.data.toList = q.data.toList.drop (i + 1) → Ow .u8 5 (w.heap.size + 1) w1 v' (nums (bs ++ cs)) → (wr.drewN n).grownBy w1 (Value.slice a bs.length c).ownBlock →
        w1.cell? ⟨w.heap.size, 0, none⟩ = some (.slice a bs.length c) ∧ w1.frozen? ⟨w.heap.size, 0, none⟩ = false ∧
        ClR 50 5 w.heap.size w (w1.setCell ⟨w.heap.size, 0, none⟩ v') path q' (bs ++ cs) v' := by
      intro q' w1 n v' hq' ho hg
      have hbox : w1.heap[w.heap.size]? = some (.cells #[.slice a bs.length c] 50 (0, 0)) := by
        rw [hg.block w.heap.size hwr (fun e => by have := HR.out.own.lt _ e.symm; omega)]
        exact HR.out.box
      refine ⟨cell_of_one hbox, free_of_one hbox, HR.out.turn H0.out (HC.out q' hq') (one_setCell hbox) ?_ ?_⟩
      · unfold Ow at ho ⊢
        exact ownsRow_setCell_other ho (fun e => by have := World.ownsRow.lt ho _ e; simp at this; omega) _
      · have b1 : Below w.heap.size wr w1 := (Go.Tk.below_drewN (Below.refl _ wr) n).trans (below_of_grown hg (by show w.heap.size ≤ wr.heap.size; omega) (fun k e => by have := HR.out.own.lt k e; omega))
        exact b1.setCell (Nat.le_refl _) _
    by_cases h8 : i < (q.data.toList.drop 1).length
    · have hst : ∀ w', Calls Try.prog 35 #[.string (q.extract 1 q.size), .int .u8 47] w' fun e w'' => e = .returned (.int .i64 (i : Nat)) ∧ w' = w'' := fun w' => by
        have := slash_some (q.extract 1 q.size) w' (by rw [HD.out, ← HI.out]; exact h8)
        rw [HD.out, ← HI.out] at this
        exact this
      have HST := Lib.hid hst
      have hb0 : (((i : Int) + 1) == 0) = false := by rw [beq_eq_false_iff_ne]; omega
      clear hst h8 hi
      go_wp2_with (first
        | (go_at_call 34; refine (prefix_calls _ _ _).mono ?_; rintro e w' ⟨rfl, rfl⟩)
        | (go_at_call 35; refine (HST.out _).mono ?_; rintro e w' ⟨rfl, rfl⟩))
      refine wp_region_quiet_tail (fun w' => ∃ n, w' = World.drewN _ n) 4 (by kernel_rfl) (by kernel_rfl) ⟨1, rfl⟩ ?_
      simp only [List.take_succ_cons, List.take_zero, List.drop_succ_cons, List.drop_zero]
      repeat (go_big_quiet_step (fail))
      refine wpQuiet_nil ?_
      rintro _ ⟨n1, rfl⟩
      refine wpList_appS rfl _ _ _ _ rfl (w.heap.size + 1) 5 Try.underlying50 Try.underlying9 Try.infoU8 _ bs rfl (HR.out.own.drewN _) _ rfl (by rw [HSZ.out]; omega) (by show w.heap.size + 1 ≤ wr.heap.size; omega) ?_
      intro v' w1 ho hg
      rw [extract_ts, ← HCS.out] at ho
      obtain ⟨c1, f1, R1⟩ := fin (q.extract (i + 1) q.size) w1 _ v' (extract_ds _ _) ho hg
      obtain ⟨a', c', rfl, _, _⟩ := ho.sl
      have R1' := Lib.hid R1
      clear ho hg R1 fin
      go_wp2_with fail
      go_roundw
      case rel => exact ⟨_, _, _, rfl, R1'.out⟩
      case measure => simp only [strLen, extract_dsize]; omega
    · have hst : ∀ w', Calls Try.prog 35 #[.string (q.extract 1 q.size), .int .u8 47] w' fun e w'' => e = .returned (.int .i64 (-1)) ∧ w' = w'' := fun w' =>
        slash_none (q.extract 1 q.size) w' (by rw [HD.out, ← HI.out]; exact h8)
      have HST := Lib.hid hst
      have hiq : q.size = i + 1 := by have := HDN.out; omega
      have HIQ := Lib.hid hiq
      clear hst h8 hi hiq
      go_wp2_with (first
        | (go_at_call 34; refine (prefix_calls _ _ _).mono ?_; rintro e w' ⟨rfl, rfl⟩)
        | (go_at_call 35; refine (HST.out _).mono ?_; rintro e w' ⟨rfl, rfl⟩))
      refine wp_region_quiet_tail (fun w' => ∃ n, w' = World.drewN _ n) 4 (by kernel_rfl) (by kernel_rfl) ⟨1, rfl⟩ ?_
      simp only [List.take_succ_cons, List.take_zero, List.drop_succ_cons, List.drop_zero]
      repeat (go_big_quiet_step (fail))
      refine wpQuiet_nil ?_
      rintro _ ⟨n1, rfl⟩
      have hqc : q.data.toList = cs := by rw [HCS.out, List.take_of_length_le (by rw [← Lib.size_eq, HIQ.out]; exact Nat.le_refl _)]
      have hem : ByteArray.empty.data.toList = q.data.toList.drop (i + 1) := by rw [List.drop_of_length_le (by rw [← Lib.size_eq, HIQ.out]; exact Nat.le_refl _)]; rfl
      refine wpList_appS rfl _ _ _ _ rfl (w.heap.size + 1) 5 Try.underlying50 Try.underlying9 Try.infoU8 _ bs rfl (HR.out.own.drewN _) _ rfl (by omega) (by show w.heap.size + 1 ≤ wr.heap.size; omega) ?_
      intro v' w1 ho hg
      rw [hqc] at ho
      obtain ⟨c1, f1, R1⟩ := fin ByteArray.empty w1 _ v' hem ho hg
      obtain ⟨a', c', rfl, _, _⟩ := ho.sl
      clear hqc hem
      have R1' := Lib.hid R1
      clear ho hg R1 fin
      go_wp2_with fail
      go_roundw
      case rel => exact ⟨_, _, _, rfl, R1'.out⟩
      case measure =>
        have : strLen (.string q) = q.size := rfl
        have h2 : strLen (.string ByteArray.empty) = 0 := rfl
        omega
end Go.Proofs.Ythdkhlkmcebfeaa
