/- tesseraref05.Clean, and IriCleans. -/
import Derived.Test.YthdkhlkmcebfeaaIriClean
set_option linter.unusedVariables false
set_option linter.unusedSimpArgs false
namespace Go.Tk
open Go Go.RowKit
structure ClD (e : TypeId) (w wr : World) (path p : ByteArray) (bs : List UInt8) (v : Value) : Prop where
  size : p.size + bs.length ≤ path.size
  own : Ow .u8 e w.heap.size wr v (nums bs)
  below : Below w.heap.size w wr
  ans : cl p.data.toList bs = cl path.data.toList []
theorem ClD.turn {e : TypeId} {w wr wr' : World} {path p : ByteArray} {bs bs' : List UInt8} {v v' : Value} (h : ClD e w wr path p bs v) {q : ByteArray} (hne : p.data.toList ≠ [])
    (hS : clS p.data.toList bs = (q.data.toList, bs')) (ho : Ow .u8 e w.heap.size wr' v' (nums bs')) (hbel : Below w.heap.size wr wr') : ClD e w wr' path q bs' v' where
  size := by
    have := clS_len p.data.toList bs
    rw [hS] at this
    have := h.size
    rw [Lib.size_eq] at this ⊢
    simp only [] at *
    omega
  own := ho
  below := h.below.trans hbel
  ans := by rw [← h.ans, cl_step p.data.toList bs hne, hS]
theorem ClD.go0 {e : TypeId} {w wr : World} {path p : ByteArray} {bs : List UInt8} {v : Value} (h : ClD e w wr path p bs v) {q : ByteArray} (hne : p.data.toList ≠ [])
    (hS : clS p.data.toList bs = (q.data.toList, bs)) : ClD e w wr path q bs v := h.turn hne hS h.own (Below.refl _ _)
end Go.Tk
namespace Go.Proofs.Ythdkhlkmcebfeaa
open Go.RowKit Go.Tk
set_option maxHeartbeats 1600000 in
set_option maxRecDepth 100000 in
theorem rclean_calls (path : ByteArray) (w : World) (hs : path.size ≤ 140737488351232) :
    Calls Try.prog 15 #[.string path] w fun e w' => e = .returned (.string ⟨(cl path.data.toList []).toArray⟩) ∧ Below w.heap.size w w' := by
  go_enter Try.func15, Try.ntmps15
  go_wp2_with fail
  go_loopw [0, 3] (fun p v wr => ∃ (q : ByteArray) (bs : List UInt8), p = .string q ∧ ClD 5 w wr path q bs v) (fun p _ _ => strLen p)
  case atStart => exact ⟨path, [], rfl, by simp, Ow.nil _ _ _ _, Below.refl _ _, rfl⟩
  case round =>
    obtain ⟨q, bs, rfl, hr⟩ := hrel
    obtain ⟨a, c, hv, hsl, _⟩ := hr.own.sl
    rw [nums_len] at hv hsl
    subst hv
    have hz := hr.size
    have hqs : q.size = q.data.toList.length := Lib.size_eq q
    have HQ := Lib.hid hqs
    clear hqs
    have HR := Lib.hid hr
    have HSL := Lib.hid hsl
    have hcv := hr.own.str (P := Try.prog) (dst := 9) Try.underlying50 Try.underlying5 Try.underlying9
    have hnil : q.data.toList = [] → cl path.data.toList [] = bs := fun h => by rw [← hr.ans, h]; rfl
    have HN := Lib.hid hnil
    have hwr : w.heap.size ≤ wr.heap.size := hr.below.size
    clear hr hsl hnil
    by_cases h0 : q.data.toList = []
    · have e0 : q.toList.isEmpty = true := by rw [Lib.toList_data, h0]; rfl
      have e1 := HN.out h0
      have E1 := Lib.hid e1
      clear h0 e1
      go_wp2_with fail
      go_ret
      exact ⟨by rw [E1.out]; rfl, HR.out.below⟩
    have hqe : q.toList = q.data.toList := Lib.toList_data q
    have e0 := isEmpty_ne h0
    have H0 := Lib.hid h0
    have HQE := Lib.hid hqe
    clear h0 hqe
    by_cases h1 : Lib.hasPrefix q.data.toList [46, 46, 47] = true
    · have hl := prefix_len h1
      simp only [List.length_cons, List.length_nil] at hl
      have hl' : 3 ≤ q.size := by rw [HQ.out]; exact hl
      clear hl
      go_wp2_with (go_at_call 36; refine (begins_calls _ _ _ (by omega) (by decide)).mono ?_; rintro e w' ⟨rfl, rfl⟩)
      go_roundw
      case rel => exact ⟨_, bs, rfl, HR.out.go0 H0.out (by rw [clS_1 h1, extract_ds])⟩
      case measure => simp only [strLen, extract_dsize]; omega
    have h1 : Lib.hasPrefix q.data.toList [46, 46, 47] = false := by simpa using h1
    by_cases h2 : Lib.hasPrefix q.data.toList [46, 47] = true
    · have hl := prefix_len h2
      simp only [List.length_cons, List.length_nil] at hl
      have hl' : 2 ≤ q.size := by rw [HQ.out]; exact hl
      clear hl
      go_wp2_with (go_at_call 36; refine (begins_calls _ _ _ (by omega) (by decide)).mono ?_; rintro e w' ⟨rfl, rfl⟩)
      go_roundw
      case rel => exact ⟨_, bs, rfl, HR.out.go0 H0.out (by rw [clS_2 h1 h2, extract_ds])⟩
      case measure => simp only [strLen, extract_dsize]; omega
    have h2 : Lib.hasPrefix q.data.toList [46, 47] = false := by simpa using h2
    by_cases h3 : Lib.hasPrefix q.data.toList [47, 46, 47] = true
    · have hl := prefix_len h3
      simp only [List.length_cons, List.length_nil] at hl
      have hl' : 2 ≤ q.size := by rw [HQ.out]; omega
      clear hl
      go_wp2_with (go_at_call 36; refine (begins_calls _ _ _ (by omega) (by decide)).mono ?_; rintro e w' ⟨rfl, rfl⟩)
      go_roundw
      case rel => exact ⟨_, bs, rfl, HR.out.go0 H0.out (by rw [clS_3 h1 h2 h3, extract_ds])⟩
      case measure => simp only [strLen, extract_dsize]; omega
    have h3 : Lib.hasPrefix q.data.toList [47, 46, 47] = false := by simpa using h3
    by_cases h4 : q.data.toList = [47, 46]
    · have e4 : (q.toList == [47, 46]) = true := by rw [HQE.out, h4]; rfl
      have H4 := Lib.hid h4
      have hl' : 2 = q.size := by rw [HQ.out, h4]; rfl
      have HL := Lib.hid hl'
      clear h4 hl'
      go_wp2_with (go_at_call 36; refine (begins_calls _ _ _ (by omega) (by decide)).mono ?_; rintro e w' ⟨rfl, rfl⟩)
      go_roundw
      case rel => exact ⟨_, bs, rfl, HR.out.go0 H0.out (by rw [clS_4 h1 h2 h3 H4.out])⟩
      case measure =>
        have : strLen (.string q) = q.size := rfl
        have h2 : strLen (.string { data := #[47] }) = 1 := rfl
        have := HL.out
        omega
    have e4 : (q.toList == [47, 46]) = false := by rw [HQE.out]; simpa using h4
    have H4 := Lib.hid h4
    clear h4
    by_cases h5 : Lib.hasPrefix q.data.toList [47, 46, 46, 47] = true
    · have hl := prefix_len h5
      simp only [List.length_cons, List.length_nil] at hl
      have hl' : 3 ≤ q.size := by rw [HQ.out]; omega
      clear hl
      go_wp2_with (first
        | (go_at_call 36; refine (begins_calls _ _ _ (by omega) (by decide)).mono ?_; rintro e w' ⟨rfl, rfl⟩)
        | (go_at_call 37; refine (cut_calls _ w.heap.size _ bs HR.out.own).mono ?_; rintro e w' ⟨⟨v', rfl, ho', _⟩, rfl⟩; (have HO' := Lib.hid ho'); clear ho'))
      go_roundw
      case rel => exact ⟨_, _, rfl, HR.out.turn H0.out (by rw [clS_5 h1 h2 h3 H4.out h5, extract_ds]) HO'.out (Below.refl _ _)⟩
      case measure => simp only [strLen, extract_dsize]; omega
    have h5 : Lib.hasPrefix q.data.toList [47, 46, 46, 47] = false := by simpa using h5
    by_cases h6 : q.data.toList = [47, 46, 46]
    · have e6 : (q.toList == [47, 46, 46]) = true := by rw [HQE.out, h6]; rfl
      have H6 := Lib.hid h6
      have hl' : 3 = q.size := by rw [HQ.out, h6]; rfl
      have HL := Lib.hid hl'
      clear h6 hl'
      go_wp2_with (first
        | (go_at_call 36; refine (begins_calls _ _ _ (by omega) (by decide)).mono ?_; rintro e w' ⟨rfl, rfl⟩)
        | (go_at_call 37; refine (cut_calls _ w.heap.size _ bs HR.out.own).mono ?_; rintro e w' ⟨⟨v', rfl, ho', _⟩, rfl⟩; (have HO' := Lib.hid ho'); clear ho'))
      go_roundw
      case rel => exact ⟨_, _, rfl, HR.out.turn H0.out (by rw [clS_6 h1 h2 h3 H4.out h5 H6.out]) HO'.out (Below.refl _ _)⟩
      case measure =>
        have : strLen (.string q) = q.size := rfl
        have h2 : strLen (.string { data := #[47] }) = 1 := rfl
        have := HL.out
        omega
    have e6 : (q.toList == [47, 46, 46]) = false := by rw [HQE.out]; simpa using h6
    have H6 := Lib.hid h6
    clear h6
    by_cases h7 : q.data.toList = [46] ∨ q.data.toList = [46, 46]
    · have H7 := Lib.hid h7
      have hl' : 1 ≤ q.size := by rw [HQ.out]; exact List.length_pos_iff.2 H0.out
      by_cases h8 : q.data.toList = [46]
      · have e7 : (q.toList == [46]) = true := by rw [HQE.out, h8]; rfl
        clear h7 h8
        go_wp2_with (go_at_call 36; refine (begins_calls _ _ _ (by omega) (by decide)).mono ?_; rintro e w' ⟨rfl, rfl⟩)
        go_roundw
        case rel => exact ⟨_, bs, rfl, HR.out.go0 H0.out (by rw [clS_7 h1 h2 h3 H4.out h5 H6.out H7.out])⟩
        case measure =>
          have : strLen (.string q) = q.size := rfl
          have h2 : strLen (.string { data := #[] }) = 0 := rfl
          omega
      · have e7 : (q.toList == [46]) = false := by rw [HQE.out]; simpa using h8
        have e8 : (q.toList == [46, 46]) = true := by
          rcases h7 with h | h
          · exact absurd h h8
          · rw [HQE.out, h]; rfl
        clear h7 h8
        go_wp2_with (go_at_call 36; refine (begins_calls _ _ _ (by omega) (by decide)).mono ?_; rintro e w' ⟨rfl, rfl⟩)
        go_roundw
        case rel => exact ⟨_, bs, rfl, HR.out.go0 H0.out (by rw [clS_7 h1 h2 h3 H4.out h5 H6.out H7.out])⟩
        case measure =>
          have : strLen (.string q) = q.size := rfl
          have h2 : strLen (.string { data := #[] }) = 0 := rfl
          omega
    have e7 : (q.toList == [46]) = false := by rw [HQE.out]; simp; exact fun h => h7 (.inl h)
    have e8 : (q.toList == [46, 46]) = false := by rw [HQE.out]; simp; exact fun h => h7 (.inr h)
    have H7 := Lib.hid h7
    clear h7
    have hl' : 1 ≤ q.size := by rw [HQ.out]; exact List.length_pos_iff.2 H0.out
    have hd := extract_ds q 1
    have hdl := toS_le (q.data.toList.drop 1)
    have hdn : (q.data.toList.drop 1).length = q.size - 1 := by simp
    have hdz := extract_dsize q 1
    have HD := Lib.hid hd
    have HDN := Lib.hid hdn
    have HDZ := Lib.hid hdz
    clear hd hdn hdz
    obtain ⟨i, hi⟩ : ∃ i, i = toS (q.data.toList.drop 1) := ⟨_, rfl⟩
    rw [← hi] at hdl
    have hi' : i + 1 ≤ q.size := by have := HDN.out; omega
    have HI := Lib.hid hi
    obtain ⟨cs, hcs⟩ : ∃ cs, cs = q.data.toList.take (i + 1) := ⟨_, rfl⟩
    have hcls : ∀ q' : ByteArray, q'.data.toList = q.data.toList.drop (i + 1) → clS q.data.toList bs = (q'.data.toList, bs ++ cs) := fun q' e => by rw [clS_8 h1 h2 h3 H4.out h5 H6.out H7.out, e, ← hi, hcs]
    have HC := Lib.hid hcls
    have HCS := Lib.hid hcs
    clear hcs
    have hsz : (q.extract 0 (i + 1)).size = i + 1 := by rw [Lib.size_eq, extract_ts, List.length_take, ← Lib.size_eq]; omega
    have HSZ := Lib.hid hsz
    clear hcls hsz
    have hun : toS (q.data.toList.drop 1) = unt (among [47]) (q.data.toList.drop 1) := toS_among _
    have hst : ∀ w', Calls Try.prog 38 #[.string (q.extract 1 q.size), .string { data := #[47] }] w' fun e w'' => e = .returned (.int .i64 (i : Nat)) ∧ ∃ n, w'' = w'.drewN n := fun w' =>
      (until_calls (q.extract 1 q.size) { data := #[47] } w' (by rw [HDZ.out]; omega) (by decide)).mono fun e w'' ⟨h1, h2⟩ => ⟨h1.trans (ret_int (by
        have := HD.out
        rw [this]
        show ((unt (among [47]) _ : Nat) : Int) = _
        rw [← hun, HI.out])), h2⟩
    have HST := Lib.hid hst
    clear hst hun hi
    rw [show i + 1 = 1 + i by omega] at HSZ HCS HC hi'
    have fin : ∀ (n : Nat) (w1 : World) (v' : Value), Ow .u8 5 w.heap.size w1 v' (nums (bs ++ (q.extract 0 (1 + i)).data.toList)) → (wr.drewN n).grownBy w1 (Value.slice a bs.length c).ownBlock →
        ClD 5 w w1 path (q.extract (1 + i) q.size) (bs ++ cs) v' := by
      intro n w1 v' ho hg
      rw [extract_ts, ← HCS.out] at ho
      exact HR.out.turn H0.out (HC.out _ (extract_ds _ _)) ho ((Go.Tk.below_drewN (Below.refl _ wr) n).trans (below_of_grown hg hwr (fun k e => (HR.out.own.lt k e).1)))
    have FIN := Lib.hid fin
    clear fin
    go_wp2_with (first
      | (go_at_call 36; refine (begins_calls _ _ _ (by omega) (by decide)).mono ?_; rintro e w' ⟨rfl, rfl⟩)
      | (go_at_call 38; refine (HST.out _).mono ?_; rintro e w' ⟨rfl, n1, rfl⟩)
      | (at_builtin; refine wpList_appS rfl _ _ _ _ rfl w.heap.size 5 Try.underlying50 Try.underlying9 Try.infoU8 _ bs rfl (HR.out.own.drewN _) _ rfl (by rw [HSZ.out]; omega) hwr ?_; intro v' w1 ho hg; (have R1 := Lib.hid (FIN.out _ w1 v' ho hg)); clear ho hg))
    go_roundw
    case rel => exact ⟨_, _, rfl, R1.out⟩
    case measure => simp only [strLen, extract_dsize]; omega
end Go.Proofs.Ythdkhlkmcebfeaa
