/- Unescape: the document's. -/
import Derived.Test.YthloijpnbljpeaaDoorUtfUn
import Derived.Test.YthloijpnbljpeaaDoorUtfER
set_option linter.unusedVariables false
set_option linter.unusedSimpArgs false
namespace Go.Proofs.YthloijpnbljpeaaDoor
open Go.RowKit Go.Tk
theorem ow_cat {w : World} {e : TypeId} {base : Nat} {v : Value} {a b : List UInt8} (h : Ow .u8 e base w v (nums a ++ nums b)) : Ow .u8 e base w v (nums (a ++ b)) := by
  have e : nums (a ++ b) = nums a ++ nums b := by simp [nums]
  rw [e]; exact h
set_option maxRecDepth 100000 in
set_option maxHeartbeats 4000000 in
theorem runescape_calls (s : ByteArray) (way : Int) (w : World) (hs : s.size ≤ 8000000) :
    Calls Tryd.prog 20 #[.string s, .int .i64 way] w fun e w' => e = .returned (.tuple #[.string ⟨(unF s.data.toList 0 way).1.toArray⟩, .agg #[.int .i64 (unF s.data.toList 0 way).2.1, .int .i64 (unF s.data.toList 0 way).2.2]]) ∧ Below w.heap.size w w' := by
  obtain ⟨l, hl⟩ : ∃ l, l = s.data.toList := ⟨_, rfl⟩
  have hll : l.length = s.size := by rw [hl, Lib.size_eq]
  have hrn := fun (k : Nat) (w : World) => rnext_calls s (k : Int) w (by omega)
  simp only [nextI_at] at hrn
  have hes := fun (k : Nat) (hk : k < s.size) (w : World) => resc_calls s k way w hs hk
  rw [← hl] at hrn hes ⊢
  have HLL := Lib.hid hll
  have HRN := Lib.hid hrn
  have HES := Lib.hid hes
  clear hl hll hrn hes
  have HI := Lib.hid Tryd.sizeFault'
  have hrow : (w.alloc (.cells #[.int .i64 0, .int .i64 0] 30)).heap[w.heap.size]? = some (.cells #[.int .i64 0, .int .i64 0] 30 (0, 0)) := heap_alloc_new w _
  have HROW := Lib.hid hrow
  have hB0 := (Below.refl w.heap.size w).alloc (Nat.le_refl _) (.cells #[.int .i64 0, .int .i64 0] 30)
  have HB0 := Lib.hid hB0
  clear hrow hB0
  go_enter Tryd.func20, Tryd.ntmps20
  go_wp2
  go_loopw [6, 7, 8, 9] (fun ov iv _ _ wr => ∃ (k : Nat) (acc : List UInt8), iv = .int .i64 (k : Nat) ∧ Ow .u8 5 (w.heap.size + 1) wr ov (nums acc) ∧ wr.heap[w.heap.size]? = some (.cells #[.int .i64 0, .int .i64 0] 30 (0, 0)) ∧ Below w.heap.size w wr ∧ consU acc (unF (l.drop k) k way) = unF l 0 way ∧ k ≤ s.size + 10 ∧ acc.length ≤ 4 * k ∧ w.heap.size + 1 ≤ wr.heap.size) (fun _ iv _ _ _ => s.size - (intOf iv).toNat)
  case atStart => exact ⟨0, [], rfl, Ow.nil _ _ _ _, HROW.out, HB0.out, by rw [List.drop_zero]; exact unF_start l 0 way, by omega, by simp, by simp⟩
  case round =>
    obtain ⟨k, acc, rfl, how, hr, hbw, hacc, hks, hal, hsz⟩ := hrel
    by_cases hp : k < s.size
    · have hne : l.drop k ≠ [] := by
        intro e
        have := congrArg List.length e
        rw [List.length_drop, HLL.out] at this; simp at this; omega
      rw [unF_step k way hne] at hacc
      obtain ⟨R, n, hd⟩ : ∃ R n, dec (l.drop k) = (R, n) := ⟨_, _, rfl⟩
      have hcall := HRN.out k
      rw [hd] at hacc hcall
      simp only at hacc hcall
      have HCALL := Lib.hid hcall
      have HOW := Lib.hid how
      have HRR := Lib.hid hr
      have HBW := Lib.hid hbw
      clear hcall how hr hbw hne
      by_cases n0 : n = 0
      · have HA := Lib.hid (by rw [if_pos n0] at hacc; exact hacc : consU acc ([], (k : Int), 40) = unF l 0 way)
        have b0 : ((n : Int) == 0) = true := by simp [n0]
        clear hacc hd
        go_wp2_with (go_at_call 31; refine (HCALL.out _).mono ?_; rintro e w2 ⟨rfl, hb2⟩; (have hr2 := (hb2.block _ (by omega)).trans HRR.out); (have d0 := cell_row0' hr2); (have d1 := cell_row1' hr2); (have g0 := frozen_of_row _ _ 0 _ _ hr2); (have g1 := frozen_of_row _ _ 1 _ _ hr2); (have HR2 := Lib.hid hr2); (have HBW2 := Lib.hid (HBW.out.trans (hb2.mono HBW.out.size))); clear hb2 hr2)
        have e1 : unF l 0 way = ([], (k : Int), 40) := by rw [← HA.out]; rfl
        rw [e1]
        refine bodyPost_ret (results_tc rfl _ _ w.heap.size _ _ _ _ rfl (store2 HR2.out) Tryd.underlying30 rfl HI.out) rfl ⟨rfl, ?_⟩
        exact (HBW2.out.setCell (p := ⟨w.heap.size, 0, none⟩) (Nat.le_refl _) _).setCell (p := ⟨w.heap.size, 1, none⟩) (Nat.le_refl _) _
      · have b0 : ((n : Int) == 0) = false := by simp [n0]
        rw [if_neg n0] at hacc
        have hRs := (dec_yes hd n0).1
        by_cases r92 : R = 92
        · subst r92
          rw [if_pos rfl] at hacc
          have hcall2 := HES.out k hp
          obtain ⟨R2, n2, he⟩ : ∃ R n, escI (l.drop k) way = (R, n) := ⟨_, _, rfl⟩
          rw [he] at hacc hcall2
          simp only at hacc hcall2
          have HCALL2 := Lib.hid hcall2
          clear hcall2 hd hRs
          by_cases m0 : n2 = 0
          · have HA := Lib.hid (by rw [if_pos m0] at hacc; exact hacc : consU acc ([], (k : Int), 41) = unF l 0 way)
            have c0 : ((n2 : Int) == 0) = true := by simp [m0]
            clear hacc he
            go_wp2_with (first
              | (go_at_call 31; refine (HCALL.out _).mono ?_; rintro e w2 ⟨rfl, hb2⟩; (have hr2 := (hb2.block _ (by omega)).trans HRR.out); (have d0 := cell_row0' hr2); (have d1 := cell_row1' hr2); (have g0 := frozen_of_row _ _ 0 _ _ hr2); (have g1 := frozen_of_row _ _ 1 _ _ hr2); (have HR2 := Lib.hid hr2); (have HBW2 := Lib.hid (HBW.out.trans (hb2.mono HBW.out.size))); clear hb2 hr2)
              | (go_at_call 37; refine (HCALL2.out _).mono ?_; rintro e w3 ⟨rfl, rfl⟩))
            have e1 : unF l 0 way = ([], (k : Int), 41) := by rw [← HA.out]; rfl
            rw [e1]
            refine bodyPost_ret (results_tc rfl _ _ w.heap.size _ _ _ _ rfl (store2 HR2.out) Tryd.underlying30 rfl HI.out) rfl ⟨rfl, ?_⟩
            exact (HBW2.out.setCell (p := ⟨w.heap.size, 0, none⟩) (Nat.le_refl _) _).setCell (p := ⟨w.heap.size, 1, none⟩) (Nat.le_refl _) _
          · rw [if_neg m0] at hacc
            have hok := escI_ok (l := l.drop k) (way := way) (by rw [he]; exact m0)
            rw [he] at hok
            simp only at hok
            obtain ⟨hR, hn10, hn2⟩ := hok
            have c0 : ((n2 : Int) == 0) = false := by simp [m0]
            rw [consU_cat, List.drop_drop] at hacc
            have HA := Lib.hid hacc
            have HR := Lib.hid hR
            have hb4 := encB_len (r := R2)
            clear hacc he hR
            go_wp2_with (first
              | (go_at_call 31; refine (HCALL.out _).mono ?_; rintro e w2 ⟨rfl, hb2⟩; (have HOW2 := Lib.hid (HOW.out.below hb2 (fun g hg => (HOW.out.lt g hg).2))); (have HRR2 := Lib.hid ((hb2.block _ (by omega)).trans HRR.out)); (have HBW2 := Lib.hid (HBW.out.trans (hb2.mono HBW.out.size))); (have hsz2 := Nat.le_trans hsz hb2.size); clear hb2)
              | (go_at_call 37; refine (HCALL2.out _).mono ?_; rintro e w3 ⟨rfl, rfl⟩)
              | (go_at_call 38; refine (rbytes_calls R2 _ ((scalarB_iff R2).1 HR.out).1 ((scalarB_iff R2).1 HR.out).2.1).mono ?_; rintro e w3 ⟨rfl, hf⟩; (have HOW3 := Lib.hid (HOW2.out.below hf.below (fun g hg => (HOW2.out.lt g hg).2))); (have HRR3 := Lib.hid ((hf.below.block _ (by omega)).trans HRR2.out)); (have HBW3 := Lib.hid (HBW2.out.trans (hf.below.mono HBW2.out.size))); (have hsz3 := Nat.le_trans hsz2 hf.below.size); (have hsl3 := hf.row.sl (encZ R2).length (encZ R2).length (Nat.le_refl _) rfl (by have := (encZ_len R2).2; omega)); (have HSL3 := Lib.hid (show SlI .u8 _ _ _ _ (nums (encB R2)) by rw [nums_encB' HR.out]; rw [List.take_length] at hsl3; exact hsl3)); clear hf hsl3)
              | (at_builtin; refine wpList_appJ rfl _ _ _ rfl .u8 (w.heap.size + 1) 5 _ 1 Tryd.underlying28 Tryd.infoU8 rfl _ (nums acc) rfl HOW3.out _ _ _ (nums (encB R2)) rfl HSL3.out (by simp) (by rw [nums_len]; have := (encZ_len R2).2; omega) (by rw [nums_len]; have := (encZ_len R2).2; omega) hsz3 ?_; intro v4 w4 how4 hg4 _; (have HOW4 := Lib.hid (show Ow .u8 5 (w.heap.size + 1) w4 v4 (nums (acc ++ encB R2)) from ow_cat how4)); (have HRR4 := Lib.hid ((hg4.block w.heap.size (by omega) (fun e => by have := (HOW3.out.lt _ e.symm).1; omega)).trans HRR3.out)); (have HBW4 := Lib.hid (HBW3.out.grown hg4 HBW3.out.size (fun g hg => by have := (HOW3.out.lt g hg).1; omega))); (have hsz4 := Nat.le_trans hsz3 hg4.size); clear how4 hg4))
            go_roundw
            case rel => exact ⟨k + n2, acc ++ encB R2, by go_num, HOW4.out, HRR4.out, HBW4.out, by have := HA.out; push_cast; exact this, by omega, by simp; omega, hsz4⟩
            case measure => simp [intOf]; omega
        · have e92 : (R == 92) = false := beq_eq_false_iff_ne.2 r92
          rw [if_neg r92] at hacc
          have hle := dec_le (l.drop k)
          rw [hd, List.length_drop, HLL.out] at hle
          simp only at hle
          rw [consU_cat, List.drop_drop] at hacc
          have HA := Lib.hid hacc
          have HR := Lib.hid hRs
          have hb4 := encB_len (r := R)
          clear hacc hd hRs
          go_wp2_with (first
            | (go_at_call 31; refine (HCALL.out _).mono ?_; rintro e w2 ⟨rfl, hb2⟩; (have HOW2 := Lib.hid (HOW.out.below hb2 (fun g hg => (HOW.out.lt g hg).2))); (have HRR2 := Lib.hid ((hb2.block _ (by omega)).trans HRR.out)); (have HBW2 := Lib.hid (HBW.out.trans (hb2.mono HBW.out.size))); (have hsz2 := Nat.le_trans hsz hb2.size); clear hb2)
            | (go_at_call 38; refine (rbytes_calls R _ ((scalarB_iff R).1 HR.out).1 ((scalarB_iff R).1 HR.out).2.1).mono ?_; rintro e w3 ⟨rfl, hf⟩; (have HOW3 := Lib.hid (HOW2.out.below hf.below (fun g hg => (HOW2.out.lt g hg).2))); (have HRR3 := Lib.hid ((hf.below.block _ (by omega)).trans HRR2.out)); (have HBW3 := Lib.hid (HBW2.out.trans (hf.below.mono HBW2.out.size))); (have hsz3 := Nat.le_trans hsz2 hf.below.size); (have hsl3 := hf.row.sl (encZ R).length (encZ R).length (Nat.le_refl _) rfl (by have := (encZ_len R).2; omega)); (have HSL3 := Lib.hid (show SlI .u8 _ _ _ _ (nums (encB R)) by rw [nums_encB' HR.out]; rw [List.take_length] at hsl3; exact hsl3)); clear hf hsl3)
            | (at_builtin; refine wpList_appJ rfl _ _ _ rfl .u8 (w.heap.size + 1) 5 _ 1 Tryd.underlying28 Tryd.infoU8 rfl _ (nums acc) rfl HOW3.out _ _ _ (nums (encB R)) rfl HSL3.out (by simp) (by rw [nums_len]; have := (encZ_len R).2; omega) (by rw [nums_len]; have := (encZ_len R).2; omega) hsz3 ?_; intro v4 w4 how4 hg4 _; (have HOW4 := Lib.hid (show Ow .u8 5 (w.heap.size + 1) w4 v4 (nums (acc ++ encB R)) from ow_cat how4)); (have HRR4 := Lib.hid ((hg4.block w.heap.size (by omega) (fun e => by have := (HOW3.out.lt _ e.symm).1; omega)).trans HRR3.out)); (have HBW4 := Lib.hid (HBW3.out.grown hg4 HBW3.out.size (fun g hg => by have := (HOW3.out.lt g hg).1; omega))); (have hsz4 := Nat.le_trans hsz3 hg4.size); clear how4 hg4))
          go_roundw
          case rel => exact ⟨k + n, acc ++ encB R, by go_num, HOW4.out, HRR4.out, HBW4.out, by have := HA.out; push_cast; exact this, by omega, by simp; omega, hsz4⟩
          case measure => simp [intOf]; omega
    · have hz : l.drop k = [] := List.drop_of_length_le (by rw [HLL.out]; omega)
      rw [hz, unF_nil] at hacc
      have e1 : unF l 0 way = (acc, 0, 0) := by rw [← hacc]; simp [consU]
      obtain ⟨a, cc, rfl, hsl, _⟩ := how.sl
      have hcv := SlI.bytes (P := Tryd.prog) Tryd.underlying28 Tryd.underlying5 Tryd.underlying9 (b := acc) (by rw [nums_len] at hsl; exact hsl)
      rw [nums_len]
      have d0 := cell_row0' hr
      have d1 := cell_row1' hr
      have g0 := frozen_of_row _ _ 0 _ _ hr
      have g1 := frozen_of_row _ _ 1 _ _ hr
      have HA := Lib.hid e1
      have HBW := Lib.hid hbw
      have HRR := Lib.hid hr
      clear hacc hbw hz hr hsl how e1
      go_wp2
      rw [HA.out]
      refine bodyPost_ret (results_tc rfl _ _ w.heap.size _ _ _ _ rfl (store2 HRR.out) Tryd.underlying30 rfl HI.out) rfl ⟨rfl, (HBW.out.setCell (p := ⟨w.heap.size, 0, none⟩) (Nat.le_refl _) _).setCell (p := ⟨w.heap.size, 1, none⟩) (Nat.le_refl _) _⟩
end Go.Proofs.YthloijpnbljpeaaDoor
