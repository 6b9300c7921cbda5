/- UtfBytes: utf.Bytes answers the document's bytes, twice, each its holder's. -/
import Derived.Test.YthloijpnbljpeaaUtfEnc
import Derived.Test.YthloijpnbljpeaaSamesameBytes
namespace Go.Proofs.Ythloijpnbljpeaa
open Go.RowKit Go.Tk
theorem bytes_yes (r : Int) (w : World) (h : scalarB r = true) :
    Calls Try.prog 6 #[.int .i32 r] w fun e w' => e = .returned (.tuple #[.slice (some ⟨w.heap.size, 0, none⟩) (encZ r).length (encZ r).length, .int .i64 0]) ∧ Fresh .u8 5 w w' w.heap.size (encZ r) := by
  have hr : 0 ≤ r ∧ r ≤ 1114111 := by simp only [scalarB, decide_eq_true_eq] at h; omega
  obtain ⟨h0, h1⟩ := hr
  go_enter Try.func6, Try.ntmps6
  go_wp2_with (first
    | (go_at_call 18; refine (scalar_calls _ _).mono ?_; rintro e w' ⟨rfl, rfl⟩)
    | (go_at_call 19; refine (ubytes_calls _ _ h0 h1).mono ?_; rintro e w' ⟨rfl, hf⟩))
  go_ret2
  exact ⟨rfl, hf⟩
theorem bytes_no (r : Int) (w : World) (h : scalarB r = false) :
    Calls Try.prog 6 #[.int .i32 r] w fun e w' => e = .returned (.tuple #[.slice none 0 0, .int .i64 40]) ∧ w = w' := by
  go_enter Try.func6, Try.ntmps6
  go_wp2_with (go_at_call 18; refine (scalar_calls _ _).mono ?_; rintro e w' ⟨rfl, rfl⟩)
  go_ret2
  exact ⟨rfl, rfl⟩
theorem rscalar_calls (r : Int) (w : World) : Calls Try.prog 7 #[.int .i64 r] w fun e w' => e = .returned (.bool (scalarB r)) ∧ w = w' := by
  by_cases a : 0 ≤ r
  · by_cases b : r ≤ 1114111
    · by_cases c : r < 55296
      · have e : scalarB r = true := by simp [scalarB]; omega
        rw [e]; go_enter Try.func7, Try.ntmps7
        go_wp2
        go_ret
        exact ⟨by simp [a, b, c], rfl⟩
      · have e : scalarB r = decide (57343 < r) := by unfold scalarB; exact decide_eq_decide.2 (by omega)
        rw [e]; go_enter Try.func7, Try.ntmps7
        go_wp2
        go_ret
        exact ⟨by simp [a, b, c], rfl⟩
    · have e : scalarB r = false := by simp [scalarB]; omega
      rw [e]; go_enter Try.func7, Try.ntmps7
      go_wp2
      go_ret
      exact ⟨by simp [a, b], rfl⟩
  · have e : scalarB r = false := by simp [scalarB]; omega
    rw [e]; go_enter Try.func7, Try.ntmps7
    go_wp2
    go_ret
    exact ⟨by simp [a], rfl⟩
theorem num_calls (n : Int) (w : World) (h0 : 0 ≤ n) (h1 : n ≤ 1000) : Calls Try.prog 8 #[.int .i64 n] w fun e w' => e = .returned (.int .i64 n) ∧ w = w' := by
  go_enter Try.func8, Try.ntmps8
  go_wp2
  go_ret
  exact ⟨rfl, rfl⟩
theorem utfbytes_go (r : Int) (hr : (Lit.int .i32 r).wf = true) (w : World) :
    Calls Try.prog 3 #[.int .i32 r] w fun e w' => e = .returned (.bool true) ∧ Below w.heap.size w w' := by
  have hb : -2147483648 ≤ r ∧ r ≤ 2147483647 := by simp [Lit.wf, IntKind.min, IntKind.max, IntKind.bits, IntKind.signed] at hr; omega
  obtain ⟨hb1, hb2⟩ := hb
  by_cases h : scalarB r = true
  · obtain ⟨i0, hi, hz0, hz1, hz2⟩ := info_parts Try.infoU8
    have hlen := encZ_len r
    go_enter Try.func3, Try.ntmps3
    go_wp2_with fail
    refine (bytes_yes _ _ h).mono ?_
    rintro e w1 ⟨rfl, f1⟩
    go_wp2_with fail
    refine (bytes_yes _ _ h).mono ?_
    rintro e w2 ⟨rfl, f2⟩
    go_wp2_with (go_at_call 7; refine (rscalar_calls _ _).mono ?_; rintro e w' ⟨rfl, rfl⟩)
    refine (rbytes_calls _ _ (by simp only [scalarB, decide_eq_true_eq] at h; omega) (by simp only [scalarB, decide_eq_true_eq] at h; omega)).mono ?_
    rintro e w3 ⟨rfl, f3⟩
    have z1 := f1.row.lt
    have z2 := f2.row.lt
    have z3 := f3.row.lt
    have r1 := (f1.row.below f2.below z1).below f3.below (by omega)
    have r2 := f2.row.below f3.below z2
    have r3 := f3.row
    have b3 : Below w.heap.size w w3 := (f1.below.trans (f2.below.mono (by omega))).trans (f3.below.mono (by omega))
    have s1 := r1.sl _ _ (Nat.le_refl _) rfl (by omega)
    have s2 := r2.sl _ _ (Nat.le_refl _) rfl (by omega)
    have s3 := r3.sl _ _ (Nat.le_refl _) rfl (by omega)
    rw [List.take_length] at s1 s2 s3
    clear f1 f2 f3
    go_wp2_with (go_at_call 8; refine (num_calls _ _ (by omega) (by omega)).mono ?_; rintro e w' ⟨rfl, rfl⟩)
    refine (sameBytes_calls _ _ _ _ _ _ _ _ _ s1 s3).mono ?_
    rintro e w' ⟨rfl, n1, rfl⟩
    rw [sameB_yes rfl]
    go_wp2_with fail
    refine (sameBytes_calls _ _ _ _ _ _ _ _ _ (s2.drewN _) (s3.drewN _)).mono ?_
    rintro e w' ⟨rfl, n2, rfl⟩
    rw [sameB_yes rfl]
    go_wp2_with fail
    have q1 : RowI .u8 5 (w3.drewN (n1 + n2)) w.heap.size (encZ r) := r1
    have q2 : RowI .u8 5 (w3.drewN (n1 + n2)) w1.heap.size (encZ r) := r2
    have q3 : RowI .u8 5 (w3.drewN (n1 + n2)) w2.heap.size (encZ r) := r3
    have b4 : Below w.heap.size w (w3.drewN (n1 + n2)) := below_drewN b3 _
    have z4 : w2.heap.size < (w3.drewN (n1 + n2)).heap.size := z3
    clear r1 r2 r3 b3 s1 s2 s3
    generalize w3.drewN (n1 + n2) = w4 at *
    go_loopw [8] (fun i wr => ∃ (k : Nat) (za : List Int), k ≤ (encZ r).length ∧ i = .int .i64 (k : Nat) ∧ za.length = (encZ r).length ∧ RowI .u8 5 wr w.heap.size za ∧ w4.grownBy wr (some w.heap.size)) (fun i _ => (encZ r).length - (intOf i).toNat)
    case atStart => exact ⟨0, encZ r, Nat.zero_le _, rfl, rfl, q1, World.grownBy.refl _ _⟩
    case round =>
      obtain ⟨k, za, hk, rfl, hza, hrow, hgr⟩ := hrel
      by_cases hlt : k < (encZ r).length
      · have hc := hrow.cell k (by omega)
        have hf := hrow.frozen k
        have HZ := Lib.hid hza
        obtain ⟨x, hx⟩ : ∃ x, x = za.getD k 0 := ⟨_, rfl⟩
        rw [← hx] at hc
        clear hza hx
        go_wp2
        go_roundw
        case rel => exact ⟨k + 1, za.set k 1, by omega, by go_num, by rw [List.length_set]; exact HZ.out, hrow.set k 1, grownBy_setCell hgr _ _⟩
        case measure => simp [intOf]; omega
      · have e1 : wr.heap[w1.heap.size]? = w4.heap[w1.heap.size]? := hgr.block _ (by omega) (by simp; omega)
        have e2 : wr.heap[w2.heap.size]? = w4.heap[w2.heap.size]? := hgr.block _ (by omega) (by simp; omega)
        have g2 : RowI .u8 5 wr w1.heap.size (encZ r) := e1.trans q2
        have g3 : RowI .u8 5 wr w2.heap.size (encZ r) := e2.trans q3
        have gb : Below w.heap.size w wr := b4.trans (below_of_grown hgr (by omega) (by simp))
        have gow : Ow .u8 5 w.heap.size wr (.slice (some ⟨w.heap.size, 0, none⟩) (encZ r).length (encZ r).length) za := by
          have := hrow.ow (Nat.le_refl _) (by omega)
          rwa [hza] at this
        have gz := hgr.size
        clear e1 e2 q1 q2 q3 b4 hrow hgr
        obtain ⟨wo, hwo⟩ : ∃ wo : World, wo = wr := ⟨_, rfl⟩
        rw [← hwo] at g2 g3 gb gow gz ⊢
        clear hwo
        have ZA := Lib.hid hza
        clear hza
        go_wp2_with fail
        go_loopw [3, 9] (fun v i wr => ∃ (k : Nat) (zs : List Int), k ≤ 20 ∧ i = .int .i64 (k : Nat) ∧ zs.length = (encZ r).length + k ∧ Ow .u8 5 w.heap.size wr v zs ∧ v.ownBlock ≠ some w1.heap.size ∧ v.ownBlock ≠ some w2.heap.size ∧
          RowI .u8 5 wr w1.heap.size (encZ r) ∧ RowI .u8 5 wr w2.heap.size (encZ r) ∧ Below w.heap.size w wr) (fun _ i _ => 20 - (intOf i).toNat)
        case atStart => exact ⟨0, za, by omega, rfl, ZA.out, gow, by simp [Value.ownBlock]; omega, by simp [Value.ownBlock]; omega, g2, g3, gb⟩
        case round =>
          obtain ⟨k, zs, hk, rfl, hzs, how, hv1, hv2, h2, h3, hb⟩ := hrel
          have t2 := h2.lt
          have t3 := h3.lt
          by_cases hlt : k < 20
          · have HZ := Lib.hid hzs
            have hsz := hb.size
            go_wp2_with (at_builtin; refine wpList_appI rfl (.tmp 80) (.tmp 81) _ rfl .u8 w.heap.size 5 i0 _ 1 Try.underlying22 hi hz0 hz1 hz2 rfl _ zs rfl (how.alloc _) _ 1 1 [2] rfl (SlI.one _ _ _ _) (by simp) (by omega) (by omega) (by simp; omega) ?_; intro v' w' how' hgr' hst')
            have gb2 : Below w.heap.size wr w' := ((Below.refl _ wr).alloc hsz _).trans (below_of_grown hgr' (by simp; omega) (fun g hg => (how.lt g hg).1))
            have k2 : RowI .u8 5 w' w1.heap.size (encZ r) := RowI.grown (show RowI .u8 5 (wr.alloc _) _ _ from (Below.heap_alloc _ _ _ t2).trans h2) hgr' (fun e => hv1 e.symm)
            have k3 : RowI .u8 5 w' w2.heap.size (encZ r) := RowI.grown (show RowI .u8 5 (wr.alloc _) _ _ from (Below.heap_alloc _ _ _ t3).trans h3) hgr' (fun e => hv2 e.symm)
            have n1 : v'.ownBlock ≠ some w1.heap.size := by
              rcases hst' with e | ⟨g, e, hg⟩
              · rw [e]; exact hv1
              · rw [e]; simp at hg ⊢; omega
            have n2 : v'.ownBlock ≠ some w2.heap.size := by
              rcases hst' with e | ⟨g, e, hg⟩
              · rw [e]; exact hv2
              · rw [e]; simp at hg ⊢; omega
            clear how hgr' hst' h2 h3 hv1 hv2
            go_wp2
            go_roundw
            case rel => exact ⟨k + 1, zs ++ [2], by omega, by go_num, by rw [List.length_append, HZ.out]; simp; omega, how', n1, n2, k2, k3, hb.trans gb2⟩
            case measure => simp [intOf]; omega
          · have s2 := h2.sl _ _ (Nat.le_refl _) rfl (by omega)
            have s3 := h3.sl _ _ (Nat.le_refl _) rfl (by omega)
            rw [List.take_length] at s2 s3
            clear hzs
            go_wp2_with (go_at_call 10; refine (sameBytes_calls _ _ _ _ _ _ _ _ _ s2 s3).mono ?_; rintro e w' ⟨rfl, n3, rfl⟩; rw [sameB_yes rfl])
            go_ret
            exact ⟨rfl, below_drewN hb _⟩
  · have h' : scalarB r = false := by simpa using h
    go_enter Try.func3, Try.ntmps3
    go_wp2_with (first
      | (go_at_call 6; refine (bytes_no _ _ h').mono ?_; rintro e w' ⟨rfl, rfl⟩)
      | (go_at_call 7; refine (rscalar_calls _ _).mono ?_; rintro e w' ⟨rfl, rfl⟩)
      | (go_at_call 8; refine (num_calls _ _ (by omega) (by omega)).mono ?_; rintro e w' ⟨rfl, rfl⟩))
    go_ret
    exact ⟨rfl, Below.refl _ _⟩
end Go.Proofs.Ythloijpnbljpeaa
