/- spoilt of right bytes: nothing is. -/
import Derived.Test.YtpphjiialgmidaaRkY
set_option linter.unusedVariables false
set_option linter.unusedSimpArgs false
namespace Go.Proofs.Ytpphjiialgmidaa
open Go.RowKit Go.Tk
set_option maxRecDepth 100000 in
set_option maxHeartbeats 1000000 in
theorem tell_g (w : World) (gv p1 p2 b o L c G Sm M i v : Nat) (hp : G + 4 * i + 4 ≤ L) (hLc : L ≤ c) (hc : c ≤ 9223372036854775807) (hM : M ≤ 1000000000) (hi : i ≤ 1000000000)
    (q1 : w.cell? ⟨p1, 0, none⟩ = some (.pointer (some ⟨gv, 0, none⟩))) (k0 : w.cell? ⟨gv, 0, none⟩ = some (.slice (some ⟨b, o, none⟩) L c)) (k4 : w.cell? ⟨gv, 4, none⟩ = some (.int .i64 (G : Nat))) (k5 : w.cell? ⟨gv, 5, none⟩ = some (.int .i64 (Sm : Nat))) (k6 : w.cell? ⟨gv, 6, none⟩ = some (.int .i64 (M : Nat)))
    (hf : Calls Try.prog 57 #[.slice (some ⟨b, o + (G + 4 * i), none⟩) (L - (G + 4 * i)) (c - (G + 4 * i))] w fun e w' => e = .returned (.int .i64 (v : Nat)) ∧ ∃ q, w' = w.drewN q) :
    Calls Try.prog 64 #[.int .i64 2048, .int .i64 (i : Nat), .int .i64 (v : Nat), .pointer (some ⟨p1, 0, none⟩), .pointer (some ⟨p2, 0, none⟩)] w fun e w' => e = .returned (.bool true) ∧ ∃ q, w' = w.drewN q := by
  have hvv : ((v : Int) != (v : Int)) = false := by simp
  have HF := Lib.hid hf
  clear hf
  go_enter Try.func64, Try.ntmps64
  go_wp2_with (go_at_call 57; (with_reducible refine HF.out.mono ?_); rintro e w5 ⟨rfl, q5, rfl⟩)
  go_ret
  exact ⟨rfl, _, rfl⟩
set_option maxRecDepth 100000 in
set_option maxHeartbeats 1000000 in
theorem tell_s (w : World) (gv p1 p2 b o L c G Sm M i v : Nat) (hp : Sm + 2 * i + 2 ≤ L) (hLc : L ≤ c) (hc : c ≤ 9223372036854775807) (hM : M ≤ 1000000000) (hi : i ≤ 1000000000)
    (q1 : w.cell? ⟨p1, 0, none⟩ = some (.pointer (some ⟨gv, 0, none⟩))) (k0 : w.cell? ⟨gv, 0, none⟩ = some (.slice (some ⟨b, o, none⟩) L c)) (k4 : w.cell? ⟨gv, 4, none⟩ = some (.int .i64 (G : Nat))) (k5 : w.cell? ⟨gv, 5, none⟩ = some (.int .i64 (Sm : Nat))) (k6 : w.cell? ⟨gv, 6, none⟩ = some (.int .i64 (M : Nat)))
    (hf : Calls Try.prog 58 #[.slice (some ⟨b, o + (Sm + 2 * i), none⟩) (L - (Sm + 2 * i)) (c - (Sm + 2 * i))] w fun e w' => e = .returned (.int .i64 (v : Nat)) ∧ ∃ q, w' = w.drewN q) :
    Calls Try.prog 64 #[.int .i64 256, .int .i64 (i : Nat), .int .i64 (v : Nat), .pointer (some ⟨p1, 0, none⟩), .pointer (some ⟨p2, 0, none⟩)] w fun e w' => e = .returned (.bool true) ∧ ∃ q, w' = w.drewN q := by
  have hvv : ((v : Int) != (v : Int)) = false := by simp
  have HF := Lib.hid hf
  clear hf
  go_enter Try.func64, Try.ntmps64
  go_wp2_with (go_at_call 58; (with_reducible refine HF.out.mono ?_); rintro e w5 ⟨rfl, q5, rfl⟩)
  go_ret
  exact ⟨rfl, _, rfl⟩
set_option maxRecDepth 100000 in
set_option maxHeartbeats 1000000 in
theorem tell_m (w : World) (gv p1 p2 b o L c G Sm M i v : Nat) (hp : M + 4 * i + 4 ≤ L) (hLc : L ≤ c) (hc : c ≤ 9223372036854775807) (hM : M ≤ 1000000000) (hi : i ≤ 1000000000)
    (q1 : w.cell? ⟨p1, 0, none⟩ = some (.pointer (some ⟨gv, 0, none⟩))) (k0 : w.cell? ⟨gv, 0, none⟩ = some (.slice (some ⟨b, o, none⟩) L c)) (k4 : w.cell? ⟨gv, 4, none⟩ = some (.int .i64 (G : Nat))) (k5 : w.cell? ⟨gv, 5, none⟩ = some (.int .i64 (Sm : Nat))) (k6 : w.cell? ⟨gv, 6, none⟩ = some (.int .i64 (M : Nat)))
    (hf : Calls Try.prog 57 #[.slice (some ⟨b, o + (M + 4 * i), none⟩) (L - (M + 4 * i)) (c - (M + 4 * i))] w fun e w' => e = .returned (.int .i64 (v : Nat)) ∧ ∃ q, w' = w.drewN q) :
    Calls Try.prog 64 #[.int .i64 512, .int .i64 (i : Nat), .int .i64 (v : Nat), .pointer (some ⟨p1, 0, none⟩), .pointer (some ⟨p2, 0, none⟩)] w fun e w' => e = .returned (.bool true) ∧ ∃ q, w' = w.drewN q := by
  have hvv : ((v : Int) != (v : Int)) = false := by simp
  have HF := Lib.hid hf
  clear hf
  go_enter Try.func64, Try.ntmps64
  go_wp2_with (go_at_call 57; (with_reducible refine HF.out.mono ?_); rintro e w5 ⟨rfl, q5, rfl⟩)
  go_ret
  exact ⟨rfl, _, rfl⟩
theorem cf_spoilt {x1 x2 : Value} (p q r : Int) (w : World) : (callFunc 64 #[.int .i64 p, .int .i64 q, .int .i64 r, x1, x2]).run Try.prog w = .ok (.enter 64 #[.int .i64 p, .int .i64 q, .int .i64 r, x1, x2]) w := by kernel_rfl
theorem tell_wh (w : World) (gv p1 p2 : Nat) (a : Option Addr) (c : Nat) (d : List UInt8) (N : Nat) (hl : d.length = (N + 7) / 8) (hv : VecAt w gv a c (whB d N) N (cntB d N)) (q1 : w.cell? ⟨p1, 0, none⟩ = some (.pointer (some ⟨gv, 0, none⟩))) (part i v : Nat) (ht : Vt d N (part, i, v)) :
    Calls Try.prog 64 #[.int .i64 (part : Nat), .int .i64 (i : Nat), .int .i64 (v : Nat), .pointer (some ⟨p1, 0, none⟩), .pointer (some ⟨p2, 0, none⟩)] w fun e w' => e = .returned (.bool true) ∧ ∃ q, w' = w.drewN q := by
  obtain ⟨e1, e2, e3, e4⟩ := o_eq hl
  have hN := hv.nN
  have hcn := cnt_le d N
  have hlen : (whB d N).length = enO d N := wh_len' d N
  have hE : enO d N ≤ 100000000 := by unfold enO mkO smO grO; omega
  have h8 : 8 ≤ enO d N := by unfold enO mkO smO grO; omega
  obtain ⟨b, o, rfl, _⟩ := hv.sl.cell 0 (by omega)
  have k0 := hv.k0
  have k4 := hv.k4
  have k5 := hv.k5
  have k6 : w.cell? ⟨gv, 6, none⟩ = some (.int .i64 (oM N : Nat)) := cell_of_row w gv 6 _ _ _ hv.row
  rw [e1] at k4
  rw [e2] at k5
  rw [e3] at k6
  obtain ⟨w1, w2⟩ := wh_at ht
  have hvb := vt_le ht hN
  have hMb : mkO d N ≤ 1000000000 := by have : mkO d N ≤ enO d N := by unfold enO; omega
                                        omega
  have ht' := ht
  rcases ht with ⟨h1, h2⟩ | ⟨h1, h2⟩ | ⟨h1, h2⟩
  · simp only at h1 h2
    subst h1
    have ep : posT d N (2048, i, v) = grO d + 4 * i := rfl
    have es : szT (2048, i, v) = 4 := rfl
    rw [ep, es] at w1 w2
    have hvv : v < 4294967296 := by omega
    have s4 := hv.sl.tail (grO d + 4 * i) (by omega)
    rw [nums_drop, if_neg (by have := hv.sl.le; omega)] at s4
    simp only [Option.map_some, Addr.add_lit] at s4
    have hf := four_calls w _ _ _ _ s4 (by omega)
    rw [f4_drop, f4_of w2 hvv] at hf
    exact tell_g w gv p1 p2 b o (whB d N).length c (grO d) (smO d N) (mkO d N) i v (by omega) hv.sl.le hv.sl.max hMb (by omega) q1 k0 k4 k5 k6 hf
  · simp only at h1 h2
    subst h1
    have ep : posT d N (256, i, v) = smO d N + 2 * i := rfl
    have es : szT (256, i, v) = 2 := rfl
    rw [ep, es] at w1 w2
    have hvv : v < 65536 := by
      have hi := (List.getElem?_eq_some_iff.1 h2).1
      rw [sm_len] at hi
      rw [sm_get d i N (by omega)] at h2
      have := Option.some.inj h2
      have g2 := cnt_add d (i / 8 * 2048) (i * 256 - i / 8 * 2048)
      rw [show i / 8 * 2048 + (i * 256 - i / 8 * 2048) = i * 256 by omega] at g2
      omega
    have s4 := hv.sl.tail (smO d N + 2 * i) (by omega)
    rw [nums_drop, if_neg (by have := hv.sl.le; omega)] at s4
    simp only [Option.map_some, Addr.add_lit] at s4
    have hf := two_calls w _ _ _ _ s4 (by omega)
    rw [f2_drop, f2_of w2 hvv] at hf
    exact tell_s w gv p1 p2 b o (whB d N).length c (grO d) (smO d N) (mkO d N) i v (by omega) hv.sl.le hv.sl.max hMb (by omega) q1 k0 k4 k5 k6 hf
  · simp only at h1 h2
    subst h1
    have ep : posT d N (512, i, v) = mkO d N + 4 * i := rfl
    have es : szT (512, i, v) = 4 := rfl
    rw [ep, es] at w1 w2
    have hvv : v < 4294967296 := by omega
    have s4 := hv.sl.tail (mkO d N + 4 * i) (by omega)
    rw [nums_drop, if_neg (by have := hv.sl.le; omega)] at s4
    simp only [Option.map_some, Addr.add_lit] at s4
    have hf := four_calls w _ _ _ _ s4 (by omega)
    rw [f4_drop, f4_of w2 hvv] at hf
    exact tell_m w gv p1 p2 b o (whB d N).length c (grO d) (smO d N) (mkO d N) i v (by omega) hv.sl.le hv.sl.max hMb (by omega) q1 k0 k4 k5 k6 hf
end Go.Proofs.Ytpphjiialgmidaa
