/- Answers of right bytes' vectors; works. -/
import Derived.Test.YtpphjiialgmidaaRkM
set_option linter.unusedVariables false
set_option linter.unusedSimpArgs false
namespace Go.Proofs.Ytpphjiialgmidaa
open Go.RowKit Go.Tk
theorem vlen {w : World} {gv : Nat} {d : List UInt8} {N : Nat} (h : Vec w gv d N) : Calls Try.prog 26 #[.pointer (some ⟨gv, 0, none⟩)] w fun e w' => e = .returned (.int .i64 (N : Nat)) ∧ w' = w := by
  obtain ⟨a, c, h, hl⟩ := h
  exact (len_calls h).mono fun e w' ⟨h1, h2⟩ => ⟨h1, h2.symm⟩
theorem vones {w : World} {gv : Nat} {d : List UInt8} {N : Nat} (h : Vec w gv d N) : Calls Try.prog 32 #[.pointer (some ⟨gv, 0, none⟩)] w fun e w' => e = .returned (.int .i64 (cntB d N : Nat)) ∧ w' = w := by
  obtain ⟨a, c, h, hl⟩ := h
  exact (ones_calls h).mono fun e w' ⟨h1, h2⟩ => ⟨h1, h2.symm⟩
theorem vrank {w : World} {gv : Nat} {d : List UInt8} {N : Nat} (h : Vec w gv d N) (i : Int) (hw : -9223372036854775808 ≤ i ∧ i ≤ 9223372036854775807) : Calls Try.prog 27 #[.pointer (some ⟨gv, 0, none⟩), .int .i64 i] w fun e w' => e = .returned (.int .i64 (cntB d (min i.toNat N) : Nat)) ∧ ∃ k, w' = w.drewN k := by
  obtain ⟨a, c, h, hl⟩ := h
  have := rank_calls h i hw
  rwa [rank_wh hl h.nN] at this
theorem vrank0 {w : World} {gv : Nat} {d : List UInt8} {N : Nat} (h : Vec w gv d N) (i : Int) (hw : -9223372036854775808 ≤ i ∧ i ≤ 9223372036854775807) : Calls Try.prog 28 #[.pointer (some ⟨gv, 0, none⟩), .int .i64 i] w fun e w' => e = .returned (.int .i64 (min i.toNat N - cntB d (min i.toNat N) : Nat)) ∧ ∃ k, w' = w.drewN k := by
  obtain ⟨a, c, h, hl⟩ := h
  have := rank0_calls h i hw
  rwa [rank0_wh hl h.nN] at this
theorem vsel {w : World} {gv : Nat} {d : List UInt8} {N : Nat} (h : Vec w gv d N) (k : Int) (hw : -9223372036854775808 ≤ k ∧ k ≤ 9223372036854775807) : Calls Try.prog 30 #[.pointer (some ⟨gv, 0, none⟩), .int .i64 k] w fun e w' => e = .returned (.int .i64 (selW d N k)) ∧ ∃ k, w' = w.drewN k := by
  obtain ⟨a, c, h, hl⟩ := h
  exact select_calls h k hw
theorem vsel0 {w : World} {gv : Nat} {d : List UInt8} {N : Nat} (h : Vec w gv d N) (k : Int) (hw : -9223372036854775808 ≤ k ∧ k ≤ 9223372036854775807) : Calls Try.prog 31 #[.pointer (some ⟨gv, 0, none⟩), .int .i64 k] w fun e w' => e = .returned (.int .i64 (sel0W d N k)) ∧ ∃ k, w' = w.drewN k := by
  obtain ⟨a, c, h, hl⟩ := h
  exact select0_calls h k hw
def bitW (d : List UInt8) (N : Nat) (i : Int) : Bool := decide (0 ≤ i) && decide (i < N) && btB d i.toNat
theorem vbit {w : World} {gv : Nat} {d : List UInt8} {N : Nat} (h : Vec w gv d N) (i : Int) (hw : -9223372036854775808 ≤ i ∧ i ≤ 9223372036854775807) : Calls Try.prog 29 #[.pointer (some ⟨gv, 0, none⟩), .int .i64 i] w fun e w' => e = .returned (.bool (bitW d N i)) ∧ ∃ k, w' = w.drewN k := by
  obtain ⟨a, c, h, hl⟩ := h
  refine (vbit_calls h i hw).mono fun e w' ⟨h1, h2⟩ => ⟨h1.trans (ret_bool ?_), h2⟩
  unfold bitW
  by_cases h0 : 0 ≤ i ∧ i < N
  · obtain ⟨t, ht⟩ := dat_wh d N
    rw [ht, bt_app d t _ (by omega)]
  · by_cases h1 : 0 ≤ i
    · rw [decide_eq_false (show ¬ i < N by omega)]; simp
    · rw [decide_eq_false h1]; simp
theorem quiet_w {P : Program} {w : World} {f : FuncId} {args : Array Value} {n : Nat} {v : Value} (h : Calls P f args (w.drewN n) fun e w' => e = .returned v ∧ w' = w.drewN n) : Calls P f args (w.drewN n) fun e w'' => e = .returned v ∧ ∃ m, w'' = w.drewN m :=
  h.mono fun _ _ ⟨he, hk⟩ => ⟨he, n, hk⟩
theorem lit5 : nums [5] = [5] := rfl
theorem n5 : (whB [5] 3).length = 19 := by decide +kernel
theorem e5 : enO [5] 3 = 19 := by decide +kernel
theorem s5 : selW [5] 3 1 = 2 := selW_at (d := [5]) (N := 3) (by decide) (by decide) 2 (by decide) (by decide)
theorem z5 : sel0W [5] 3 0 = 1 := sel0W_at (d := [5]) (N := 3) (by decide) (by decide) 1 (by decide) (by decide)
set_option maxRecDepth 100000 in
set_option maxHeartbeats 1000000 in
theorem works_calls (w : World) : Calls Try.prog 24 #[] w fun e w' => e = .returned (.bool true) ∧ Below w.heap.size w w' := by
  have hop := fun (w' : World) g hs => opened w' (some ⟨g, 0, none⟩) 1 1 [5] 3 hs (by decide) (by decide) (by decide)
  have hqs : ∀ (w : World) gv, Vec w gv [5] 3 → ∀ w', (∃ k, w' = w.drewN k) →
      (Calls Try.prog 26 #[.pointer (some ⟨gv, 0, none⟩)] w' fun e w'' => e = .returned (.int .i64 3) ∧ ∃ m, w'' = w.drewN m) ∧
      (Calls Try.prog 32 #[.pointer (some ⟨gv, 0, none⟩)] w' fun e w'' => e = .returned (.int .i64 2) ∧ ∃ m, w'' = w.drewN m) ∧
      (Calls Try.prog 27 #[.pointer (some ⟨gv, 0, none⟩), .int .i64 3] w' fun e w'' => e = .returned (.int .i64 2) ∧ ∃ m, w'' = w.drewN m) ∧
      (Calls Try.prog 30 #[.pointer (some ⟨gv, 0, none⟩), .int .i64 1] w' fun e w'' => e = .returned (.int .i64 2) ∧ ∃ m, w'' = w.drewN m) ∧
      (Calls Try.prog 31 #[.pointer (some ⟨gv, 0, none⟩), .int .i64 0] w' fun e w'' => e = .returned (.int .i64 1) ∧ ∃ m, w'' = w.drewN m) ∧
      (Calls Try.prog 29 #[.pointer (some ⟨gv, 0, none⟩), .int .i64 2] w' fun e w'' => e = .returned (.bool true) ∧ ∃ m, w'' = w.drewN m) ∧
      (Calls Try.prog 29 #[.pointer (some ⟨gv, 0, none⟩), .int .i64 1] w' fun e w'' => e = .returned (.bool false) ∧ ∃ m, w'' = w.drewN m) := by
    rintro w gv h _ ⟨n, rfl⟩
    have v := h.drewN n
    refine ⟨quiet_w (vlen v), quiet_w (vones v), quiet_dr (vrank v 3 (by omega)), ?_, ?_, quiet_dr (vbit v 2 (by omega)), quiet_dr (vbit v 1 (by omega))⟩
    · have := vsel v 1 (by omega); rw [s5] at this; exact quiet_dr this
    · have := vsel0 v 0 (by omega); rw [z5] at this; exact quiet_dr this
  simp only [show ((3 : Nat) : Int) = 3 from rfl, lit5] at hop
  have HOP := Lib.hid hop
  have HQS := Lib.hid hqs
  clear hop hqs
  go_enter Try.func24, Try.ntmps24
  go_upto_region 2 with (go_at_call 14; (with_reducible refine (HOP.out _ _ (SlI.one .u8 5 w 5)).mono ?_); rintro e w2 ⟨g2, E, rfl, hE, hg2, hsl, hb2, hopen⟩; (have HB2 := Lib.hid hb2); (have HOPEN := Lib.hid hopen); (have HE := Lib.hid hE); clear hE hg2 hsl hb2 hopen)
  obtain rfl : E = 19 := by rw [HE.out, e5]
  go_upto_region 3 with (go_at_call 21; (with_reducible refine (HOPEN.out _ (Below.refl _ _)).mono ?_); rintro e w3 ⟨gv, rfl, hgv, hv, hb3⟩; (have HGV := Lib.hid hgv); (have HV := Lib.hid hv); (have HB3 := Lib.hid hb3); clear hgv hv hb3)
  have hq := HQS.out _ _ HV.out
  have HQ := Lib.hid hq
  have HDW : ∃ k, w3 = w3.drewN k := ⟨0, rfl⟩
  clear hq HOPEN
  go_wp2_with (first
    | (go_at_call 16; refine (num_calls _ _ (by omega) (by omega)).mono ?_; rintro e wz ⟨rfl, rfl⟩)
    | (go_at_call 26; (with_reducible refine (HQ.out _ HDW).1.mono ?_); rintro e wz ⟨rfl, hd⟩; (have HDW := hd); clear hd)
    | (go_at_call 32; (with_reducible refine (HQ.out _ HDW).2.1.mono ?_); rintro e wz ⟨rfl, hd⟩; (have HDW := hd); clear hd)
    | (go_at_call 27; (with_reducible refine (HQ.out _ HDW).2.2.1.mono ?_); rintro e wz ⟨rfl, hd⟩; (have HDW := hd); clear hd)
    | (go_at_call 30; (with_reducible refine (HQ.out _ HDW).2.2.2.1.mono ?_); rintro e wz ⟨rfl, hd⟩; (have HDW := hd); clear hd)
    | (go_at_call 31; (with_reducible refine (HQ.out _ HDW).2.2.2.2.1.mono ?_); rintro e wz ⟨rfl, hd⟩; (have HDW := hd); clear hd)
    | (go_at_call 29; (with_reducible refine (HQ.out _ HDW).2.2.2.2.2.1.mono ?_); rintro e wz ⟨rfl, hd⟩; (have HDW := hd); clear hd)
    | (go_at_call 29; (with_reducible refine (HQ.out _ HDW).2.2.2.2.2.2.mono ?_); rintro e wz ⟨rfl, hd⟩; (have HDW := hd); clear hd))
  go_ret
  have hb0 : Below w.heap.size w (w.alloc (.cells #[.int .u8 5] 5)) := (Below.refl _ _).alloc (Nat.le_refl _) _
  have b2 := hb0.trans (HB2.out.mono hb0.size)
  obtain ⟨k, rfl⟩ := HDW
  exact ⟨rfl, below_drewN (b2.trans (HB3.out.mono b2.size)) _⟩
end Go.Proofs.Ytpphjiialgmidaa
