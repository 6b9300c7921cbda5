/- RkZ RkA Dx RkBd, laid as one. -/
import Derived.Test.YtgajpekolamjbaaRkY
import Derived.Deep.CutBlock
import Derived.Test.YtgajpekolamjbaaRkV
set_option linter.unusedVariables false
set_option linter.unusedSimpArgs false
/- spoilt of right bytes: nothing is. -/
namespace Go.Proofs.Ytgajpekolamjbaa
open Go.RowKit Go.Tk
set_option maxRecDepth 100000 in
set_option maxHeartbeats 1000000 in
theorem tell_g (w : World) (gv p1 p2 b o L c G Sm M i v : Nat) (hp : G + 4 * i + 4 ≤ L) (hLc : L ≤ c) (hc : c ≤ 9223372036854775807) (hM : M ≤ 1000000000) (hi : i ≤ 1000000000)
    (q1 : w.cell? ⟨p1, 0, none⟩ = some (.pointer (some ⟨gv, 0, none⟩))) (k0 : w.cell? ⟨gv, 0, none⟩ = some (.slice (some ⟨b, o, none⟩) L c)) (k4 : w.cell? ⟨gv, 4, none⟩ = some (.int .i64 (G : Nat))) (k5 : w.cell? ⟨gv, 5, none⟩ = some (.int .i64 (Sm : Nat))) (k6 : w.cell? ⟨gv, 6, none⟩ = some (.int .i64 (M : Nat)))
    (hf : Calls Try.prog 99 #[.slice (some ⟨b, o + (G + 4 * i), none⟩) (L - (G + 4 * i)) (c - (G + 4 * i))] w fun e w' => e = .returned (.int .i64 (v : Nat)) ∧ ∃ q, w' = w.drewN q) :
    Calls Try.prog 116 #[.int .i64 2048, .int .i64 (i : Nat), .int .i64 (v : Nat), .pointer (some ⟨p1, 0, none⟩), .pointer (some ⟨p2, 0, none⟩)] w fun e w' => e = .returned (.bool true) ∧ ∃ q, w' = w.drewN q := by
  have hvv : ((v : Int) != (v : Int)) = false := by simp
  have HF := Lib.hid hf
  clear hf
  go_enter Try.func116, Try.ntmps116
  go_wp2_with (go_at_call 99; (with_reducible refine HF.out.mono ?_); rintro e w5 ⟨rfl, q5, rfl⟩)
  go_ret
  exact ⟨rfl, _, rfl⟩
set_option maxRecDepth 100000 in
set_option maxHeartbeats 1000000 in
theorem tell_s (w : World) (gv p1 p2 b o L c G Sm M i v : Nat) (hp : Sm + 2 * i + 2 ≤ L) (hLc : L ≤ c) (hc : c ≤ 9223372036854775807) (hM : M ≤ 1000000000) (hi : i ≤ 1000000000)
    (q1 : w.cell? ⟨p1, 0, none⟩ = some (.pointer (some ⟨gv, 0, none⟩))) (k0 : w.cell? ⟨gv, 0, none⟩ = some (.slice (some ⟨b, o, none⟩) L c)) (k4 : w.cell? ⟨gv, 4, none⟩ = some (.int .i64 (G : Nat))) (k5 : w.cell? ⟨gv, 5, none⟩ = some (.int .i64 (Sm : Nat))) (k6 : w.cell? ⟨gv, 6, none⟩ = some (.int .i64 (M : Nat)))
    (hf : Calls Try.prog 100 #[.slice (some ⟨b, o + (Sm + 2 * i), none⟩) (L - (Sm + 2 * i)) (c - (Sm + 2 * i))] w fun e w' => e = .returned (.int .i64 (v : Nat)) ∧ ∃ q, w' = w.drewN q) :
    Calls Try.prog 116 #[.int .i64 256, .int .i64 (i : Nat), .int .i64 (v : Nat), .pointer (some ⟨p1, 0, none⟩), .pointer (some ⟨p2, 0, none⟩)] w fun e w' => e = .returned (.bool true) ∧ ∃ q, w' = w.drewN q := by
  have hvv : ((v : Int) != (v : Int)) = false := by simp
  have HF := Lib.hid hf
  clear hf
  go_enter Try.func116, Try.ntmps116
  go_wp2_with (go_at_call 100; (with_reducible refine HF.out.mono ?_); rintro e w5 ⟨rfl, q5, rfl⟩)
  go_ret
  exact ⟨rfl, _, rfl⟩
set_option maxRecDepth 100000 in
set_option maxHeartbeats 1000000 in
theorem tell_m (w : World) (gv p1 p2 b o L c G Sm M i v : Nat) (hp : M + 4 * i + 4 ≤ L) (hLc : L ≤ c) (hc : c ≤ 9223372036854775807) (hM : M ≤ 1000000000) (hi : i ≤ 1000000000)
    (q1 : w.cell? ⟨p1, 0, none⟩ = some (.pointer (some ⟨gv, 0, none⟩))) (k0 : w.cell? ⟨gv, 0, none⟩ = some (.slice (some ⟨b, o, none⟩) L c)) (k4 : w.cell? ⟨gv, 4, none⟩ = some (.int .i64 (G : Nat))) (k5 : w.cell? ⟨gv, 5, none⟩ = some (.int .i64 (Sm : Nat))) (k6 : w.cell? ⟨gv, 6, none⟩ = some (.int .i64 (M : Nat)))
    (hf : Calls Try.prog 99 #[.slice (some ⟨b, o + (M + 4 * i), none⟩) (L - (M + 4 * i)) (c - (M + 4 * i))] w fun e w' => e = .returned (.int .i64 (v : Nat)) ∧ ∃ q, w' = w.drewN q) :
    Calls Try.prog 116 #[.int .i64 512, .int .i64 (i : Nat), .int .i64 (v : Nat), .pointer (some ⟨p1, 0, none⟩), .pointer (some ⟨p2, 0, none⟩)] w fun e w' => e = .returned (.bool true) ∧ ∃ q, w' = w.drewN q := by
  have hvv : ((v : Int) != (v : Int)) = false := by simp
  have HF := Lib.hid hf
  clear hf
  go_enter Try.func116, Try.ntmps116
  go_wp2_with (go_at_call 99; (with_reducible refine HF.out.mono ?_); rintro e w5 ⟨rfl, q5, rfl⟩)
  go_ret
  exact ⟨rfl, _, rfl⟩
theorem cf_spoilt {x1 x2 : Value} (p q r : Int) (w : World) : (callFunc 116 #[.int .i64 p, .int .i64 q, .int .i64 r, x1, x2]).run Try.prog w = .ok (.enter 116 #[.int .i64 p, .int .i64 q, .int .i64 r, x1, x2]) w := by kernel_rfl
theorem tell_wh (w : World) (gv p1 p2 : Nat) (a : Option Addr) (c : Nat) (d : List UInt8) (N : Nat) (hl : d.length = (N + 7) / 8) (hv : VecAt w gv a c (whB d N) N (cntB d N)) (q1 : w.cell? ⟨p1, 0, none⟩ = some (.pointer (some ⟨gv, 0, none⟩))) (part i v : Nat) (ht : Vt d N (part, i, v)) :
    Calls Try.prog 116 #[.int .i64 (part : Nat), .int .i64 (i : Nat), .int .i64 (v : Nat), .pointer (some ⟨p1, 0, none⟩), .pointer (some ⟨p2, 0, none⟩)] w fun e w' => e = .returned (.bool true) ∧ ∃ q, w' = w.drewN q := by
  obtain ⟨e1, e2, e3, e4⟩ := o_eq hl
  have hN := hv.nN
  have hcn := cnt_le d N
  have hlen : (whB d N).length = enO d N := wh_len' d N
  have hE : enO d N ≤ 100000000 := by unfold enO mkO smO grO; omega
  have h8 : 8 ≤ enO d N := by unfold enO mkO smO grO; omega
  obtain ⟨b, o, rfl, _⟩ := hv.sl.cell 0 (by omega)
  have k0 := hv.k0
  have k4 := hv.k4
  have k5 := hv.k5
  have k6 : w.cell? ⟨gv, 6, none⟩ = some (.int .i64 (oM N : Nat)) := cell_of_row w gv 6 _ _ _ hv.row
  rw [e1] at k4
  rw [e2] at k5
  rw [e3] at k6
  obtain ⟨w1, w2⟩ := wh_at ht
  have hvb := vt_le ht hN
  have hMb : mkO d N ≤ 1000000000 := by have : mkO d N ≤ enO d N := by unfold enO; omega
                                        omega
  have ht' := ht
  rcases ht with ⟨h1, h2⟩ | ⟨h1, h2⟩ | ⟨h1, h2⟩
  · simp only at h1 h2
    subst h1
    have ep : posT d N (2048, i, v) = grO d + 4 * i := rfl
    have es : szT (2048, i, v) = 4 := rfl
    rw [ep, es] at w1 w2
    have hvv : v < 4294967296 := by omega
    have s4 := hv.sl.tail (grO d + 4 * i) (by omega)
    rw [nums_drop, if_neg (by have := hv.sl.le; omega)] at s4
    simp only [Option.map_some, Addr.add_lit] at s4
    have hf := four_calls w _ _ _ _ s4 (by omega)
    rw [f4_drop, f4_of w2 hvv] at hf
    exact tell_g w gv p1 p2 b o (whB d N).length c (grO d) (smO d N) (mkO d N) i v (by omega) hv.sl.le hv.sl.max hMb (by omega) q1 k0 k4 k5 k6 hf
  · simp only at h1 h2
    subst h1
    have ep : posT d N (256, i, v) = smO d N + 2 * i := rfl
    have es : szT (256, i, v) = 2 := rfl
    rw [ep, es] at w1 w2
    have hvv : v < 65536 := by
      have hi := (List.getElem?_eq_some_iff.1 h2).1
      rw [sm_len] at hi
      rw [sm_get d i N (by omega)] at h2
      have := Option.some.inj h2
      have g2 := cnt_add d (i / 8 * 2048) (i * 256 - i / 8 * 2048)
      rw [show i / 8 * 2048 + (i * 256 - i / 8 * 2048) = i * 256 by omega] at g2
      omega
    have s4 := hv.sl.tail (smO d N + 2 * i) (by omega)
    rw [nums_drop, if_neg (by have := hv.sl.le; omega)] at s4
    simp only [Option.map_some, Addr.add_lit] at s4
    have hf := two_calls w _ _ _ _ s4 (by omega)
    rw [f2_drop, f2_of w2 hvv] at hf
    exact tell_s w gv p1 p2 b o (whB d N).length c (grO d) (smO d N) (mkO d N) i v (by omega) hv.sl.le hv.sl.max hMb (by omega) q1 k0 k4 k5 k6 hf
  · simp only at h1 h2
    subst h1
    have ep : posT d N (512, i, v) = mkO d N + 4 * i := rfl
    have es : szT (512, i, v) = 4 := rfl
    rw [ep, es] at w1 w2
    have hvv : v < 4294967296 := by omega
    have s4 := hv.sl.tail (mkO d N + 4 * i) (by omega)
    rw [nums_drop, if_neg (by have := hv.sl.le; omega)] at s4
    simp only [Option.map_some, Addr.add_lit] at s4
    have hf := four_calls w _ _ _ _ s4 (by omega)
    rw [f4_drop, f4_of w2 hvv] at hf
    exact tell_m w gv p1 p2 b o (whB d N).length c (grO d) (smO d N) (mkO d N) i v (by omega) hv.sl.le hv.sl.max hMb (by omega) q1 k0 k4 k5 k6 hf
end Go.Proofs.Ytgajpekolamjbaa
/- spoilt, Open of right bytes. -/
namespace Go.Proofs.Ytgajpekolamjbaa
open Go.RowKit Go.Tk
theorem drewN_add' (w : World) (a b : Nat) : (w.drewN a).drewN b = w.drewN (a + b) := by simp [World.drewN, Nat.add_assoc]
theorem VecAt.below {w w' gv a c bs n m} (h : VecAt w gv a c bs n m) (hb : Below w.heap.size w w') : VecAt w' gv a c bs n m := ⟨(hb.block gv (lt_of_block h.row)).trans h.row, h.sl.keep hb, h.fit, h.mn, h.nN⟩
set_option maxRecDepth 100000 in
set_option maxHeartbeats 1000000 in
theorem spoilt_wh (w : World) (gv : Nat) (a : Option Addr) (c : Nat) (d : List UInt8) (N : Nat) (hl : d.length = (N + 7) / 8) (hp : padB d N = true) (hv : VecAt w gv a c (whB d N) N (cntB d N)) (ad : Option Addr) (nd cd : Nat) (hs : SlI .u8 w ad nd cd (nums d)) :
    Calls Try.prog 112 #[.pointer (some ⟨gv, 0, none⟩), .slice ad nd cd] w fun e w' => e = .returned (.int .i64 (-1)) ∧ Below w.heap.size w w' := by
  have hnd : nd = d.length := by have := hs.len; rw [nums_len] at this; exact this.symm
  have hN := hv.nN
  have HV := Lib.hid hv
  have HS := Lib.hid hs
  have HL := Lib.hid hl
  have HP := Lib.hid hp
  have HND := Lib.hid hnd
  clear hv hs hl hp hnd
  go_enter Try.func112, Try.ntmps112
  go_upto_region 2 with fail
  have hb1 : Below w.heap.size w (w.alloc (.cells #[.pointer (some ⟨gv, 0, none⟩)] 103)) := (Below.refl _ _).alloc (Nat.le_refl _) _
  have hb2 : Below w.heap.size w ((w.alloc (.cells #[.pointer (some ⟨gv, 0, none⟩)] 103)).alloc (.cells #[.int .i64 (-1)] 3)) := hb1.alloc (by simp) _
  have r1 : ((w.alloc (.cells #[.pointer (some ⟨gv, 0, none⟩)] 103)).alloc (.cells #[.int .i64 (-1)] 3)).heap[w.heap.size]? = some (.cells #[.pointer (some ⟨gv, 0, none⟩)] 103 (0, 0)) := (Below.heap_alloc _ _ _ (by simp)).trans (heap_alloc_new _ _)
  have r2 : ((w.alloc (.cells #[.pointer (some ⟨gv, 0, none⟩)] 103)).alloc (.cells #[.int .i64 (-1)] 3)).heap[w.heap.size + 1]? = some (.cells #[.int .i64 (-1)] 3 (0, 0)) := by
    have := heap_alloc_new (w.alloc (.cells #[.pointer (some ⟨gv, 0, none⟩)] 103)) (.cells #[.int .i64 (-1)] 3)
    simpa using this
  have hv2 := HV.out.below hb2
  have hs2 := HS.out.keep hb2
  generalize (w.alloc (.cells #[.pointer (some ⟨gv, 0, none⟩)] 103)).alloc (.cells #[.int .i64 (-1)] 3) = w2 at hb2 r1 r2 hv2 hs2 ⊢
  have q1 : w2.cell? ⟨w.heap.size, 0, none⟩ = some (.pointer (some ⟨gv, 0, none⟩)) := cell_of_row w2 _ 0 _ _ _ r1
  have q2 : w2.cell? ⟨w.heap.size + 1, 0, none⟩ = some (.int .i64 (-1)) := cell_of_row w2 _ 0 _ _ _ r2
  have k1 := hv2.k1
  have hdir := directory_calls 116 (.pointer (some ⟨w.heap.size, 0, none⟩)) (.pointer (some ⟨w.heap.size + 1, 0, none⟩)) cf_spoilt w2 ad nd cd d N HND.out HL.out HP.out hN (fun w' _ => ∃ k, w' = w2.drewN k) ⟨0, rfl⟩
    (fun w' L h => by obtain ⟨k, rfl⟩ := h; exact hs2.drewN k)
    (fun w' L part i v h ht => by
      obtain ⟨k, rfl⟩ := h
      exact (tell_wh (w2.drewN k) gv w.heap.size (w.heap.size + 1) a c d N HL.out (hv2.drewN k) q1 part i v ht).mono fun e w'' ⟨h1, q, h2⟩ => ⟨h1, k + q, by rw [h2, drewN_add']⟩)
  have hmf : ∀ (fn : Fn) (first cap : Array Value) (w : World), (Instr.makeFunc fn first cap).run Try.prog w = .ok (.func fn first cap) w := fun _ _ _ _ => rfl
  have HD := Lib.hid hdir
  have HB2 := Lib.hid hb2
  clear hdir hb1 hb2 r1 r2 hv2 hs2
  go_wp2_with (go_at_call 84; (with_reducible refine HD.out.mono ?_); rintro e w8 ⟨rfl, L, ⟨k, rfl⟩, _⟩)
  go_ret
  exact ⟨rfl, below_drewN HB2.out _⟩
end Go.Proofs.Ytgajpekolamjbaa
/- A quiet contract at every world some draws later. -/
namespace Go.Proofs.Ytgajpekolamjbaa
open Go.RowKit Go.Tk
theorem drew_ex {P : Program} {w0 w : World} {f : FuncId} {args : Array Value} {v : Value} (h : ∀ n, Calls P f args (w0.drewN n) fun e w' => e = .returned v ∧ ∃ k, w' = (w0.drewN n).drewN k) (hw : ∃ k, w = w0.drewN k) : Calls P f args w fun e w' => e = .returned v ∧ ∃ k, w' = w0.drewN k := by
  obtain ⟨k, rfl⟩ := hw
  exact quiet_dr (h k)
end Go.Proofs.Ytgajpekolamjbaa
/- Open of right bytes. -/
namespace Go.Proofs.Ytgajpekolamjbaa
open Go.RowKit Go.Tk
theorem nums_cut (l : List UInt8) (i m : Nat) : ((nums l).drop i).take m = nums ((l.drop i).take m) := by simp [nums, List.map_drop, List.map_take]
theorem wh_cut (d : List UInt8) (N : Nat) : ((whB d N).drop 8).take d.length = d := by
  obtain ⟨t, ht⟩ := dat_wh d N
  unfold datB at ht
  rw [ht, List.take_left' rfl]
theorem data_wh (w : World) (gv : Nat) (a : Option Addr) (c : Nat) (d : List UInt8) (N : Nat) (hl : d.length = (N + 7) / 8) (hv : VecAt w gv a c (whB d N) N (cntB d N)) :
    Calls Try.prog 111 #[.pointer (some ⟨gv, 0, none⟩)] w fun e w' => ∃ ad cd, e = .returned (.slice ad d.length cd) ∧ SlI .u8 w ad d.length cd (nums d) ∧ ∃ k, w' = w.drewN k := by
  have hfit := hv.fit
  have h8 : 8 + d.length ≤ (whB d N).length := by rw [hfit]; unfold oE oM oS oG; omega
  obtain ⟨b, o, ha, -⟩ := hv.sl.cell 0 (by omega)
  have hcut := hv.sl.cut 8 d.length h8
  have e8 : 8 + d.length - 8 = d.length := by omega
  rw [e8, nums_cut, wh_cut] at hcut
  have hG : oG N = 8 + d.length := by unfold oG; omega
  have k0 := hv.k0
  have k3 := hv.k3
  have k4 := hv.k4
  rw [hG] at k4
  have hle := hv.sl.le
  have hmx := hv.sl.max
  subst ha
  have hd := data_go w gv b o (whB d N).length c (8 + d.length) (by omega) h8 hle hmx k0 k3 k4
  rw [e8] at hd
  refine hd.mono fun e w' ⟨h1, h2⟩ => ⟨_, _, h1, ?_, h2⟩
  have : (if c = 8 then (some ⟨b, o, none⟩ : Option Addr) else Option.map (fun x : Addr => x.add 8) (some ⟨b, o, none⟩)) = if c = 8 then some ⟨b, o, none⟩ else some ⟨b, o + 8, none⟩ := by
    split <;> rfl
  rw [this] at hcut
  exact hcut
theorem cnt_pad (d : List UInt8) (N : Nat) (hl : d.length = (N + 7) / 8) (hp : padB d N = true) : cntB d (8 * d.length) = cntB d N := by
  by_cases h : N % 8 = 0
  · rw [show 8 * d.length = N by omega]
  · have hp' : (d.getD (N / 8) 0).toNat / 2 ^ (N % 8) = 0 := by
      simpa [padB, h] using hp
    have hlt : (d.getD (N / 8) 0).toNat < 2 ^ (N % 8) := by
      rcases Nat.div_eq_zero_iff.mp hp' with h0 | h0
      · exact absurd h0 (Nat.ne_of_gt (Nat.two_pow_pos _))
      · exact h0
    have h1 := cnt_byte d (N / 8)
    have h2 := cnt_low d (N / 8) (N % 8) (by omega)
    rw [Nat.mod_eq_of_lt hlt] at h2
    rw [show 8 * d.length = 8 * (N / 8) + 8 by omega, h1, ← h2, show 8 * (N / 8) + N % 8 = N by omega]
end Go.Proofs.Ytgajpekolamjbaa
