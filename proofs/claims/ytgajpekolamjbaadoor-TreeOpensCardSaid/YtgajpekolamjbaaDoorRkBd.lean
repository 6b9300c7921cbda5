/- RkA RkBd, laid as one. -/
import Derived.Test.YtgajpekolamjbaaDoorRkZ
import Derived.Deep.CutBlock
set_option linter.unusedVariables false
set_option linter.unusedSimpArgs false
/- spoilt, Open of right bytes. -/
namespace Go.Proofs.YtgajpekolamjbaaDoor
open Go.RowKit Go.Tk
theorem drewN_add' (w : World) (a b : Nat) : (w.drewN a).drewN b = w.drewN (a + b) := by simp [World.drewN, Nat.add_assoc]
theorem VecAt.below {w w' gv a c bs n m} (h : VecAt w gv a c bs n m) (hb : Below w.heap.size w w') : VecAt w' gv a c bs n m := ⟨(hb.block gv (lt_of_block h.row)).trans h.row, h.sl.keep hb, h.fit, h.mn, h.nN⟩
set_option maxRecDepth 100000 in
set_option maxHeartbeats 1000000 in
theorem spoilt_wh (w : World) (gv : Nat) (a : Option Addr) (c : Nat) (d : List UInt8) (N : Nat) (hl : d.length = (N + 7) / 8) (hp : padB d N = true) (hv : VecAt w gv a c (whB d N) N (cntB d N)) (ad : Option Addr) (nd cd : Nat) (hs : SlI .u8 w ad nd cd (nums d)) :
    Calls Tryd.prog 57 #[.pointer (some ⟨gv, 0, none⟩), .slice ad nd cd] w fun e w' => e = .returned (.int .i64 (-1)) ∧ Below w.heap.size w w' := by
  have hnd : nd = d.length := by have := hs.len; rw [nums_len] at this; exact this.symm
  have hN := hv.nN
  have HV := Lib.hid hv
  have HS := Lib.hid hs
  have HL := Lib.hid hl
  have HP := Lib.hid hp
  have HND := Lib.hid hnd
  clear hv hs hl hp hnd
  go_enter Tryd.func57, Tryd.ntmps57
  go_upto_region 2 with fail
  have hb1 : Below w.heap.size w (w.alloc (.cells #[.pointer (some ⟨gv, 0, none⟩)] 42)) := (Below.refl _ _).alloc (Nat.le_refl _) _
  have hb2 : Below w.heap.size w ((w.alloc (.cells #[.pointer (some ⟨gv, 0, none⟩)] 42)).alloc (.cells #[.int .i64 (-1)] 3)) := hb1.alloc (by simp) _
  have r1 : ((w.alloc (.cells #[.pointer (some ⟨gv, 0, none⟩)] 42)).alloc (.cells #[.int .i64 (-1)] 3)).heap[w.heap.size]? = some (.cells #[.pointer (some ⟨gv, 0, none⟩)] 42 (0, 0)) := (Below.heap_alloc _ _ _ (by simp)).trans (heap_alloc_new _ _)
  have r2 : ((w.alloc (.cells #[.pointer (some ⟨gv, 0, none⟩)] 42)).alloc (.cells #[.int .i64 (-1)] 3)).heap[w.heap.size + 1]? = some (.cells #[.int .i64 (-1)] 3 (0, 0)) := by
    have := heap_alloc_new (w.alloc (.cells #[.pointer (some ⟨gv, 0, none⟩)] 42)) (.cells #[.int .i64 (-1)] 3)
    simpa using this
  have hv2 := HV.out.below hb2
  have hs2 := HS.out.keep hb2
  generalize (w.alloc (.cells #[.pointer (some ⟨gv, 0, none⟩)] 42)).alloc (.cells #[.int .i64 (-1)] 3) = w2 at hb2 r1 r2 hv2 hs2 ⊢
  have q1 : w2.cell? ⟨w.heap.size, 0, none⟩ = some (.pointer (some ⟨gv, 0, none⟩)) := cell_of_row w2 _ 0 _ _ _ r1
  have q2 : w2.cell? ⟨w.heap.size + 1, 0, none⟩ = some (.int .i64 (-1)) := cell_of_row w2 _ 0 _ _ _ r2
  have k1 := hv2.k1
  have hdir := directory_calls 66 (.pointer (some ⟨w.heap.size, 0, none⟩)) (.pointer (some ⟨w.heap.size + 1, 0, none⟩)) cf_spoilt w2 ad nd cd d N HND.out HL.out HP.out hN (fun w' _ => ∃ k, w' = w2.drewN k) ⟨0, rfl⟩
    (fun w' L h => by obtain ⟨k, rfl⟩ := h; exact hs2.drewN k)
    (fun w' L part i v h ht => by
      obtain ⟨k, rfl⟩ := h
      exact (tell_wh (w2.drewN k) gv w.heap.size (w.heap.size + 1) a c d N HL.out (hv2.drewN k) q1 part i v ht).mono fun e w'' ⟨h1, q, h2⟩ => ⟨h1, k + q, by rw [h2, drewN_add']⟩)
  have hmf : ∀ (fn : Fn) (first cap : Array Value) (w : World), (Instr.makeFunc fn first cap).run Tryd.prog w = .ok (.func fn first cap) w := fun _ _ _ _ => rfl
  have HD := Lib.hid hdir
  have HB2 := Lib.hid hb2
  clear hdir hb1 hb2 r1 r2 hv2 hs2
  go_wp2_with (go_at_call 65; (with_reducible refine HD.out.mono ?_); rintro e w8 ⟨rfl, L, ⟨k, rfl⟩, _⟩)
  go_ret
  exact ⟨rfl, below_drewN HB2.out _⟩
end Go.Proofs.YtgajpekolamjbaaDoor
/- Open of right bytes. -/
namespace Go.Proofs.YtgajpekolamjbaaDoor
open Go.RowKit Go.Tk
theorem nums_cut (l : List UInt8) (i m : Nat) : ((nums l).drop i).take m = nums ((l.drop i).take m) := by simp [nums, List.map_drop, List.map_take]
theorem wh_cut (d : List UInt8) (N : Nat) : ((whB d N).drop 8).take d.length = d := by
  obtain ⟨t, ht⟩ := dat_wh d N
  unfold datB at ht
  rw [ht, List.take_left' rfl]
theorem data_wh (w : World) (gv : Nat) (a : Option Addr) (c : Nat) (d : List UInt8) (N : Nat) (hl : d.length = (N + 7) / 8) (hv : VecAt w gv a c (whB d N) N (cntB d N)) :
    Calls Tryd.prog 54 #[.pointer (some ⟨gv, 0, none⟩)] w fun e w' => ∃ ad cd, e = .returned (.slice ad d.length cd) ∧ SlI .u8 w ad d.length cd (nums d) ∧ ∃ k, w' = w.drewN k := by
  have hfit := hv.fit
  have h8 : 8 + d.length ≤ (whB d N).length := by rw [hfit]; unfold oE oM oS oG; omega
  obtain ⟨b, o, ha, -⟩ := hv.sl.cell 0 (by omega)
  have hcut := hv.sl.cut 8 d.length h8
  have e8 : 8 + d.length - 8 = d.length := by omega
  rw [e8, nums_cut, wh_cut] at hcut
  have hG : oG N = 8 + d.length := by unfold oG; omega
  have k0 := hv.k0
  have k3 := hv.k3
  have k4 := hv.k4
  rw [hG] at k4
  have hle := hv.sl.le
  have hmx := hv.sl.max
  subst ha
  have hd := data_go w gv b o (whB d N).length c (8 + d.length) (by omega) h8 hle hmx k0 k3 k4
  rw [e8] at hd
  refine hd.mono fun e w' ⟨h1, h2⟩ => ⟨_, _, h1, ?_, h2⟩
  have : (if c = 8 then (some ⟨b, o, none⟩ : Option Addr) else Option.map (fun x : Addr => x.add 8) (some ⟨b, o, none⟩)) = if c = 8 then some ⟨b, o, none⟩ else some ⟨b, o + 8, none⟩ := by
    split <;> rfl
  rw [this] at hcut
  exact hcut
theorem cnt_pad (d : List UInt8) (N : Nat) (hl : d.length = (N + 7) / 8) (hp : padB d N = true) : cntB d (8 * d.length) = cntB d N := by
  by_cases h : N % 8 = 0
  · rw [show 8 * d.length = N by omega]
  · have hp' : (d.getD (N / 8) 0).toNat / 2 ^ (N % 8) = 0 := by
      simpa [padB, h] using hp
    have hlt : (d.getD (N / 8) 0).toNat < 2 ^ (N % 8) := by
      rcases Nat.div_eq_zero_iff.mp hp' with h0 | h0
      · exact absurd h0 (Nat.ne_of_gt (Nat.two_pow_pos _))
      · exact h0
    have h1 := cnt_byte d (N / 8)
    have h2 := cnt_low d (N / 8) (N % 8) (by omega)
    rw [Nat.mod_eq_of_lt hlt] at h2
    rw [show 8 * d.length = 8 * (N / 8) + 8 by omega, h1, ← h2, show 8 * (N / 8) + N % 8 = N by omega]
end Go.Proofs.YtgajpekolamjbaaDoor
