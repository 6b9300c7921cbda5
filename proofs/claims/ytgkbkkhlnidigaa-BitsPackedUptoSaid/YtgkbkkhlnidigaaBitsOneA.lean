/- awake. -/
import Derived.Test.YtgkbkkhlnidigaaBitsOneM
set_option linter.unusedVariables false
set_option linter.unusedSimpArgs false
namespace Go.Proofs.Ytgkbkkhlnidigaa
open Go.RowKit Go.Tk
theorem SlI.three (k : IntKind) (e : TypeId) (w : World) (x y z : Int) : SlI k (w.alloc (.cells #[.int k x, .int k y, .int k z] e)) (some ⟨w.heap.size, 0, none⟩) 3 3 [x, y, z] :=
  ⟨rfl, Nat.le_refl _, by omega, fun i hi => ⟨w.heap.size, 0, rfl, by
    match i, hi with
    | 0, _ => simp [World.cell?_alloc_new]
    | 1, _ => simp [World.cell?_alloc_new]
    | 2, _ => simp [World.cell?_alloc_new]⟩⟩
theorem aw1 : putF 3 ([], false) (vz 300) = ([172, 2], false) := by decide +kernel
theorem aw2 : putF 3 ([172, 2], false) [7] = ([172, 2, 7], false) := by decide +kernel
theorem aw3 : upS [172, 2, 7] 0 0 18446744073709551615 = (300, 2, 0) := by decide +kernel
theorem aw4 : tk [172, 2, 7] 2 0 1 = ([7], 3, 0) := by decide +kernel
theorem aw5 : endE 3 3 0 = 0 := by decide +kernel
theorem one_new (w : World) (base : Nat) (hb : base ≤ w.heap.size) (m : Int) (h0 : 0 ≤ m) : BufB (w.alloc (newB m)) base w.heap.size m ([], false) (.slice none 0 0) := by
  refine ⟨?_, Ow.nil _ _ _ _, by simp [Value.ownBlock], hb⟩
  unfold newB
  rw [show max m 0 = m by omega]
  show (w.heap.push _)[w.heap.size]? = _
  rw [Array.getElem?_push, if_pos rfl]
/-- A new buffer beside a new cursor. -/
theorem oneI_new (W w : World) (hW : Below W.heap.size W w) (m : Int) (h0 : 0 ≤ m) (p : Nat) (hB : BufB w W.heap.size p m ([], false) (.slice none 0 0)) (a : Option Addr) (cap : Nat) (z : List Int) (hs : SlI .u8 w a z.length cap z) (hn : a = none → cap = 0) (ha : ∀ x, a = some x → x.block < w.heap.size ∧ x.block ≠ p) :
    OneI W (w.alloc (newC a z.length cap)) p w.heap.size m ([], false) (.slice none 0 0) a cap z 0 0 := by
  have hk : Kept (fun _ => False) w (w.alloc (newC a z.length cap)) := (Kept.refl _ w).alloc _
  have hp := (Array.getElem?_eq_some_iff.1 hB.blk).1
  refine ⟨hB.kept hk (fun _ _ => id), ⟨?_, hs.kept hk (fun _ _ => id), hn, fun x hx e => ?_, Nat.zero_le _⟩, by omega, by simp [Value.ownBlock], fun x hx => ⟨?_, (ha x hx).2, by simp [Value.ownBlock]⟩, hW.size, hW.trans (hk.below hW.size (fun _ h => h.elim))⟩
  · show (w.heap.push _)[w.heap.size]? = _
    rw [Array.getElem?_push, if_pos rfl]; rfl
  · have := (ha x hx).1; omega
  · have := (ha x hx).1; simp; omega
set_option maxRecDepth 100000 in
set_option maxHeartbeats 1000000 in
theorem awake_calls (W : World) : Calls Try.prog 30 #[] W fun e w' => e = .returned (.bool true) ∧ Kept (fun _ => False) W w' := by
  go_enter Try.func30, Try.ntmps30
  go_wp2_with (first
    | (go_at_call 19; refine (new_eq _ 3 (by omega) (by omega)).mono ?_; rintro e w1 ⟨rfl, rfl⟩)
    | (go_at_call 23; refine (read_eq _ _ _ _).mono ?_; rintro e w1 ⟨rfl, rfl⟩))
  have i0 : OneI W (((W.alloc (newB 3)).alloc (.cells #[.int .u8 172, .int .u8 2, .int .u8 7] 5)).alloc (newC (some ⟨(W.alloc (newB 3)).heap.size, 0, none⟩) 3 3)) W.heap.size ((W.alloc (newB 3)).alloc (.cells #[.int .u8 172, .int .u8 2, .int .u8 7] 5)).heap.size 3 ([], false) (.slice none 0 0) (some ⟨(W.alloc (newB 3)).heap.size, 0, none⟩) 3 [172, 2, 7] 0 0 := by
    have k1 : Kept (fun _ => False) W (W.alloc (newB 3)) := (Kept.refl _ W).alloc _
    have k2 : Kept (fun _ => False) (W.alloc (newB 3)) ((W.alloc (newB 3)).alloc (.cells #[.int .u8 172, .int .u8 2, .int .u8 7] 5)) := (Kept.refl _ _).alloc _
    have b1 := one_new W W.heap.size (Nat.le_refl _) 3 (by omega)
    exact oneI_new W _ ((k1.trans k2 (fun _ h => h.elim)).below (Nat.le_refl _) (fun _ h => h.elim)) 3 (by omega) _ (b1.kept k2 (fun _ _ => id)) _ 3 [172, 2, 7] (SlI.three _ _ _ _ _ _) (by simp) (fun x hx => by obtain rfl := Option.some.inj hx; simp)
  have e1 : (W.alloc (newB 3)).heap.size = W.heap.size + 1 := by simp
  have e2 : ((W.alloc (newB 3)).alloc (.cells #[.int .u8 172, .int .u8 2, .int .u8 7] 5)).heap.size = W.heap.size + 1 + 1 := by simp
  rw [e2] at i0
  simp only [e1] at i0
  clear e1 e2
  generalize (((W.alloc (newB 3)).alloc (.cells #[.int .u8 172, .int .u8 2, .int .u8 7] 5)).alloc (newC (some ⟨W.heap.size + 1, 0, none⟩) 3 3)) = w0 at *
  generalize W.heap.size + 1 + 1 = c at *
  generalize W.heap.size + 1 = g at *
  go_wp2_with (first
    | (go_at_call 34; refine (varint_calls _ W.heap.size W.heap.size 3 ([], false) _ i0.B 300 (by omega) (by omega) (by omega) (by omega) (by simp)).mono ?_; rintro e w1 hp; rw [aw1] at hp; obtain ⟨v1, rfl, i1⟩ := i0.put hp; clear hp i0)
    | (go_at_call 32; refine (byte_calls _ W.heap.size W.heap.size 3 ([172, 2], false) _ i1.B 7 (by omega) (by omega) (by simp)).mono ?_; rintro e w2 hp; rw [aw2] at hp; obtain ⟨v2, rfl, i2⟩ := i1.put hp; clear hp i1)
    | (go_at_call 36; refine (bytes_calls _ W.heap.size W.heap.size 3 ([172, 2, 7], false) _ i2.B (by simp)).mono ?_; rintro e w3 ⟨v3, rfl, o3, k3⟩; have i3 := i2.keep k3; rw [if_neg (by simp)] at o3; obtain ⟨xa, rfl, s3⟩ := o3.sl; clear i2 k3 o3)
    | (go_at_call 16; refine (same_calls _ _ _ _ [172, 2, 7] _ _ _ [172, 2, 7] (s3.kept ((Kept.refl (fun _ => False) _).alloc _) (fun _ _ h => h)) (SlI.three _ _ _ _ _ _)).mono ?_; rintro e w4 ⟨rfl, n4, rfl⟩; rw [sameB_self]; have i4 := (i3.keep ((Kept.refl _ _).alloc (.cells #[.int .u8 172, .int .u8 2, .int .u8 7] 5))).drewN n4; clear i3)
    | (go_at_call 40; refine (cvarint_calls _ c _ _ [172, 2, 7] 0 0 i4.C (by decide)).mono ?_; rw [aw3]; rintro e w5 ⟨rfl, hC5, k5⟩; have i5 := i4.cur hC5 k5; clear i4 hC5 k5)
    | (go_at_call 38; refine (cbyte_calls _ c _ _ [172, 2, 7] 2 0 i5.C).mono ?_; rw [aw4]; rintro e w6 ⟨rfl, hC6, k6⟩; have i6 := i5.cur hC6 k6; clear i5 hC6 k6)
    | (go_at_call 28; refine (end_calls _ c _ _ [172, 2, 7] 3 0 i6.C).mono ?_; rintro e w7 ⟨rfl, n7, rfl⟩; rw [show ([172, 2, 7] : List Int).length = 3 by rfl, aw5]))
  go_ret
  exact ⟨rfl, Kept.none_of_below (i6.drewN n7).bel⟩
end Go.Proofs.Ytgkbkkhlnidigaa
