/- TvS TvT TvF TvW TvM, laid as one. -/
import Derived.Test.YtgajpekolamjbaaTvH
import Derived.Test.YtgajpekolamjbaaQu
set_option linter.unusedVariables false
set_option linter.unusedSimpArgs false
/- sort.Search of any test; search among a level's numbers. -/
namespace Go.Tk
open Go Go.RowKit
/-- What the halving finds. -/
def bsF (p : Nat → Bool) : Nat → Nat → Nat → Nat
  | 0, lo, _ => lo
  | f + 1, lo, hi => if lo < hi then (if p ((lo + hi) / 2) = true then bsF p f lo ((lo + hi) / 2) else bsF p f ((lo + hi) / 2 + 1) hi) else lo
theorem bsF_end (p : Nat → Bool) (f lo hi : Nat) (h : ¬ lo < hi) : bsF p f lo hi = lo := by
  cases f with
  | zero => rfl
  | succ f => simp only [bsF]; rw [if_neg h]
theorem bsF_le (p : Nat → Bool) : ∀ (f lo hi : Nat), hi - lo ≤ f → lo ≤ hi → lo ≤ bsF p f lo hi ∧ bsF p f lo hi ≤ hi
  | 0, lo, hi, h, h2 => by simp only [bsF]; omega
  | f + 1, lo, hi, h, h2 => by
    simp only [bsF]
    split
    · split
      · have := bsF_le p f lo ((lo + hi) / 2) (by omega) (by omega); omega
      · have := bsF_le p f ((lo + hi) / 2 + 1) hi (by omega) (by omega); omega
    · omega
theorem bsF_fuel (p : Nat → Bool) : ∀ (f g lo hi : Nat), hi - lo ≤ f → hi - lo ≤ g → bsF p f lo hi = bsF p g lo hi
  | 0, g, lo, hi, h, h2 => by rw [bsF_end p g lo hi (by omega)]; rfl
  | f + 1, 0, lo, hi, h, h2 => by rw [bsF_end p (f + 1) lo hi (by omega)]; rfl
  | f + 1, g + 1, lo, hi, h, h2 => by
    simp only [bsF]
    split
    · split
      · exact bsF_fuel p f g _ _ (by omega) (by omega)
      · exact bsF_fuel p f g _ _ (by omega) (by omega)
    · rfl
/-- Where the test turns from no to yes once, the halving finds the place. -/
theorem bsF_turn (p : Nat → Bool) (m : Nat) : ∀ (f lo hi : Nat), hi - lo ≤ f → lo ≤ m → m ≤ hi → (∀ i, lo ≤ i → i < hi → p i = decide (m ≤ i)) → bsF p f lo hi = m
  | 0, lo, hi, h, h1, h2, hp => by simp only [bsF]; omega
  | f + 1, lo, hi, h, h1, h2, hp => by
    simp only [bsF]
    split
    · rename_i hlt
      have hm := hp ((lo + hi) / 2) (by omega) (by omega)
      split
      · rename_i h3
        rw [h3] at hm
        have := of_decide_eq_true hm.symm
        exact bsF_turn p m f lo _ (by omega) h1 (by omega) (fun i h4 h5 => hp i h4 (by omega))
      · rename_i h3
        have h3 : p ((lo + hi) / 2) = false := by simpa using h3
        rw [h3] at hm
        have := of_decide_eq_false hm.symm
        exact bsF_turn p m f _ hi (by omega) (by omega) h2 (fun i h4 h5 => hp i (by omega) h5)
    · omega
theorem bsF_same (p q : Nat → Bool) : ∀ (f lo hi : Nat), (∀ i, lo ≤ i → i < hi → p i = q i) → bsF p f lo hi = bsF q f lo hi
  | 0, lo, hi, hp => rfl
  | f + 1, lo, hi, hp => by
    simp only [bsF]
    split
    · rw [hp ((lo + hi) / 2) (by omega) (by omega), bsF_same p q f lo _ (fun i h4 h5 => hp i h4 (by omega)), bsF_same p q f _ hi (fun i h4 h5 => hp i (by omega) h5)]
    · rfl
end Go.Tk
namespace Go.Proofs.Ytgajpekolamjbaa
open Go Go.RowKit Go.Tk
set_option maxRecDepth 100000 in
set_option maxHeartbeats 2000000 in
theorem ssearch_calls (w : World) (n : Nat) (hn : n ≤ 4194304) (g : FuncId) (cb : Array Value) (p : Nat → Bool) (hcf : ∀ args W, (callFunc g args).run Try.prog W = .ok (.enter g args) W)
    (hf : ∀ W i, i < n → Below w.heap.size w W → Calls Try.prog g (#[.int .i64 (i : Nat)] ++ cb) W fun e w' => e = .returned (.bool (p i)) ∧ Below W.heap.size W w') :
    Calls Try.prog 102 #[.int .i64 (n : Nat), .func (.func g) #[] cb] w fun e w' => e = .returned (.int .i64 (bsF p n 0 n : Nat)) ∧ Below w.heap.size w w' := by
  obtain ⟨R, hR⟩ : ∃ R, R = bsF p n 0 n := ⟨_, rfl⟩
  rw [← hR]
  have HR := Lib.hid hR
  have HF := Lib.hid hf
  clear hR hf
  go_enter Try.func102, Try.ntmps102
  go_wp2
  go_loopw [5, 6] (fun s5 s6 wr => ∃ (lo hi : Nat), s5 = .int .i64 (lo : Nat) ∧ s6 = .int .i64 (hi : Nat) ∧ lo ≤ hi ∧ hi ≤ n ∧ R = bsF p n lo hi ∧ Below w.heap.size w wr) (fun s5 s6 _ => (intOf s6).toNat - (intOf s5).toNat)
  case atStart => exact ⟨0, n, rfl, rfl, Nat.zero_le _, Nat.le_refl _, HR.out, Below.refl _ _⟩
  case round =>
    obtain ⟨lo, hi, rfl, rfl, hlh, hin, hRl, hb⟩ := hrel
    have HRL := Lib.hid hRl
    have HB := Lib.hid hb
    clear hRl hb
    by_cases hlt : lo < hi
    · have hc := HF.out wr ((lo + hi) / 2) (by omega) HB.out
      rw [show (((lo + hi) / 2 : Nat) : Int) = ((lo : Int) + (hi : Int)) / 2 by omega] at hc
      have hst : bsF p n lo hi = if p ((lo + hi) / 2) = true then bsF p n lo ((lo + hi) / 2) else bsF p n ((lo + hi) / 2 + 1) hi := by
        rw [bsF_fuel p n (n + 1) lo hi (by omega) (by omega)]
        simp only [bsF]
        rw [if_pos hlt]
      have HST := Lib.hid hst
      clear hst
      cases hp : p ((lo + hi) / 2) with
      | false =>
        rw [hp] at hc
        have HP := Lib.hid hp
        have HC := Lib.hid hc
        clear hp hc
        go_wp2_with (refine HC.out.mono ?_; rintro e w' ⟨rfl, hb'⟩; (have HB2 := Lib.hid hb'); clear hb')
        refine ⟨⟨(lo + hi) / 2 + 1, hi, by rw [show ((lo : Int) + (hi : Int)) / 2 + 1 = (((lo + hi) / 2 + 1 : Nat) : Int) by omega], rfl, by omega, hin, ?_, ?_⟩, ?_⟩
        · rw [HRL.out, HST.out, HP.out]; rfl
        · exact HB.out.trans (HB2.out.mono HB.out.size)
        · simp [intOf]; omega
      | true =>
        rw [hp] at hc
        have HP := Lib.hid hp
        have HC := Lib.hid hc
        clear hp hc
        go_wp2_with (refine HC.out.mono ?_; rintro e w' ⟨rfl, hb'⟩; (have HB2 := Lib.hid hb'); clear hb')
        refine ⟨⟨lo, (lo + hi) / 2, rfl, by rw [show ((lo : Int) + (hi : Int)) / 2 = (((lo + hi) / 2 : Nat) : Int) by omega], by omega, by omega, ?_, ?_⟩, ?_⟩
        · rw [HRL.out, HST.out, HP.out]; rfl
        · exact HB.out.trans (HB2.out.mono HB.out.size)
        · simp [intOf]; omega
    · have hend : R = lo := by rw [HRL.out]; exact bsF_end p n lo hi hlt
      subst hend
      go_wp2
      go_ret
      exact ⟨rfl, HB.out⟩
/-- search among the numbers of a level. -/
def srT (b : List UInt8) (k lo hi : Nat) (v : Int) : Nat := lo + bsF (fun i => decide (v ≤ (tM b k (lo + i) : Nat))) (hi - lo) 0 (hi - lo)
theorem srT_le (b : List UInt8) (k lo hi : Nat) (v : Int) (h : lo ≤ hi) : lo ≤ srT b k lo hi v ∧ srT b k lo hi v ≤ hi := by
  have := bsF_le (fun i => decide (v ≤ (tM b k (lo + i) : Nat))) (hi - lo) 0 (hi - lo) (by omega) (by omega)
  unfold srT; omega
section
variable {w : World} {gd : Nat} {b : List UInt8} {a : Option Addr} {cap : Nat} {vp : Nat → Option Addr}
theorem ts1_calls (hT : TreeM w gd b a cap vp) (k : Nat) (hk : k < 4) (lo i : Nat) (v : Int) (hi : lo + i ≤ 2097152) (x y z : Nat)
    (hx : w.cell? ⟨x, 0, none⟩ = some (.pointer (some ⟨gd, k * 8, none⟩))) (hy : w.cell? ⟨y, 0, none⟩ = some (.int .i64 (lo : Nat))) (hz : w.cell? ⟨z, 0, none⟩ = some (.int .i64 v)) :
    Calls Try.prog 103 #[.int .i64 (i : Nat), .pointer (some ⟨x, 0, none⟩), .pointer (some ⟨y, 0, none⟩), .pointer (some ⟨z, 0, none⟩)] w fun e w' => e = .returned (.bool (decide (v ≤ (tM b k (lo + i) : Nat)))) ∧ Below w.heap.size w w' := by
  obtain ⟨s, hs⟩ : ∃ s, s = lo + i := ⟨_, rfl⟩
  have hsum : (lo : Int) + (i : Nat) = (s : Nat) := by omega
  have hnum := fun q => tnum_calls (hT.below (below_drewN (Below.refl _ w) q)) hk rfl s (by omega)
  rw [← hs]
  obtain ⟨m, hm⟩ : ∃ m, m = tM b k s := ⟨_, rfl⟩
  rw [← hm] at hnum ⊢
  have HNUM := Lib.hid hnum
  clear hnum hm hs hT
  go_enter Try.func103, Try.ntmps103
  go_wp2_with fail
  go_quiet ((go_at_call 62; (with_reducible exact quiet_dr (HNUM.out _))))
  go_wp2_with fail
  go_ret
  exact ⟨rfl, below_drewN (Below.refl _ _) nq⟩
end
end Go.Proofs.Ytgajpekolamjbaa
/- search among the numbers of a level. -/
namespace Go.Proofs.Ytgajpekolamjbaa
open Go Go.RowKit Go.Tk
section
variable {w : World} {gd : Nat} {b : List UInt8} {a : Option Addr} {cap : Nat} {vp : Nat → Option Addr}
set_option maxRecDepth 100000 in
set_option maxHeartbeats 2000000 in
theorem tsearch_calls (hT : TreeM w gd b a cap vp) (k : Nat) (hk : k < 4) (lo hi : Nat) (v : Int) (hlh : lo ≤ hi) (hhi : hi ≤ 2097152) (p : Nat) (hp : p = k * 8) :
    Calls Try.prog 64 #[.pointer (some ⟨gd, p, none⟩), .int .i64 (lo : Nat), .int .i64 (hi : Nat), .int .i64 v] w fun e w' => e = .returned (.int .i64 (srT b k lo hi v : Nat)) ∧ Below w.heap.size w w' := by
  have eg : ∀ args W, (callFunc 103 args).run Try.prog W = .ok (.enter 103 args) W := enters_of Try.func103 (by kernel_rfl) rfl
  obtain ⟨W0, hW0⟩ : ∃ W0, W0 = ((w.alloc (.cells #[.pointer (some ⟨gd, p, none⟩)] 113)).alloc (.cells #[.int .i64 (lo : Nat)] 3)).alloc (.cells #[.int .i64 v] 3) := ⟨_, rfl⟩
  have hB0 : Below w.heap.size w W0 := by rw [hW0]; exact (((Below.refl _ w).alloc (Nat.le_refl _) _).alloc (by simp) _).alloc (by simp; omega) _
  have hsz0 : W0.heap.size = w.heap.size + 3 := by rw [hW0]; simp
  have r0 : W0.heap[w.heap.size]? = some (.cells #[.pointer (some ⟨gd, p, none⟩)] 113 (0, 0)) := by rw [hW0, heap_alloc_old _ _ (by simp; omega), heap_alloc_old _ _ (by simp)]; exact heap_alloc_new _ _
  have r1 : W0.heap[w.heap.size + 1]? = some (.cells #[.int .i64 (lo : Nat)] 3 (0, 0)) := by rw [hW0, heap_alloc_old _ _ (by simp)]; have := heap_alloc_new (w.alloc (.cells #[.pointer (some ⟨gd, p, none⟩)] 113)) (.cells #[.int .i64 (lo : Nat)] 3); rwa [World.size_alloc] at this
  have r2 : W0.heap[w.heap.size + 2]? = some (.cells #[.int .i64 v] 3 (0, 0)) := by rw [hW0]; have := heap_alloc_new ((w.alloc (.cells #[.pointer (some ⟨gd, p, none⟩)] 113)).alloc (.cells #[.int .i64 (lo : Nat)] 3)) (.cells #[.int .i64 v] 3); rwa [World.size_alloc, World.size_alloc] at this
  obtain ⟨n, hn⟩ : ∃ n, n = hi - lo := ⟨_, rfl⟩
  have hsub : (hi : Int) - (lo : Nat) = (n : Nat) := by omega
  obtain ⟨K, hK⟩ : ∃ K, K = bsF (fun i => decide (v ≤ (tM b k (lo + i) : Nat))) n 0 n := ⟨_, rfl⟩
  have hcl : ∀ X, Below W0.heap.size W0 X → ∀ g, g < 3 → X.heap[w.heap.size + g]? = W0.heap[w.heap.size + g]? := fun X hX g hg => hX.block _ (by omega)
  have hs : ∀ W1, Below W0.heap.size W0 W1 → Calls Try.prog 102 #[.int .i64 (n : Nat), .func (.func 103) #[] #[.pointer (some ⟨w.heap.size, 0, none⟩), .pointer (some ⟨w.heap.size + 1, 0, none⟩), .pointer (some ⟨w.heap.size + 2, 0, none⟩)]] W1 fun e w' => e = .returned (.int .i64 (K : Nat)) ∧ Below W0.heap.size W0 w' := by
    intro W1 hW1
    rw [hK]
    refine (ssearch_calls W1 n (by omega) _ _ _ eg (fun W i hi hW => ?_)).mono fun e w' ⟨h1, h2⟩ => ⟨h1, hW1.trans (h2.mono hW1.size)⟩
    have hbb : Below W0.heap.size W0 W := hW1.trans (hW.mono hW1.size)
    refine ts1_calls (hT.below (hB0.trans (hbb.mono (by omega)))) k hk lo i v (by omega) w.heap.size (w.heap.size + 1) (w.heap.size + 2) ?_ ?_ ?_
    · rw [← hp]; exact cell_of_row W _ 0 _ _ _ ((hcl W hbb 0 (by omega)).trans r0)
    · exact cell_of_row W _ 0 _ _ _ ((hcl W hbb 1 (by omega)).trans r1)
    · exact cell_of_row W _ 0 _ _ _ ((hcl W hbb 2 (by omega)).trans r2)
  have hlo : ∀ X, Below W0.heap.size W0 X → X.cell? ⟨w.heap.size + 1, 0, none⟩ = some (.int .i64 (lo : Nat)) := fun X hX => cell_of_row X _ 0 _ _ _ ((hcl X hX 1 (by omega)).trans r1)
  have hres : ∀ X, Below W0.heap.size W0 X → Below w.heap.size w X := fun X hX => hB0.trans (hX.mono (by omega))
  obtain ⟨R, hR⟩ : ∃ R, R = srT b k lo hi v := ⟨_, rfl⟩
  have hR2 : (lo : Int) + (K : Nat) = (R : Nat) := by rw [hR, hK, hn]; unfold srT; omega
  have hRm : R ≤ 2097152 := by rw [hR]; have := (srT_le b k lo hi v hlh).2; omega
  rw [← hR]
  have HW0 := Lib.hid hW0
  have HS := Lib.hid hs
  have HLO := Lib.hid hlo
  have HRES := Lib.hid hres
  clear hs hlo hcl r0 r1 r2 hK hR hW0 hsz0 hB0 hT hp hn eg hres
  go_enter Try.func64, Try.ntmps64
  go_upto_region 1 with fail
  rw [← HW0.out]
  clear HW0
  refine wp_region_quiet_tail (fun w' => Below W0.heap.size W0 w') 7 (by kernel_rfl) (by kernel_rfl) (below_drewN (Below.refl _ _) 1) ?_
  simp only [List.take_succ_cons, List.take_zero, List.drop_succ_cons, List.drop_zero]
  refine wq_val (.int .i64 (lo : Nat)) rfl (fun w' h => by have hc := HLO.out w' h; simp [go_sem, hc]) ?_
  refine wq_val (.int .i64 (hi : Nat)) rfl (fun w' h => by simp [go_sem]) ?_
  refine wq_val (.int .i64 (lo : Nat)) rfl (fun w' h => by have hc := HLO.out w' h; simp [go_sem, hc]) ?_
  refine wq_val (.int .i64 (n : Nat)) rfl (fun w' h => by simp [go_sem, hsub]; rw [IntKind.wrap_i64]; omega) ?_
  refine wq_val (.func (.func 103) #[] #[.pointer (some ⟨w.heap.size, 0, none⟩), .pointer (some ⟨w.heap.size + 1, 0, none⟩), .pointer (some ⟨w.heap.size + 2, 0, none⟩)]) rfl (fun w' h => by simp [go_sem]) ?_
  refine wq_call (.int .i64 (K : Nat)) 102 #[.int .i64 (n : Nat), .func (.func 103) #[] #[.pointer (some ⟨w.heap.size, 0, none⟩), .pointer (some ⟨w.heap.size + 1, 0, none⟩), .pointer (some ⟨w.heap.size + 2, 0, none⟩)]] rfl (fun w' => by simp [go_sem]) (fun w' h => HS.out w' h) ?_
  refine wq_val (.int .i64 (R : Nat)) rfl (fun w' h => by simp [go_sem, hR2]; rw [IntKind.wrap_i64]; omega) ?_
  refine wpQuiet_nil ?_
  intro w2 hw2
  have HB2 := Lib.hid (HRES.out w2 hw2)
  clear hw2
  go_wp2_with fail
  go_ret
  exact ⟨rfl, HB2.out⟩
end
end Go.Proofs.Ytgajpekolamjbaa
/- Find in a viewed tree of any bytes. -/
namespace Go.Proofs.Ytgajpekolamjbaa
open Go Go.RowKit Go.Tk
/-- Find: how many levels are left, and between which entries. -/
def fdS (b : List UInt8) (q : Qd) : Nat → Nat → Nat → Nat × Bool
  | 0, _, _ => (0, false)
  | f + 1, lo, hi => if min hi (tN b (3 - f)) ≤ srT b (3 - f) (min lo (min hi (tN b (3 - f)))) (min hi (tN b (3 - f))) (q.at (3 - f)) ∨ (tM b (3 - f) (srT b (3 - f) (min lo (min hi (tN b (3 - f)))) (min hi (tN b (3 - f))) (q.at (3 - f))) : Nat) ≠ q.at (3 - f)
      then (stR b f (srT b (3 - f) (min lo (min hi (tN b (3 - f)))) (min hi (tN b (3 - f))) (q.at (3 - f))), false)
      else if f = 0 then (srT b (3 - f) (min lo (min hi (tN b (3 - f)))) (min hi (tN b (3 - f))) (q.at (3 - f)), true)
      else fdS b q f (chL b (3 - f) (srT b (3 - f) (min lo (min hi (tN b (3 - f)))) (min hi (tN b (3 - f))) (q.at (3 - f)))) (chH b (3 - f) (srT b (3 - f) (min lo (min hi (tN b (3 - f)))) (min hi (tN b (3 - f))) (q.at (3 - f))))
def findT (b : List UInt8) (q : Qd) : Nat × Bool := fdS b q 4 0 (tN b 0)
/-- One level of it. -/
theorem fd_step (b : List UInt8) (q : Qd) (k lo hi h j : Nat) (hk : k ≤ 3) (hh : h = min hi (tN b k)) (hj : j = srT b k (min lo h) h (q.at k)) :
    fdS b q (4 - k) lo hi = if h ≤ j ∨ ((tM b k j : Nat) : Int) ≠ q.at k then (stR b (3 - k) j, false) else if k = 3 then (j, true) else fdS b q (4 - (k + 1)) (chL b k j) (chH b k j) := by
  obtain ⟨f, hf⟩ : ∃ f, f = 3 - k := ⟨_, rfl⟩
  have hkf : k = 3 - f := by omega
  rw [show 4 - k = f + 1 by omega, show 4 - (k + 1) = f by omega, show 3 - k = f by omega]
  have e3 : (k = 3) = (f = 0) := propext ⟨fun h => by omega, fun h => by omega⟩
  simp only [e3]
  rw [hj, hh, hkf]
  rfl
theorem qcs_cell {w : World} {g : Nat} {q : Qd} {T : TypeId} (h : w.heap[g]? = some (.cells (qcs q).toArray T (0, 0))) (k : Nat) (hk : k < 4) : w.cell? ⟨g, k, none⟩ = some (.int .i64 (q.at k)) := by
  rw [cell_of_row w g k _ _ _ h]
  have : k = 0 ∨ k = 1 ∨ k = 2 ∨ k = 3 := by omega
  rcases this with rfl | rfl | rfl | rfl <;> rfl
section
variable {w : World} {gd : Nat} {b : List UInt8} {a : Option Addr} {cap : Nat} {vp : Nat → Option Addr}
set_option maxRecDepth 100000 in
set_option maxHeartbeats 3000000 in
theorem tfind_calls (hT : TreeM w gd b a cap vp) (q : Qd) :
    Calls Try.prog 24 #[.pointer (some ⟨gd, 0, none⟩), .agg (qcs q).toArray] w fun e w' => e = .returned (.tuple #[.int .i64 ((findT b q).1 : Nat), .bool (findT b q).2]) ∧ Below w.heap.size w w' := by
  obtain ⟨R, hR⟩ : ∃ R, R = findT b q := ⟨_, rfl⟩
  rw [← hR]
  have hB0 : Below w.heap.size w (w.alloc (.cells (qcs q).toArray 24)) := (Below.refl _ _).alloc (Nat.le_refl _) _
  have hq0 := heap_alloc_new w (.cells (qcs q).toArray 24)
  have hz0 : w.heap.size < (w.alloc (.cells (qcs q).toArray 24)).heap.size := by simp
  have HT := Lib.hid hT
  have HR := Lib.hid hR
  clear hT hR
  go_enter Try.func24, Try.ntmps24
  go_upto_region 1 with fail
  generalize w.alloc (.cells (qcs q).toArray 24) = w0 at hB0 hq0 hz0 ⊢
  have hqc : ∀ X, Below w0.heap.size w0 X → ∀ k, k < 4 → X.cell? ⟨w.heap.size, k, none⟩ = some (.int .i64 (q.at k)) := fun X hX k hk => qcs_cell ((hX.block _ hz0).trans hq0) k hk
  have HQC := Lib.hid hqc
  have HT0 := Lib.hid (HT.out.below hB0)
  have HB0 := Lib.hid hB0
  clear hqc hq0 hB0 HT
  obtain ⟨n0, hn0⟩ : ∃ n0, n0 = tN b 0 := ⟨_, rfl⟩
  have c0 := HT0.out.c0 (k := 0) (p := 0) (by omega) rfl
  rw [← hn0] at c0
  have hn0l : n0 ≤ 1048576 := by rw [hn0]; exact HT0.out.nk (by omega)
  have HN0 := Lib.hid hn0
  clear hn0
  go_quiet (fail)
  have hbq := below_drewN (Below.refl w0.heap.size w0) nq
  generalize w0.drewN nq = w1 at hbq ⊢
  have HB1 := Lib.hid hbq
  clear hbq c0
  go_wp2_with fail
  go_loopw [6, 7, 17] (fun lv hv kv wr => ∃ (k lo hi : Nat), lv = .int .i64 (lo : Nat) ∧ hv = .int .i64 (hi : Nat) ∧ kv = .int .i64 (k : Nat) ∧ k ≤ 3 ∧ hi ≤ 2097152 ∧ fdS b q (4 - k) lo hi = R ∧ Below w0.heap.size w0 wr) (fun _ _ kv _ => 4 - (intOf kv).toNat)
  case atStart => exact ⟨0, 0, n0, rfl, rfl, rfl, by omega, by omega, by rw [HR.out, HN0.out]; rfl, HB1.out⟩
  case round =>
    rename World => wr
    obtain ⟨k, lo, hi, rfl, rfl, rfl, hk, hhi, hfd, hbr⟩ := hrel
    have HBR := Lib.hid hbr
    have HFD := Lib.hid hfd
    have HTR := Lib.hid (HT0.out.below hbr)
    have hzr := hbr.size
    have ck := HQC.out wr hbr k (by omega)
    clear hbr hfd
    obtain ⟨nk, hnk⟩ : ∃ nk, nk = tN b k := ⟨_, rfl⟩
    have c0 := HTR.out.c0 (k := k) (p := k * 8) (by omega) rfl
    rw [← hnk] at c0
    obtain ⟨h, hh⟩ : ∃ h, h = min hi nk := ⟨_, rfl⟩
    obtain ⟨l, hl⟩ : ∃ l, l = min lo h := ⟨_, rfl⟩
    have hmin : min (hi : Int) (nk : Int) = (h : Nat) := by omega
    have hmin2 : min (lo : Int) (h : Int) = (l : Nat) := by omega
    have hlh : l ≤ h := by omega
    have hh2 : h ≤ 2097152 := by omega
    obtain ⟨v, hv⟩ : ∃ v, v = q.at k := ⟨_, rfl⟩
    rw [← hv] at ck
    obtain ⟨j, hj⟩ : ∃ j, j = srT b k l h v := ⟨_, rfl⟩
    have hjl : j ≤ h := by rw [hj]; exact (srT_le b k l h v hlh).2
    have hsr := tsearch_calls HTR.out k (by omega) l h v hlh hh2 (k * 8) rfl
    rw [← hj] at hsr
    have hst := fd_step b q k lo hi h j hk (by rw [hh, hnk]) (by rw [hj, hl, hv])
    rw [HFD.out, ← hv] at hst
    have HSR := Lib.hid hsr
    have HST := Lib.hid hst
    have HNK := Lib.hid hnk
    have HV := Lib.hid hv
    clear hsr hst hnk hh hl hv hj
    have dk : decide ((k : Int) < 4) = true := decide_eq_true (by omega)
    go_upto_region 8 with (go_at_call 64; (with_reducible refine HSR.out.mono ?_); rintro e w2 ⟨rfl, hb2⟩; (have HB2 := Lib.hid (HBR.out.trans (hb2.mono hzr))); clear hb2)
    have ck := HQC.out w2 HB2.out k (by omega)
    rw [← HV.out] at ck
    have hT2 := HT0.out.below HB2.out
    have hnum := fun q => tnum_calls (hT2.below (below_drewN (Below.refl _ w2) q)) (k := k) (p := k * 8) (by omega) rfl j (by omega)
    obtain ⟨m, hm⟩ : ∃ m, m = tM b k j := ⟨_, rfl⟩
    rw [← hm] at hnum
    have HNUM := Lib.hid hnum
    have HM := Lib.hid hm
    clear hnum hm hT2 c0
    have hz2 := HB2.out.size
    by_cases hjh : h ≤ j
    · have d1 : decide ((h : Int) ≤ (j : Int)) = true := decide_eq_true (by omega)
      have d2 : decide (h ≤ j) = true := decide_eq_true hjh
      have HRR := Lib.hid (show R = (stR b (3 - k) j, false) by rw [HST.out]; exact if_pos (.inl hjh))
      go_quiet (fail)
      have hbq := HB2.out.trans (below_drewN (Below.refl _ w2) nq |>.mono hz2)
      have HSTA := Lib.hid (tstart_calls (HT0.out.below hbq) k hk j (by omega))
      generalize w2.drewN nq = w3 at hbq HSTA ⊢
      have HB3 := Lib.hid hbq
      clear hbq
      go_wp2_with ((go_at_call 65; (with_reducible refine HSTA.out.mono ?_); rintro e w4 ⟨rfl, q4, rfl⟩))
      go_ret2
      exact ⟨by rw [HRR.out]; rfl, below_drewN (HB0.out.trans (HB3.out.mono (by omega))) q4⟩
    · have d1 : decide ((h : Int) ≤ (j : Int)) = false := decide_eq_false (by omega)
      have d2 : decide (h ≤ j) = false := decide_eq_false hjh
      by_cases hne : (m : Int) = v
      rotate_left
      · have d3 : ((m : Int) != v) = true := by simp [hne]
        have HRR := Lib.hid (show R = (stR b (3 - k) j, false) by rw [HST.out]; exact if_pos (.inr (by rw [← HM.out]; exact hne)))
        have HNE := Lib.hid hne
        clear hne
        go_quiet ((go_at_call 62; (with_reducible exact quiet_dr (HNUM.out _))))
        have hbq := HB2.out.trans (below_drewN (Below.refl _ w2) nq |>.mono hz2)
        have HSTA := Lib.hid (tstart_calls (HT0.out.below hbq) k hk j (by omega))
        generalize w2.drewN nq = w3 at hbq HSTA ⊢
        have HB3 := Lib.hid hbq
        clear hbq
        go_wp2_with ((go_at_call 65; (with_reducible refine HSTA.out.mono ?_); rintro e w4 ⟨rfl, q4, rfl⟩))
        go_ret2
        exact ⟨by rw [HRR.out]; rfl, below_drewN (HB0.out.trans (HB3.out.mono (by omega))) q4⟩
      · have d3 : ((m : Int) != v) = false := by simp [hne]
        have hst3 := HST.out
        rw [if_neg (by rw [← HM.out]; omega)] at hst3
        have HST3 := Lib.hid hst3
        have HNE := Lib.hid hne
        clear hne hst3
        by_cases hk3 : k = 3
        · have d4 : ((k : Int) == 3) = true := by simp [hk3]
          have d5 : (k == 3) = true := by simp [hk3]
          have HRR := Lib.hid (show R = (j, true) by rw [HST3.out]; exact if_pos hk3)
          have HK3 := Lib.hid hk3
          clear hk3
          go_quiet ((go_at_call 62; (with_reducible exact quiet_dr (HNUM.out _))))
          have hbq := HB2.out.trans (below_drewN (Below.refl _ w2) nq |>.mono hz2)
          generalize w2.drewN nq = w3 at hbq ⊢
          have HB3 := Lib.hid hbq
          clear hbq
          go_wp2_with fail
          go_ret2
          exact ⟨by rw [HRR.out]; rfl, HB0.out.trans (HB3.out.mono (by omega))⟩
        · have d4 : ((k : Int) == 3) = false := by simp; omega
          have d5 : (k == 3) = false := by simp [hk3]
          have HRR := Lib.hid (show fdS b q (4 - (k + 1)) (chL b k j) (chH b k j) = R by rw [HST3.out]; exact (if_neg hk3).symm)
          have hcl : chH b k j ≤ 2097152 := by have h1 := chH_le b k j; have h2 := HT0.out.nk (k := k + 1) (by omega); omega
          go_quiet ((go_at_call 62; (with_reducible exact quiet_dr (HNUM.out _))))
          have hbq := HB2.out.trans (below_drewN (Below.refl _ w2) nq |>.mono hz2)
          have HCH := Lib.hid (tchild_calls (HT0.out.below hbq) k (by omega) j (by omega))
          generalize w2.drewN nq = w3 at hbq HCH ⊢
          have HB3 := Lib.hid hbq
          clear hbq
          go_wp2_with ((go_at_call 66; (with_reducible refine HCH.out.mono ?_); rintro e w4 ⟨rfl, q4, rfl⟩))
          exact ⟨⟨k + 1, chL b k j, chH b k j, rfl, rfl, by go_num, by omega, hcl, HRR.out, HB3.out.trans (below_drewN (Below.refl _ _) q4 |>.mono (by have := HB3.out.size; omega))⟩, by simp [intOf]; omega⟩
end
end Go.Proofs.Ytgajpekolamjbaa
/- wild: how many levels of a pattern are fixed. -/
namespace Go.Proofs.Ytgajpekolamjbaa
open Go Go.RowKit Go.Tk
/-- The levels behind which all is free. -/
def wdF (q : Qd) : Nat → Nat
  | 0 => 0
  | k + 1 => if q.at k < 0 then wdF q k else k + 1
theorem wdF_le (q : Qd) : ∀ k, wdF q k ≤ k
  | 0 => Nat.le_refl _
  | k + 1 => by
    have := wdF_le q k
    simp only [wdF]
    split <;> omega
set_option maxRecDepth 100000 in
theorem twild_calls (w : World) (q : Qd) :
    Calls Try.prog 69 #[.agg (qcs q).toArray] w fun e w' => e = .returned (.int .i64 (wdF q 4 : Nat)) ∧ Below w.heap.size w w' := by
  have hB0 : Below w.heap.size w (w.alloc (.cells (qcs q).toArray 24)) := (Below.refl _ _).alloc (Nat.le_refl _) _
  have hq0 := heap_alloc_new w (.cells (qcs q).toArray 24)
  obtain ⟨R, hR⟩ : ∃ R, R = wdF q 4 := ⟨_, rfl⟩
  rw [← hR]
  have HR := Lib.hid hR
  clear hR
  go_enter Try.func69, Try.ntmps69
  go_upto_region 1 with fail
  generalize w.alloc (.cells (qcs q).toArray 24) = w0 at hB0 hq0 ⊢
  have hqc : ∀ k, k < 4 → w0.cell? ⟨w.heap.size, k, none⟩ = some (.int .i64 (q.at k)) := fun k hk => qcs_cell hq0 k hk
  have HQC := Lib.hid hqc
  have HB0 := Lib.hid hB0
  clear hqc hq0 hB0
  go_wp2_with fail
  go_loopw [3] (fun kv wr => ∃ k : Nat, kv = .int .i64 (k : Nat) ∧ k ≤ 4 ∧ wdF q k = R ∧ wr = w0) (fun kv _ => (intOf kv).toNat)
  case atStart => exact ⟨4, rfl, by omega, HR.out.symm, rfl⟩
  case round =>
    rename World => wr
    obtain ⟨k, rfl, hk, hf, rfl⟩ := hrel
    have HF := Lib.hid hf
    clear hf
    cases k with
    | zero =>
      have HR0 := Lib.hid (show R = 0 from HF.out.symm)
      go_wp2_with fail
      go_ret
      exact ⟨by rw [HR0.out]; rfl, HB0.out⟩
    | succ k =>
      obtain ⟨k1, hk1⟩ : ∃ k1, k1 = k + 1 := ⟨_, rfl⟩
      have hm1 : (k1 : Int) - 1 = (k : Nat) := by omega
      have hck := HQC.out k (by omega)
      obtain ⟨v, hv⟩ : ∃ v, v = q.at k := ⟨_, rfl⟩
      have hst : R = if v < 0 then wdF q k else k1 := by rw [← HF.out, hv, hk1]; rfl
      rw [← hv] at hck
      rw [← hk1]
      have HST := Lib.hid hst
      have d0 : decide ((0 : Int) < (k1 : Int)) = true := decide_eq_true (by omega)
      have hk4 : k1 ≤ 4 := by omega
      have HK1 := Lib.hid hk1
      clear hv hst hk1 hk
      by_cases hneg : v < 0
      · have d1 : decide (v < 0) = true := decide_eq_true hneg
        have HN := Lib.hid (show wdF q k = R by rw [HST.out, if_pos hneg])
        go_wp2_with fail
        exact ⟨⟨k, rfl, by omega, HN.out, trivial⟩, by simp [intOf]; omega⟩
      · have d1 : decide (v < 0) = false := decide_eq_false hneg
        have HN := Lib.hid (show R = k1 by rw [HST.out, if_neg hneg])
        go_wp2_with fail
        go_ret
        exact ⟨by rw [HN.out]; rfl, HB0.out⟩
end Go.Proofs.Ytgajpekolamjbaa
/- Match of any bytes. Plain: what the walk goes through. -/
namespace Go.Proofs.Ytgajpekolamjbaa
open Go Go.RowKit Go.Tk
/-- How far each level has been walked; the quad so far. -/
structure WkS where
  past : Nat → Nat
  q : Nat → Nat
/-- One entry after another. -/
def mtI (g : Nat → WkS → List (Nat × (Nat → Nat)) × WkS) : Nat → Nat → WkS → List (Nat × (Nat → Nat)) × WkS
  | 0, _, s => ([], s)
  | c + 1, i, s => ((g i s).1 ++ (mtI g c (i + 1) (g i s).2).1, (mtI g c (i + 1) (g i s).2).2)
/-- The entries of a level that are gone through: the bounds, then a fixed number or all. -/
def mtB (b : List UInt8) (ids : Qd) (k lo hi : Nat) (s : WkS) (g : Nat → WkS → List (Nat × (Nat → Nat)) × WkS) : List (Nat × (Nat → Nat)) × WkS :=
  if min hi (tN b k) ≤ max lo (s.past k) then ([], s) else
  if 0 ≤ ids.at k then
    (if srT b k (max lo (s.past k)) (min hi (tN b k)) (ids.at k) = min hi (tN b k) ∨ ((tM b k (srT b k (max lo (s.past k)) (min hi (tN b k)) (ids.at k)) : Nat) : Int) ≠ ids.at k then ([], ⟨upF s.past k (min hi (tN b k)), s.q⟩)
     else mtI g 1 (srT b k (max lo (s.past k)) (min hi (tN b k)) (ids.at k)) ⟨upF s.past k (min hi (tN b k)), s.q⟩)
  else mtI g (min hi (tN b k) - max lo (s.past k)) (max lo (s.past k)) ⟨upF s.past k (min hi (tN b k)), s.q⟩
/-- A level and all below it: how many levels stand below. -/
def mtL (b : List UInt8) (ids : Qd) : Nat → Nat → Nat → WkS → List (Nat × (Nat → Nat)) × WkS
  | 0, lo, hi, s => mtB b ids 3 lo hi s fun i s => ([(i, upF s.q 3 (tM b 3 i))], ⟨s.past, upF s.q 3 (tM b 3 i)⟩)
  | f + 1, lo, hi, s => mtB b ids (2 - f) lo hi s fun i s => mtL b ids f (chL b (2 - f) i) (chH b (2 - f) i) ⟨s.past, upF s.q (2 - f) (tM b (2 - f) i)⟩
/-- What Match goes through. -/
def matchT (b : List UInt8) (ids : Qd) : List (Nat × (Nat → Nat)) := (mtL b ids 3 0 (tN b 0) ⟨fun _ => 0, fun _ => 0⟩).1
theorem mtI_add (g : Nat → WkS → List (Nat × (Nat → Nat)) × WkS) : ∀ (c d i : Nat) (s : WkS), mtI g (c + d) i s = ((mtI g c i s).1 ++ (mtI g d (i + c) (mtI g c i s).2).1, (mtI g d (i + c) (mtI g c i s).2).2)
  | 0, d, i, s => by simp [mtI]
  | c + 1, d, i, s => by
    rw [show c + 1 + d = (c + d) + 1 by omega]
    simp only [mtI]
    rw [mtI_add g c d (i + 1), show i + 1 + c = i + (c + 1) by omega, List.append_assoc]
end Go.Proofs.Ytgajpekolamjbaa
