/- RkSp Dx RkRc, laid as one. -/
import Derived.Test.YtgajpekolamjbaaDoorRkBd
import Derived.Test.YtgajpekolamjbaaDoorRkZ
import Derived.Test.YtgajpekolamjbaaDoorRkV
import Derived.Test.YtgajpekolamjbaaDoorRkY
set_option linter.unusedVariables false
set_option linter.unusedSimpArgs false
/- spoilt of any bytes: the first number of the directories that is another one. -/
namespace Go.Proofs.YtgajpekolamjbaaDoor
open Go.RowKit Go.Tk
set_option maxRecDepth 100000 in
set_option maxHeartbeats 2000000 in
theorem spt_g (w : World) (gv p1 p2 b o L c G Sm M i v x : Nat) (f : Int) (hf0 : -1 ≤ f ∧ f ≤ 1000000000) (hp : G + 4 * i + 4 ≤ L) (hLc : L ≤ c) (hc : c ≤ 9223372036854775807) (hM : M ≤ 1000000000) (hG : G ≤ 1000000000) (hSm : Sm ≤ 1000000000) (hi : i ≤ 1000000000)
    (q1 : w.cell? ⟨p1, 0, none⟩ = some (.pointer (some ⟨gv, 0, none⟩))) (k0 : w.cell? ⟨gv, 0, none⟩ = some (.slice (some ⟨b, o, none⟩) L c)) (k4 : w.cell? ⟨gv, 4, none⟩ = some (.int .i64 (G : Nat))) (k5 : w.cell? ⟨gv, 5, none⟩ = some (.int .i64 (Sm : Nat))) (k6 : w.cell? ⟨gv, 6, none⟩ = some (.int .i64 (M : Nat)))
    (hr : w.heap[p2]? = some (.cells #[.int .i64 f] 3 (0, 0)))
    (hf : Calls Tryd.prog 47 #[.slice (some ⟨b, o + (G + 4 * i), none⟩) (L - (G + 4 * i)) (c - (G + 4 * i))] w fun e w' => e = .returned (.int .i64 (x : Nat)) ∧ ∃ q, w' = w.drewN q) :
    Calls Tryd.prog 66 #[.int .i64 2048, .int .i64 (i : Nat), .int .i64 (v : Nat), .pointer (some ⟨p1, 0, none⟩), .pointer (some ⟨p2, 0, none⟩)] w fun e w' => e = .returned (.bool true) ∧ ∃ q,
      (((x = v ∨ (0 ≤ f ∧ f ≤ (G + 4 * i : Nat))) ∧ w' = w.drewN q) ∨ (x ≠ v ∧ (f < 0 ∨ ((G + 4 * i : Nat) : Int) < f) ∧ w' = (w.drewN q).setCell ⟨p2, 0, none⟩ (.int .i64 (G + 4 * i : Nat)))) := by
  have q2 : w.cell? ⟨p2, 0, none⟩ = some (.int .i64 f) := cell_of_row w p2 0 _ _ _ hr
  have qf := frozen_of_row w p2 0 _ _ hr
  have HF := Lib.hid hf
  clear hf hr
  have hcast : ((G + 4 * i : Nat) : Int) = (G : Int) + 4 * (i : Int) := by omega
  rw [hcast]
  by_cases hxv : x = v
  · have e1 : ((x : Int) != (v : Int)) = false := by simp; omega
    go_enter Tryd.func66, Tryd.ntmps66
    go_wp2_with (go_at_call 47; (with_reducible refine HF.out.mono ?_); rintro e w5 ⟨rfl, q5, rfl⟩)
    go_ret
    exact ⟨rfl, q5, .inl ⟨.inl hxv, rfl⟩⟩
  have e1 : ((x : Int) != (v : Int)) = true := by simp; omega
  by_cases hneg : f < 0
  · go_enter Tryd.func66, Tryd.ntmps66
    go_wp2_with (go_at_call 47; (with_reducible refine HF.out.mono ?_); rintro e w5 ⟨rfl, q5, rfl⟩)
    go_ret
    exact ⟨rfl, q5, .inr ⟨hxv, .inl hneg, rfl⟩⟩
  by_cases hlt : (G : Int) + 4 * (i : Int) < f
  · go_enter Tryd.func66, Tryd.ntmps66
    go_wp2_with (go_at_call 47; (with_reducible refine HF.out.mono ?_); rintro e w5 ⟨rfl, q5, rfl⟩)
    go_ret
    exact ⟨rfl, q5, .inr ⟨hxv, .inr hlt, rfl⟩⟩
  · go_enter Tryd.func66, Tryd.ntmps66
    go_wp2_with (go_at_call 47; (with_reducible refine HF.out.mono ?_); rintro e w5 ⟨rfl, q5, rfl⟩)
    go_ret
    exact ⟨rfl, q5, .inl ⟨.inr ⟨by omega, by omega⟩, rfl⟩⟩
set_option maxRecDepth 100000 in
set_option maxHeartbeats 2000000 in
theorem spt_s (w : World) (gv p1 p2 b o L c G Sm M i v x : Nat) (f : Int) (hf0 : -1 ≤ f ∧ f ≤ 1000000000) (hp : Sm + 2 * i + 2 ≤ L) (hLc : L ≤ c) (hc : c ≤ 9223372036854775807) (hM : M ≤ 1000000000) (hG : G ≤ 1000000000) (hSm : Sm ≤ 1000000000) (hi : i ≤ 1000000000)
    (q1 : w.cell? ⟨p1, 0, none⟩ = some (.pointer (some ⟨gv, 0, none⟩))) (k0 : w.cell? ⟨gv, 0, none⟩ = some (.slice (some ⟨b, o, none⟩) L c)) (k4 : w.cell? ⟨gv, 4, none⟩ = some (.int .i64 (G : Nat))) (k5 : w.cell? ⟨gv, 5, none⟩ = some (.int .i64 (Sm : Nat))) (k6 : w.cell? ⟨gv, 6, none⟩ = some (.int .i64 (M : Nat)))
    (hr : w.heap[p2]? = some (.cells #[.int .i64 f] 3 (0, 0)))
    (hf : Calls Tryd.prog 67 #[.slice (some ⟨b, o + (Sm + 2 * i), none⟩) (L - (Sm + 2 * i)) (c - (Sm + 2 * i))] w fun e w' => e = .returned (.int .i64 (x : Nat)) ∧ ∃ q, w' = w.drewN q) :
    Calls Tryd.prog 66 #[.int .i64 256, .int .i64 (i : Nat), .int .i64 (v : Nat), .pointer (some ⟨p1, 0, none⟩), .pointer (some ⟨p2, 0, none⟩)] w fun e w' => e = .returned (.bool true) ∧ ∃ q,
      (((x = v ∨ (0 ≤ f ∧ f ≤ (Sm + 2 * i : Nat))) ∧ w' = w.drewN q) ∨ (x ≠ v ∧ (f < 0 ∨ ((Sm + 2 * i : Nat) : Int) < f) ∧ w' = (w.drewN q).setCell ⟨p2, 0, none⟩ (.int .i64 (Sm + 2 * i : Nat)))) := by
  have q2 : w.cell? ⟨p2, 0, none⟩ = some (.int .i64 f) := cell_of_row w p2 0 _ _ _ hr
  have qf := frozen_of_row w p2 0 _ _ hr
  have HF := Lib.hid hf
  clear hf hr
  have hcast : ((Sm + 2 * i : Nat) : Int) = (Sm : Int) + 2 * (i : Int) := by omega
  rw [hcast]
  by_cases hxv : x = v
  · have e1 : ((x : Int) != (v : Int)) = false := by simp; omega
    go_enter Tryd.func66, Tryd.ntmps66
    go_wp2_with (go_at_call 67; (with_reducible refine HF.out.mono ?_); rintro e w5 ⟨rfl, q5, rfl⟩)
    go_ret
    exact ⟨rfl, q5, .inl ⟨.inl hxv, rfl⟩⟩
  have e1 : ((x : Int) != (v : Int)) = true := by simp; omega
  by_cases hneg : f < 0
  · go_enter Tryd.func66, Tryd.ntmps66
    go_wp2_with (go_at_call 67; (with_reducible refine HF.out.mono ?_); rintro e w5 ⟨rfl, q5, rfl⟩)
    go_ret
    exact ⟨rfl, q5, .inr ⟨hxv, .inl hneg, rfl⟩⟩
  by_cases hlt : (Sm : Int) + 2 * (i : Int) < f
  · go_enter Tryd.func66, Tryd.ntmps66
    go_wp2_with (go_at_call 67; (with_reducible refine HF.out.mono ?_); rintro e w5 ⟨rfl, q5, rfl⟩)
    go_ret
    exact ⟨rfl, q5, .inr ⟨hxv, .inr hlt, rfl⟩⟩
  · go_enter Tryd.func66, Tryd.ntmps66
    go_wp2_with (go_at_call 67; (with_reducible refine HF.out.mono ?_); rintro e w5 ⟨rfl, q5, rfl⟩)
    go_ret
    exact ⟨rfl, q5, .inl ⟨.inr ⟨by omega, by omega⟩, rfl⟩⟩
set_option maxRecDepth 100000 in
set_option maxHeartbeats 2000000 in
theorem spt_m (w : World) (gv p1 p2 b o L c G Sm M i v x : Nat) (f : Int) (hf0 : -1 ≤ f ∧ f ≤ 1000000000) (hp : M + 4 * i + 4 ≤ L) (hLc : L ≤ c) (hc : c ≤ 9223372036854775807) (hM : M ≤ 1000000000) (hG : G ≤ 1000000000) (hSm : Sm ≤ 1000000000) (hi : i ≤ 1000000000)
    (q1 : w.cell? ⟨p1, 0, none⟩ = some (.pointer (some ⟨gv, 0, none⟩))) (k0 : w.cell? ⟨gv, 0, none⟩ = some (.slice (some ⟨b, o, none⟩) L c)) (k4 : w.cell? ⟨gv, 4, none⟩ = some (.int .i64 (G : Nat))) (k5 : w.cell? ⟨gv, 5, none⟩ = some (.int .i64 (Sm : Nat))) (k6 : w.cell? ⟨gv, 6, none⟩ = some (.int .i64 (M : Nat)))
    (hr : w.heap[p2]? = some (.cells #[.int .i64 f] 3 (0, 0)))
    (hf : Calls Tryd.prog 47 #[.slice (some ⟨b, o + (M + 4 * i), none⟩) (L - (M + 4 * i)) (c - (M + 4 * i))] w fun e w' => e = .returned (.int .i64 (x : Nat)) ∧ ∃ q, w' = w.drewN q) :
    Calls Tryd.prog 66 #[.int .i64 512, .int .i64 (i : Nat), .int .i64 (v : Nat), .pointer (some ⟨p1, 0, none⟩), .pointer (some ⟨p2, 0, none⟩)] w fun e w' => e = .returned (.bool true) ∧ ∃ q,
      (((x = v ∨ (0 ≤ f ∧ f ≤ (M + 4 * i : Nat))) ∧ w' = w.drewN q) ∨ (x ≠ v ∧ (f < 0 ∨ ((M + 4 * i : Nat) : Int) < f) ∧ w' = (w.drewN q).setCell ⟨p2, 0, none⟩ (.int .i64 (M + 4 * i : Nat)))) := by
  have q2 : w.cell? ⟨p2, 0, none⟩ = some (.int .i64 f) := cell_of_row w p2 0 _ _ _ hr
  have qf := frozen_of_row w p2 0 _ _ hr
  have HF := Lib.hid hf
  clear hf hr
  have hcast : ((M + 4 * i : Nat) : Int) = (M : Int) + 4 * (i : Int) := by omega
  rw [hcast]
  by_cases hxv : x = v
  · have e1 : ((x : Int) != (v : Int)) = false := by simp; omega
    go_enter Tryd.func66, Tryd.ntmps66
    go_wp2_with (go_at_call 47; (with_reducible refine HF.out.mono ?_); rintro e w5 ⟨rfl, q5, rfl⟩)
    go_ret
    exact ⟨rfl, q5, .inl ⟨.inl hxv, rfl⟩⟩
  have e1 : ((x : Int) != (v : Int)) = true := by simp; omega
  by_cases hneg : f < 0
  · go_enter Tryd.func66, Tryd.ntmps66
    go_wp2_with (go_at_call 47; (with_reducible refine HF.out.mono ?_); rintro e w5 ⟨rfl, q5, rfl⟩)
    go_ret
    exact ⟨rfl, q5, .inr ⟨hxv, .inl hneg, rfl⟩⟩
  by_cases hlt : (M : Int) + 4 * (i : Int) < f
  · go_enter Tryd.func66, Tryd.ntmps66
    go_wp2_with (go_at_call 47; (with_reducible refine HF.out.mono ?_); rintro e w5 ⟨rfl, q5, rfl⟩)
    go_ret
    exact ⟨rfl, q5, .inr ⟨hxv, .inr hlt, rfl⟩⟩
  · go_enter Tryd.func66, Tryd.ntmps66
    go_wp2_with (go_at_call 47; (with_reducible refine HF.out.mono ?_); rintro e w5 ⟨rfl, q5, rfl⟩)
    go_ret
    exact ⟨rfl, q5, .inl ⟨.inr ⟨by omega, by omega⟩, rfl⟩⟩
/-- The number that bytes hold where one of the directories' lies. -/
def numT (bs d : List UInt8) (N : Nat) (t : Nat × Nat × Nat) : Nat := if t.1 = 256 then f2 bs (posT d N t) else f4 bs (posT d N t)
/-- The first spoilt place among those told. -/
def FirstS (bs d : List UInt8) (N : Nat) (L : List (Nat × Nat × Nat)) (f : Int) : Prop := (f = -1 ∧ ∀ t, t ∈ L → numT bs d N t = t.2.2) ∨ ∃ t, t ∈ L ∧ numT bs d N t ≠ t.2.2 ∧ f = (posT d N t : Nat) ∧ ∀ u, u ∈ L → numT bs d N u ≠ u.2.2 → posT d N t ≤ posT d N u
theorem FirstS.same {bs d : List UInt8} {N : Nat} {L : List (Nat × Nat × Nat)} {f : Int} (h : FirstS bs d N L f) (t : Nat × Nat × Nat) (hx : numT bs d N t = t.2.2 ∨ (0 ≤ f ∧ f ≤ (posT d N t : Nat))) : FirstS bs d N (L ++ [t]) f := by
  rcases h with ⟨rfl, h⟩ | ⟨u, h1, h2, h3, h4⟩
  · rcases hx with hx | hx
    · refine .inl ⟨rfl, fun v hv => ?_⟩
      rcases List.mem_append.1 hv with hv | hv
      · exact h v hv
      · obtain rfl : v = t := by simpa using hv
        exact hx
    · omega
  · refine .inr ⟨u, List.mem_append_left _ h1, h2, h3, fun v hv hn => ?_⟩
    rcases List.mem_append.1 hv with hv | hv
    · exact h4 v hv hn
    · obtain rfl : v = t := by simpa using hv
      rcases hx with hx | hx
      · exact absurd hx hn
      · omega
theorem FirstS.new {bs d : List UInt8} {N : Nat} {L : List (Nat × Nat × Nat)} {f : Int} (h : FirstS bs d N L f) (t : Nat × Nat × Nat) (hx : numT bs d N t ≠ t.2.2) (hl : f < 0 ∨ ((posT d N t : Nat) : Int) < f) : FirstS bs d N (L ++ [t]) (posT d N t : Nat) := by
  refine .inr ⟨t, List.mem_append_right _ (by simp), hx, rfl, fun v hv hn => ?_⟩
  rcases List.mem_append.1 hv with hv | hv
  · rcases h with ⟨rfl, h⟩ | ⟨u, h1, h2, h3, h4⟩
    · exact absurd (h v hv) hn
    · have := h4 v hv hn; omega
  · obtain rfl : v = t := by simpa using hv
    exact Nat.le_refl _
theorem FirstS.bd {bs d : List UInt8} {N : Nat} {L : List (Nat × Nat × Nat)} {f : Int} (h : FirstS bs d N L f) (hL : ∀ t, t ∈ L → Vt d N t) : -1 ≤ f ∧ f ≤ (enO d N : Nat) := by
  rcases h with ⟨rfl, _⟩ | ⟨t, h1, _, rfl, _⟩
  · omega
  · have := (wh_at (hL t h1)).1; omega
/-- A vector's object whose bytes may be too many. -/
structure VecL (w : World) (gv : Nat) (a : Option Addr) (c : Nat) (bs : List UInt8) (n m : Nat) : Prop where
  row : VRow w gv a bs.length c n m 8 (oG n : Nat) (oS n : Nat) (oM n : Nat) (oE n m : Nat)
  sl : SlI .u8 w a bs.length c (nums bs)
  fit : oE n m ≤ bs.length
  mn : m ≤ n
  nN : n ≤ 67108864
theorem VecL.drewN {w gv a c bs n m} (h : VecL w gv a c bs n m) (k : Nat) : VecL (w.drewN k) gv a c bs n m := ⟨h.row, h.sl.drewN k, h.fit, h.mn, h.nN⟩
theorem VecL.below {w w' gv a c bs n m} (h : VecL w gv a c bs n m) (hb : Below w.heap.size w w') : VecL w' gv a c bs n m := ⟨(hb.block gv (lt_of_block h.row)).trans h.row, h.sl.keep hb, h.fit, h.mn, h.nN⟩
theorem VecL.kept {w w' : World} {S : Nat → Prop} {gv a c bs n m} (h : VecL w gv a c bs n m) (hk : Kept S w w') (h1 : ¬ S gv) (h2 : ∀ x, a = some x → ¬ S x.block) : VecL w' gv a c bs n m := ⟨(hk.block gv (lt_of_block h.row) h1).trans h.row, h.sl.kept hk h2, h.fit, h.mn, h.nN⟩
theorem VecL.at {w gv a c bs n m} (h : VecL w gv a c bs n m) (he : bs.length = oE n m) : VecAt w gv a c bs n m := ⟨h.row, h.sl, he, h.mn, h.nN⟩
theorem spt_tell (w : World) (gv p1 p2 : Nat) (a : Option Addr) (c : Nat) (bs d : List UInt8) (N m : Nat) (hl : d.length = (N + 7) / 8) (hm : cntB d N = m) (hv : VecL w gv a c bs N m) (q1 : w.cell? ⟨p1, 0, none⟩ = some (.pointer (some ⟨gv, 0, none⟩))) (f : Int) (hf : -1 ≤ f ∧ f ≤ (enO d N : Nat)) (hr : w.heap[p2]? = some (.cells #[.int .i64 f] 3 (0, 0))) (part i v : Nat) (ht : Vt d N (part, i, v)) :
    Calls Tryd.prog 66 #[.int .i64 (part : Nat), .int .i64 (i : Nat), .int .i64 (v : Nat), .pointer (some ⟨p1, 0, none⟩), .pointer (some ⟨p2, 0, none⟩)] w fun e w' => e = .returned (.bool true) ∧ ∃ q,
      (((numT bs d N (part, i, v) = v ∨ (0 ≤ f ∧ f ≤ (posT d N (part, i, v) : Nat))) ∧ w' = w.drewN q) ∨ (numT bs d N (part, i, v) ≠ v ∧ (f < 0 ∨ ((posT d N (part, i, v) : Nat) : Int) < f) ∧ w' = (w.drewN q).setCell ⟨p2, 0, none⟩ (.int .i64 (posT d N (part, i, v) : Nat)))) := by
  subst hm
  obtain ⟨e1, e2, e3, e4⟩ := o_eq hl
  have hN := hv.nN
  have hcn := cnt_le d N
  have hlen : enO d N ≤ bs.length := by rw [← e4]; exact hv.fit
  have hE : enO d N ≤ 100000000 := by unfold enO mkO smO grO; omega
  have h8 : 8 ≤ enO d N := by unfold enO mkO smO grO; omega
  obtain ⟨b, o, rfl, _⟩ := hv.sl.cell 0 (by omega)
  have k0 : w.cell? ⟨gv, 0, none⟩ = _ := cell_of_row w gv 0 _ _ _ hv.row
  have k4 : w.cell? ⟨gv, 4, none⟩ = some (.int .i64 (oG N : Nat)) := cell_of_row w gv 4 _ _ _ hv.row
  have k5 : w.cell? ⟨gv, 5, none⟩ = some (.int .i64 (oS N : Nat)) := cell_of_row w gv 5 _ _ _ hv.row
  have k6 : w.cell? ⟨gv, 6, none⟩ = some (.int .i64 (oM N : Nat)) := cell_of_row w gv 6 _ _ _ hv.row
  rw [e1] at k4
  rw [e2] at k5
  rw [e3] at k6
  obtain ⟨w1, _⟩ := wh_at ht
  have hMb : mkO d N ≤ enO d N := by unfold enO; omega
  have hSb : smO d N ≤ mkO d N := by unfold mkO; omega
  have hGb : grO d ≤ smO d N := by unfold smO; omega
  rcases ht with ⟨h1, h2⟩ | ⟨h1, h2⟩ | ⟨h1, h2⟩
  · simp only at h1 h2
    subst h1
    have ep : posT d N (2048, i, v) = grO d + 4 * i := rfl
    have es : szT (2048, i, v) = 4 := rfl
    have en : numT bs d N (2048, i, v) = f4 bs (grO d + 4 * i) := by unfold numT; rw [if_neg (by simp), ep]
    rw [ep, es] at w1
    rw [ep, en]
    have s4 := hv.sl.tail (grO d + 4 * i) (by omega)
    rw [nums_drop, if_neg (by have := hv.sl.le; omega)] at s4
    simp only [Option.map_some, Addr.add_lit] at s4
    have hf4 := four_calls w _ _ _ _ s4 (by omega)
    rw [f4_drop] at hf4
    exact spt_g w gv p1 p2 b o bs.length c (grO d) (smO d N) (mkO d N) i v _ f (by omega) (by omega) hv.sl.le hv.sl.max (by omega) (by omega) (by omega) (by omega) q1 k0 k4 k5 k6 hr hf4
  · simp only at h1 h2
    subst h1
    have ep : posT d N (256, i, v) = smO d N + 2 * i := rfl
    have es : szT (256, i, v) = 2 := rfl
    have en : numT bs d N (256, i, v) = f2 bs (smO d N + 2 * i) := by unfold numT; rw [if_pos rfl, ep]
    rw [ep, es] at w1
    rw [ep, en]
    have s4 := hv.sl.tail (smO d N + 2 * i) (by omega)
    rw [nums_drop, if_neg (by have := hv.sl.le; omega)] at s4
    simp only [Option.map_some, Addr.add_lit] at s4
    have hf4 := two_calls w _ _ _ _ s4 (by omega)
    rw [f2_drop] at hf4
    exact spt_s w gv p1 p2 b o bs.length c (grO d) (smO d N) (mkO d N) i v _ f (by omega) (by omega) hv.sl.le hv.sl.max (by omega) (by omega) (by omega) (by omega) q1 k0 k4 k5 k6 hr hf4
  · simp only at h1 h2
    subst h1
    have ep : posT d N (512, i, v) = mkO d N + 4 * i := rfl
    have es : szT (512, i, v) = 4 := rfl
    have en : numT bs d N (512, i, v) = f4 bs (mkO d N + 4 * i) := by unfold numT; rw [if_neg (by simp), ep]
    rw [ep, es] at w1
    rw [ep, en]
    have s4 := hv.sl.tail (mkO d N + 4 * i) (by omega)
    rw [nums_drop, if_neg (by have := hv.sl.le; omega)] at s4
    simp only [Option.map_some, Addr.add_lit] at s4
    have hf4 := four_calls w _ _ _ _ s4 (by omega)
    rw [f4_drop] at hf4
    exact spt_m w gv p1 p2 b o bs.length c (grO d) (smO d N) (mkO d N) i v _ f (by omega) (by omega) hv.sl.le hv.sl.max (by omega) (by omega) (by omega) (by omega) q1 k0 k4 k5 k6 hr hf4
/-- What holds while directory tells. -/
structure SpI (w2 : World) (p2 : Nat) (bs d : List UInt8) (N : Nat) (w' : World) (L : List (Nat × Nat × Nat)) : Prop where
  kept : Kept (fun j => j = p2) w2 w'
  vt : ∀ t, t ∈ L → Vt d N t
  box : ∃ f, w'.heap[p2]? = some (.cells #[.int .i64 f] 3 (0, 0)) ∧ FirstS bs d N L f
set_option maxRecDepth 100000 in
set_option maxHeartbeats 1000000 in
theorem spoilt_any (w : World) (gv : Nat) (a : Option Addr) (c : Nat) (bs d : List UInt8) (N m : Nat) (hl : d.length = (N + 7) / 8) (hp : padB d N = true) (hm : cntB d N = m) (hv : VecL w gv a c bs N m) (ad : Option Addr) (nd cd : Nat) (hs : SlI .u8 w ad nd cd (nums d)) (hab : ∀ x, a = some x → x.block < w.heap.size) (hdb : ∀ x, ad = some x → x.block < w.heap.size) :
    Calls Tryd.prog 57 #[.pointer (some ⟨gv, 0, none⟩), .slice ad nd cd] w fun e w' => ∃ f L, e = .returned (.int .i64 f) ∧ FirstS bs d N L f ∧ (∀ t, t ∈ L ↔ Vt d N t) ∧ Below w.heap.size w w' := by
  have hnd : nd = d.length := by have := hs.len; rw [nums_len] at this; exact this.symm
  have hN := hv.nN
  have HV := Lib.hid hv
  have HS := Lib.hid hs
  have HL := Lib.hid hl
  have HP := Lib.hid hp
  have HM := Lib.hid hm
  have HND := Lib.hid hnd
  have HAB := Lib.hid hab
  have HDB := Lib.hid hdb
  clear hv hs hl hp hnd hm hab hdb
  go_enter Tryd.func57, Tryd.ntmps57
  go_upto_region 2 with fail
  have hb1 : Below w.heap.size w (w.alloc (.cells #[.pointer (some ⟨gv, 0, none⟩)] 42)) := (Below.refl _ _).alloc (Nat.le_refl _) _
  have hb2 : Below w.heap.size w ((w.alloc (.cells #[.pointer (some ⟨gv, 0, none⟩)] 42)).alloc (.cells #[.int .i64 (-1)] 3)) := hb1.alloc (by simp) _
  have r1 : ((w.alloc (.cells #[.pointer (some ⟨gv, 0, none⟩)] 42)).alloc (.cells #[.int .i64 (-1)] 3)).heap[w.heap.size]? = some (.cells #[.pointer (some ⟨gv, 0, none⟩)] 42 (0, 0)) := (Below.heap_alloc _ _ _ (by simp)).trans (heap_alloc_new _ _)
  have r2 : ((w.alloc (.cells #[.pointer (some ⟨gv, 0, none⟩)] 42)).alloc (.cells #[.int .i64 (-1)] 3)).heap[w.heap.size + 1]? = some (.cells #[.int .i64 (-1)] 3 (0, 0)) := by
    have := heap_alloc_new (w.alloc (.cells #[.pointer (some ⟨gv, 0, none⟩)] 42)) (.cells #[.int .i64 (-1)] 3)
    simpa using this
  have hv2 := HV.out.below hb2
  have hs2 := HS.out.keep hb2
  generalize (w.alloc (.cells #[.pointer (some ⟨gv, 0, none⟩)] 42)).alloc (.cells #[.int .i64 (-1)] 3) = w2 at hb2 r1 r2 hv2 hs2 ⊢
  have q1 : w2.cell? ⟨w.heap.size, 0, none⟩ = some (.pointer (some ⟨gv, 0, none⟩)) := cell_of_row w2 _ 0 _ _ _ r1
  have k1 : w2.cell? ⟨gv, 1, none⟩ = some (.int .i64 (N : Nat)) := cell_of_row w2 gv 1 _ _ _ hv2.row
  have hgl := lt_of_block HV.out.row
  have hlt2 := lt_of_block r2
  have hdir := directory_calls 66 (.pointer (some ⟨w.heap.size, 0, none⟩)) (.pointer (some ⟨w.heap.size + 1, 0, none⟩)) cf_spoilt w2 ad nd cd d N HND.out HL.out HP.out hN (SpI w2 (w.heap.size + 1) bs d N)
    ⟨Kept.refl _ _, fun t ht => by simp at ht, -1, r2, .inl ⟨rfl, fun t ht => by simp at ht⟩⟩
    (fun w' L h => hs2.kept h.kept (fun x hx e => by have := HDB.out x hx; omega))
    (fun w' L part i v h ht => by
      obtain ⟨hk, hvt, f, hbx, hfs⟩ := h
      have hvw := hv2.kept hk (by omega) (fun x hx e => by have := HAB.out x hx; omega)
      have hq1 : w'.cell? ⟨w.heap.size, 0, none⟩ = some (.pointer (some ⟨gv, 0, none⟩)) := hk.cell q1 (by simp)
      refine (spt_tell w' gv w.heap.size (w.heap.size + 1) a c bs d N m HL.out HM.out hvw hq1 f (hfs.bd hvt) hbx part i v ht).mono fun e w'' ⟨e1, q, e2⟩ => ⟨e1, ?_⟩
      have hvt2 : ∀ t, t ∈ L ++ [(part, i, v)] → Vt d N t := fun t h => by
        rcases List.mem_append.1 h with h | h
        · exact hvt t h
        · obtain rfl : t = (part, i, v) := by simpa using h
          exact ht
      rcases e2 with ⟨h1, rfl⟩ | ⟨h1, h2, rfl⟩
      · exact ⟨hk.drewN q, hvt2, f, hbx, hfs.same _ h1⟩
      · exact ⟨Kept.setCell (hk.drewN q) (p := ⟨w.heap.size + 1, 0, none⟩) (.inl rfl) _, hvt2, _, by rw [heap_setCell_same (w'.drewN q) _ 0 _ _ _ hbx]; rfl, hfs.new _ h1 h2⟩)
  have hmf : ∀ (fn : Fn) (first cap : Array Value) (w : World), (Instr.makeFunc fn first cap).run Tryd.prog w = .ok (.func fn first cap) w := fun _ _ _ _ => rfl
  have HD := Lib.hid hdir
  have HB2 := Lib.hid hb2
  clear hdir hb1 hb2 r1 r2 hv2 hs2
  go_wp2_with (go_at_call 65; (with_reducible refine HD.out.mono ?_); rintro e w8 ⟨rfl, L, ⟨hk, hvt, f, hbx, hfs⟩, hall⟩; (have q2 : w8.cell? ⟨w.heap.size + 1, 0, none⟩ = some (.int .i64 f) := cell_of_row w8 _ 0 _ _ _ hbx); (have HK := Lib.hid hk); (have HVT := Lib.hid hvt); (have HFS := Lib.hid hfs); (have HALL := Lib.hid hall); clear hk hvt hbx hfs hall)
  go_ret
  exact ⟨f, L, rfl, HFS.out, fun t => ⟨HVT.out t, HALL.out t⟩, HB2.out.trans (HK.out.below HB2.out.size (fun j hj => by omega))⟩
end Go.Proofs.YtgajpekolamjbaaDoor
/- A quiet contract at every world some draws later. -/
namespace Go.Proofs.YtgajpekolamjbaaDoor
open Go.RowKit Go.Tk
theorem drew_ex {P : Program} {w0 w : World} {f : FuncId} {args : Array Value} {v : Value} (h : ∀ n, Calls P f args (w0.drewN n) fun e w' => e = .returned v ∧ ∃ k, w' = (w0.drewN n).drewN k) (hw : ∃ k, w = w0.drewN k) : Calls P f args w fun e w' => e = .returned v ∧ ∃ k, w' = w0.drewN k := by
  obtain ⟨k, rfl⟩ := hw
  exact quiet_dr (h k)
end Go.Proofs.YtgajpekolamjbaaDoor
/- The document's Count. -/
namespace Go.Proofs.YtgajpekolamjbaaDoor
open Go.RowKit Go.Tk
set_option maxHeartbeats 1000000 in
theorem rcount_calls (w : World) (a : Option Addr) (n c : Nat) (d : List UInt8) (N : Nat) (h : SlI .u8 w a n c (nums d)) (hN : N ≤ 67108864) (hl : N ≤ 8 * d.length) :
    Calls Tryd.prog 72 #[.slice a n c, .int .i64 (N : Nat)] w fun e w' => e = .returned (.int .i64 (cntB d N : Nat)) ∧ w = w' := by
  have hb := fun (i : Nat) (hi : i < N) => bit_calls w a n c d i h (by omega) (by omega)
  have HB := Lib.hid hb
  clear h hb
  go_enter Tryd.func72, Tryd.ntmps72
  go_wp2
  go_loop [5, 6] (fun mv iv => ∃ i m : Nat, iv = .int .i64 (i : Nat) ∧ i ≤ N ∧ mv = .int .i64 (m : Nat) ∧ m = cntB d i) (fun _ iv => N - (intOf iv).toNat)
  case atStart => exact ⟨0, 0, rfl, Nat.zero_le _, rfl, rfl⟩
  case round =>
    obtain ⟨i, m, rfl, hi, rfl, hm⟩ := hrel
    have hcm := cnt_le d i
    rw [← hm] at hcm
    have HM := Lib.hid hm
    clear hm
    by_cases hin : i < N
    · have hbi := HB.out i hin
      have hs : cntB d (i + 1) = cntB d i + (if btB d i = true then 1 else 0) := rfl
      obtain ⟨B, hB⟩ : ∃ B, B = btB d i := ⟨_, rfl⟩
      rw [← hB] at hbi hs
      have HBI := Lib.hid hbi
      have HS := Lib.hid hs
      clear hbi hs hB
      cases B with
      | true =>
        go_wp2_with (go_at_call 74; (with_reducible refine HBI.out.mono ?_); rintro e wz ⟨rfl, rfl⟩)
        go_round
        case rel => exact ⟨i + 1, m + 1, by go_num, by omega, by go_num, by rw [HS.out, HM.out]; rfl⟩
        case measure => simp [intOf]; omega
      | false =>
        go_wp2_with (go_at_call 74; (with_reducible refine HBI.out.mono ?_); rintro e wz ⟨rfl, rfl⟩)
        go_round
        case rel => exact ⟨i + 1, m, by go_num, by omega, rfl, by rw [HS.out, HM.out]; rfl⟩
        case measure => simp [intOf]; omega
    · obtain rfl : i = N := by omega
      go_wp2
      go_ret
      exact ⟨ret_int (by rw [HM.out]), rfl⟩
end Go.Proofs.YtgajpekolamjbaaDoor
