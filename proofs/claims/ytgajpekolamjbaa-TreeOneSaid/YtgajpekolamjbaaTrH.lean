/- TrBf TrH, laid as one. -/
import Derived.Test.YtgajpekolamjbaaTxA
import Derived.Test.YtgajpekolamjbaaBitsCur
import Derived.Test.YtgajpekolamjbaaRkV
import Derived.Test.YtgajpekolamjbaaBitsPackC
set_option linter.unusedVariables false
set_option linter.unusedSimpArgs false
/- A buffer that is filled piece by piece, beside rows of the call's own; slices.Max. -/
namespace Go.Tk
open Go Go.RowKit
theorem wh_len8 (d : List UInt8) (N : Nat) (hl : d.length = (N + 7) / 8) (hN : N ≤ 2000000) : (nums (whB d N)).length ≤ 10000000 := by
  rw [nums_len, wh_len']
  have := cnt_le d N
  unfold enO mkO smO grO
  omega
end Go.Tk
namespace Go.Proofs.Ytgajpekolamjbaa
open Go.RowKit Go.Tk
theorem packOut_len8 (zs : List Int) (wd : Int) : (packOut zs wd).length ≤ 8 * zs.length + 1 := by
  unfold packOut
  split
  · next h =>
    rw [packTo_len]
    have h1 : 0 ≤ wd ∧ wd ≤ 64 := by
      unfold packOk at h
      rw [Bool.and_eq_true] at h
      simpa using h.1
    have h2 : zs.length * wd.toNat ≤ zs.length * 64 := Nat.mul_le_mul_left _ (by omega)
    omega
  · simp
theorem OwC.mono8 {k : IntKind} {e : TypeId} {base base' : Nat} {w : World} {v : Value} {zs : List Int} (h : OwC k e base w v zs) (hb : base' ≤ base) : OwC k e base' w v zs := by
  obtain ⟨a, c, e1, h⟩ := h
  exact ⟨a, c, e1, h.mono hb⟩
theorem OwC.slN8 {k : IntKind} {e : TypeId} {base : Nat} {w : World} {v : Value} {zs : List Int} (h : OwC k e base w v zs) : ∃ a, v = .slice a zs.length zs.length ∧ SlI k w a zs.length zs.length zs ∧ (a = none → zs.length = 0) := by
  obtain ⟨a, hv, hs⟩ := h.sl
  refine ⟨a, hv, hs, ?_⟩
  rintro rfl
  obtain ⟨a', c, e1, h2⟩ := h
  rw [hv] at e1
  have e2 : a' = none := by injection e1 with e1; exact e1.symm
  subst e2
  have := h2.nil_cap
  have := h2.max
  omega
/-- The buffer holds these, if they fit. -/
def Fits (M : Int) (st : List Int × Bool) (zs : List Int) : Prop := ((zs.length : Int) ≤ M → st = (zs, false)) ∧ (M < zs.length → st.2 = true) ∧ st.1.length ≤ zs.length
theorem Fits.start {M : Int} (h : 0 ≤ M) : Fits M ([], false) [] := ⟨fun _ => rfl, fun h2 => by simp at h2; omega, Nat.le_refl _⟩
theorem Fits.put {M : Int} {st : List Int × Bool} {zs : List Int} (h : Fits M st zs) (ns : List Int) : Fits M (putF M st ns) (zs ++ ns) := by
  obtain ⟨h1, h2, h3⟩ := h
  refine ⟨fun hl => ?_, fun hl => ?_, ?_⟩
  · simp only [List.length_append] at hl
    rw [h1 (by omega)]
    unfold putF
    rw [if_neg (by simp), if_neg (by simp only; omega)]
  · simp only [List.length_append] at hl
    by_cases hz : (zs.length : Int) ≤ M
    · rw [h1 hz]
      unfold putF
      rw [if_neg (by simp), if_pos (by simp only; omega)]
    · have := h2 (by omega)
      unfold putF
      rw [if_pos this]; exact this
  · rw [List.length_append]
    unfold putF
    split
    · omega
    · split
      · simp; omega
      · simp; omega
/-- The levels, and a buffer apart from them. -/
structure BT (w0 : World) (n0 b n1 n2 b3 b8 : Nat) (vs : Nat → Value) (N : Nat → List Int) (B : Nat → List Bool) (M : Int) (w : World) (zs : List Int) (st : List Int × Bool) (v : Value) : Prop where
  rows : RowsP n1 w b3 vs N B
  top : b3 < n2 ∧ ∀ i, i < 8 → ∀ g, (vs i).ownBlock = some g → g < n2
  buf : BufB w n0 b M st v
  lo : b < n1
  hi : ∀ g, v.ownBlock = some g → n2 ≤ g
  sz : n2 ≤ w.heap.size
  arr : w.heap[b8]? = some (.cells #[vs 0, vs 1, vs 2, vs 3, vs 4, vs 5, vs 6, vs 7] 84 (0, 0))
  b8 : n1 ≤ b8 ∧ b8 < n2
  fits : Fits M st zs
  bel : Below n0 w0 w
section
variable {w0 : World} {n0 b n1 n2 b3 b8 : Nat} {vs : Nat → Value} {N : Nat → List Int} {B : Nat → List Bool} {M : Int} {w : World} {zs : List Int} {st : List Int × Bool} {v : Value}
theorem BT.below (h : BT w0 n0 b n1 n2 b3 b8 vs N B M w zs st v) {w' : World} (hb : Below w.heap.size w w') : BT w0 n0 b n1 n2 b3 b8 vs N B M w' zs st v :=
  ⟨h.rows.below hb, h.top, h.buf.kept (Kept.none_of_below hb) (fun _ _ h => h), h.lo, h.hi, Nat.le_trans h.sz hb.size, (hb.block b8 (by have := h.b8; have := h.sz; omega)).trans h.arr, h.b8, h.fits, h.bel.trans (hb.mono (by have := h.buf.new; have := h.lo; have := h.rows.new; have := h.top.1; have := h.sz; omega))⟩
theorem BT.alloc (h : BT w0 n0 b n1 n2 b3 b8 vs N B M w zs st v) (o : Obj) : BT w0 n0 b n1 n2 b3 b8 vs N B M (w.alloc o) zs st v := h.below ((Below.refl _ w).alloc (Nat.le_refl _) o)
theorem BT.put (h : BT w0 n0 b n1 n2 b3 b8 vs N B M w zs st v) {ns : List Int} {e : Ending} {w' : World} (hp : PutBufB w n0 b M (putF M st ns) v e w') : e = .returned (.tuple #[]) ∧ ∃ st' v', BT w0 n0 b n1 n2 b3 b8 vs N B M w' (zs ++ ns) st' v' ∧ (∀ g, g < w.heap.size → g ≠ b → v.ownBlock ≠ some g → w'.heap[g]? = w.heap[g]? ∧ v'.ownBlock ≠ some g) ∧ w.heap.size ≤ w'.heap.size := by
  obtain ⟨v', he, hB, hK, hS⟩ := hp
  have hfar : ∀ g, n1 ≤ g → g < n2 → ¬ Fp b v g := fun g h1 h2 hf => by
    rcases hf with rfl | hf
    · have := h.lo; omega
    · have := h.hi g hf; omega
  refine ⟨he, putF M st ns, v', ?_, fun g hg hb hv => ⟨hK.block g hg (fun hf => by
    rcases hf with rfl | hf
    · exact hb rfl
    · exact hv hf), hS.ne hg hv⟩, hK.size⟩
  refine ⟨h.rows.kept hK (hfar b3 h.rows.new h.top.1) (fun i hi g hg => hfar g (h.rows.own_lt hi g hg).1 (h.top.2 i hi g hg)), h.top, hB, h.lo, fun g hg => ?_, Nat.le_trans h.sz hK.size, (hK.block b8 (by have := h.b8; have := h.sz; omega) (hfar b8 h.b8.1 h.b8.2)).trans h.arr, h.b8, h.fits.put ns, ?_⟩
  · rcases hS with e | ⟨g', e, hg'⟩
    · rw [e] at hg; exact h.hi g hg
    · rw [e] at hg; have := Option.some.inj hg; have := h.sz; omega
  · exact h.bel.trans (Kept.below hK (by have := h.buf.new; have := h.lo; have := h.rows.new; have := h.top.1; have := h.sz; omega) (fun k hk => (h.buf.lt k hk).1))
theorem BT.num (h : BT w0 n0 b n1 n2 b3 b8 vs N B M w zs st v) {j : Nat} (hj : j < 4) : ∃ a c, vs (2 * j) = .slice a (N j).length c ∧ SlI .u64 w a (N j).length c (N j) ∧ (a = none → c = 0) := by
  have ho := RowsP.num h.rows hj
  have ho' := ho
  obtain ⟨a, c, hv, hs, _⟩ := ho.sl
  refine ⟨a, c, hv, hs, ?_⟩
  rintro rfl
  rw [hv] at ho'
  exact ho'.nil_cap
theorem BT.bit (h : BT w0 n0 b n1 n2 b3 b8 vs N B M w zs st v) {j : Nat} (hj : j < 4) : ∃ a c, vs (2 * j + 1) = .slice a (nums (packB (B j))).length c ∧ SlI .u8 w a (nums (packB (B j))).length c (nums (packB (B j))) := by
  obtain ⟨a, c, hv, hs, _⟩ := (RowsP.bit h.rows hj).sl
  exact ⟨a, c, hv, hs⟩
end
theorem smax_calls (w : World) (a : Option Addr) (n c : Nat) (zs : List Int) (h : SlI .u64 w a n c (0 :: zs)) (hz : ∀ x ∈ zs, 0 ≤ x ∧ x ≤ 4194304) :
    Calls Try.prog 39 #[.slice a n c] w fun e w' => e = .returned (.int .u64 (mxL zs)) ∧ w' = w := by
  have hle := h.le
  have hmx := h.max
  have hln := h.len
  have hn1 : 1 ≤ n := by rw [← hln]; simp
  have HS := Lib.hid h
  have HZ := Lib.hid hz
  obtain ⟨b0, o0, ha0, hc0⟩ := h.cell 0 (by omega)
  simp only [List.getD_cons_zero, Nat.add_zero] at hc0
  have hnl : ¬ n < 1 := by omega
  subst ha0
  clear h hz hln
  have hd : decide ((n : Int) < 1) = false := decide_eq_false (by omega)
  have hpos : 0 < n := by omega
  go_enter Try.func39, Try.ntmps39
  go_wp2
  go_loopw [3, 4] (fun mv iv wr => ∃ (i : Nat), iv = .int .i64 (i + 1 : Nat) ∧ mv = .int .u64 (mxL (zs.take i)) ∧ i + 1 ≤ n ∧ wr = w) (fun _ iv _ => n - (intOf iv).toNat)
  case atStart => exact ⟨0, rfl, by simp [mxL], hn1, rfl⟩
  case round =>
    obtain ⟨i, rfl, rfl, hi, rfl⟩ := hrel
    obtain ⟨i2, hi2⟩ : ∃ i2, i2 = i + 1 := ⟨_, rfl⟩
    rw [← hi2] at hi
    rw [← hi2]
    by_cases hlt : i2 < n
    · obtain ⟨b, o, he, hc⟩ := HS.out.cell i2 hlt
      have he2 : (⟨b0, o0, none⟩ : Addr) = ⟨b, o, none⟩ := Option.some.inj he
      injection he2 with e1 e2
      subst e1 e2
      have hlz : zs.length + 1 = n := by have := HS.out.len; simpa using this
      have hil : i < zs.length := by omega
      have hgx : (0 :: zs).getD i2 0 = zs.getD i 0 := by rw [hi2, List.getD_cons_succ]
      rw [hgx] at hc
      have hst : mxL (zs.take (i + 1)) = max (mxL (zs.take i)) (zs.getD i 0) := by
        rw [List.take_succ_eq_append_getElem hil]
        have : zs.getD i 0 = zs[i] := by simp [hil]
        rw [this]
        unfold mxL
        rw [List.foldl_append]; rfl
      obtain ⟨x, hx⟩ : ∃ x, x = zs.getD i 0 := ⟨_, rfl⟩
      obtain ⟨m, hm⟩ : ∃ m, m = mxL (zs.take i) := ⟨_, rfl⟩
      rw [← hx] at hc hst
      rw [← hm] at hst ⊢
      have HST := Lib.hid hst
      have HI2 := Lib.hid hi2
      clear hst hx hm hgx hil hlz hi2 he
      go_wp2_with fail
      exact ⟨⟨i2, by go_num, by rw [HI2.out, HST.out], by omega, trivial⟩, by simp [intOf]; omega⟩
    · have hin : i2 = n := by omega
      have ht : zs.take i = zs := by
        have : zs.length + 1 = n := by have := HS.out.len; simpa using this
        exact List.take_of_length_le (by omega)
      rw [ht]
      clear ht hi2
      go_wp2_with fail
      go_ret
      exact ⟨rfl, rfl⟩
end Go.Proofs.Ytgajpekolamjbaa
/- tree.Build. -/
namespace Go.Proofs.Ytgajpekolamjbaa
open Go.RowKit Go.Tk
/-- The bytes of the counts of the first k levels; and these with the first k levels. -/
def headP (L : List Qd) : Nat → List Int
  | 0 => []
  | k + 1 => headP L k ++ vz ((levN L k L.length).length : Nat)
def secP (L : List Qd) : Nat → List Int
  | 0 => headP L 4
  | k + 1 => secP L k ++ secB L k
theorem tree_sec (L : List Qd) : treeB L = secP L 4 := by unfold treeB; simp only [secP, headP, headB, List.nil_append]
theorem headP_len (L : List Qd) : ∀ k, (headP L k).length ≤ 10 * k
  | 0 => by simp [headP]
  | k + 1 => by
    have := headP_len L k
    have := vz_len ((levN L k L.length).length : Nat)
    simp only [headP, List.length_append]
    omega
theorem lastB_len (L : List Qd) (j : Nat) : (lastB L j).length = (levN L j L.length).length := by unfold lastB; rw [clB_len, levB_len]
theorem endB_len (L : List Qd) (j : Nat) : (endB L j).length = (levN L j L.length).length := by
  unfold endB
  split
  · next h => subst h; exact levB_len L 0 _
  · exact lastB_len L j
theorem secB_len {L : List Qd} (hL : L.length ≤ 1048576) (j : Nat) : (secB L j).length ≤ 20000000 := by
  unfold secB
  have h1 := levN_len L j L.length
  have h2 := packOut_len8 (levN L j L.length) (wdL (levN L j L.length))
  simp only [List.length_cons, List.length_append]
  split
  · simp; omega
  · have h3 := wh_len8 (packB (lastB L j)) (levN L j L.length).length (by rw [pack_len, lastB_len]) (by omega)
    omega
theorem secP_len {L : List Qd} (hL : L.length ≤ 1048576) : ∀ k, (secP L k).length ≤ 40 + 20000000 * k
  | 0 => by have := headP_len L 4; simp only [secP]; omega
  | k + 1 => by
    have := secP_len hL k
    have := secB_len hL k
    simp only [secP, List.length_append]
    omega
theorem idx8 (w : World) (vs : Nat → Value) (k : Nat) (hk : k < 4) (x y : Value) (hx : vs (2 * k) = x) (hy : vs (2 * k + 1) = y) : (Instr.index 84 (.agg #[vs 0, vs 1, vs 2, vs 3, vs 4, vs 5, vs 6, vs 7]) (.int .i64 (k : Nat))).run Try.prog w = .ok (.agg #[x, y]) w := by
  subst hx hy
  rcases (by omega : k = 0 ∨ k = 1 ∨ k = 2 ∨ k = 3) with rfl | rfl | rfl | rfl
  · kernel_rfl
  · kernel_rfl
  · kernel_rfl
  · kernel_rfl
theorem SlI.blk {k : IntKind} {w w' : World} {a : Option Addr} {n cap : Nat} {zs : List Int} (h : SlI k w a n cap zs) (ha : ∀ x, a = some x → x.block < w.heap.size → w'.heap[x.block]? = w.heap[x.block]?) : SlI k w' a n cap zs :=
  ⟨h.len, h.le, h.max, fun i hi => by
    obtain ⟨b, o, rfl, hc⟩ := h.cell i hi
    exact ⟨b, o, rfl, (World.cell?_of_block (a := ⟨b, o + i, none⟩) (ha ⟨b, o, none⟩ rfl (World.block_lt_of_cell? w ⟨b, o + i, none⟩ hc))).trans hc⟩⟩
theorem secB_zero (L : List Qd) (n : Nat) (hn : L.length = n) : secB L 0 = wdL (levN L 0 n) :: packOut (levN L 0 n) (wdL (levN L 0 n)) := by unfold secB; rw [hn]; simp
theorem secB_pos (L : List Qd) (n k : Nat) (hn : L.length = n) (hk : k ≠ 0) : secB L k = wdL (levN L k n) :: (packOut (levN L k n) (wdL (levN L k n)) ++ nums (whB (packB (lastB L k)) (levN L k n).length)) := by unfold secB; rw [hn]; simp [hk]
theorem wd_range {zs : List Int} (h : ∀ x ∈ zs, 0 ≤ x ∧ x ≤ 4194304) : 0 ≤ wdL zs ∧ wdL zs ≤ 23 := by
  have hm := mxL_range h (by omega)
  refine ⟨(bw_range _).1, ?_⟩
  unfold wdL bw
  have := Lib.bitLen_le (mxL zs).toNat 23 (by omega) (by omega)
  omega
theorem Try.size2 : (Try.prog.info? 83).map (·.size) = some 2 := by kernel_rfl
set_option maxRecDepth 100000 in
set_option maxHeartbeats 4000000 in
theorem tbuild_calls (w : World) (a : Option Addr) (n c : Nat) (L : List Qd) (h : SlQ w a n c L) (most : Int) (hm : -9223372036854775808 ≤ most ∧ most ≤ 9223372036854775807) :
    Calls Try.prog 9 #[.slice a n c, .int .i64 most] w fun e w' => ∃ v, e = .returned (.tuple #[v, .int .i64 (buildTE L most)]) ∧ OwC .u8 5 w.heap.size w' v (buildTO L most) ∧ Below w.heap.size w w' := by
  have hle := h.le
  have hmx := h.max
  have HS := Lib.hid h
  have HL := Lib.hid h.len
  have SZ := Lib.hid Try.sizeIds
  have S8 := Lib.hid Try.size8
  have S2 := Lib.hid Try.size2
  clear h
  obtain ⟨E, hE⟩ : ∃ E, E = chkT L := ⟨_, rfl⟩
  have HE := Lib.hid hE
  clear hE
  by_cases hE0 : E = 0
  rotate_left
  · have e1 : (E != 0) = true := by simp [hE0]
    have hbe : buildTE L most = E := by unfold buildTE; rw [← HE.out, if_pos hE0]
    have hbo : buildTO L most = [] := by unfold buildTO; rw [hbe, if_neg hE0]
    have HBE := Lib.hid hbe
    have HBO := Lib.hid hbo
    clear hbe hbo hE0
    go_enter Try.func9, Try.ntmps9
    go_wp2_with (go_at_call 34; refine (tcheck_calls _ _ _ _ _ HS.out).mono ?_; rintro e w' ⟨rfl, hb⟩; rw [← HE.out]; (have HB := Lib.hid hb); clear hb)
    go_ret2
    exact ⟨_, by rw [HBE.out]; rfl, by rw [HBO.out]; exact ⟨none, 0, rfl, Ow.nil _ _ _ _⟩, HB.out⟩
  · have hR : Right L := chk_right (by rw [← HE.out]; exact hE0)
    have HR := Lib.hid hR
    have e1 : (E != 0) = false := by simp [hE0]
    have hn20 : n ≤ 1048576 := by rw [← HL.out]; exact hR.len
    obtain ⟨M, hM⟩ : ∃ M, M = max most 0 := ⟨_, rfl⟩
    have hM0 : 0 ≤ M := by omega
    have hM1 : M ≤ 9223372036854775807 := by omega
    have HM := Lib.hid hM
    have HE0 := Lib.hid hE0
    clear hR hM hE0
    go_enter Try.func9, Try.ntmps9
    go_upto_region 5 with (first
      | (go_at_call 34; refine (tcheck_calls _ _ _ _ _ HS.out).mono ?_; rintro e w1 ⟨rfl, hb1⟩; rw [← HE.out]; (have HB1 := Lib.hid hb1); (have z1 := hb1.size); clear hb1)
      | (go_at_call 35; refine (new_calls _ w.heap.size z1 most hm.1 hm.2).mono ?_; rintro e w2 ⟨rfl, hbuf2, hk2⟩; rw [← HM.out] at hbuf2; (have HBUF2 := Lib.hid hbuf2); (have HB2 := Lib.hid (HB1.out.trans (Kept.below hk2 z1 (fun _ h => h.elim)))); (have z2 := HB2.out.size); clear hbuf2 hk2))
    have hs2 := HS.out.keep HB2.out
    have HS2 := Lib.hid hs2
    clear hs2
    go_upto_region 6 with (first
      | (go_at_call 36; refine (trows_calls _ _ _ _ _ HS2.out HR.out).mono ?_; rintro e w3 ⟨vs, rfl, ⟨b3, hrow⟩, hb3⟩; (have HROW := Lib.hid hrow); (have HB3 := Lib.hid hb3); (have HONES := Lib.hid hrow.ones); (have z3 := hb3.size); clear hrow hb3)
      | (refine wpList_store_new rfl 84 (.tmp 8) (.tmp 26) rfl nil8 #[vs 0, vs 1, vs 2, vs 3, vs 4, vs 5, vs 6, vs 7] rfl rfl S8.out rfl HONES.out ?_)
      | fail)
    obtain ⟨w4, hw4⟩ : ∃ w4, w4 = w3.alloc (.cells #[vs 0, vs 1, vs 2, vs 3, vs 4, vs 5, vs 6, vs 7] 84) := ⟨_, rfl⟩
    have hz4 : w4.heap.size = w3.heap.size + 1 := by rw [hw4]; simp
    have hbb := (HBUF2.out.lt _ (.inl rfl)).2
    have hb34 : Below w3.heap.size w3 w4 := by rw [hw4]; exact (Below.refl _ w3).alloc (Nat.le_refl _) _
    have hbt4 : BT w w.heap.size w1.heap.size w2.heap.size w4.heap.size b3 w3.heap.size vs (fun j => levN L j n) (endB L) M w4 [] ([], false) (.slice none 0 0) :=
      ⟨HROW.out.below hb34, ⟨by have := HROW.out.lt; omega, fun i hi g hg => by have := (HROW.out.own_lt hi g hg).2; omega⟩, (HBUF2.out.kept (Kept.none_of_below HB3.out) (fun _ _ h => h)).kept (Kept.none_of_below hb34) (fun _ _ h => h), hbb, fun g hg => by simp [Value.ownBlock] at hg, Nat.le_refl _, by rw [hw4]; exact heap_alloc_new _ _, ⟨z3, by omega⟩, Fits.start hM0, (HB2.out.trans (HB3.out.mono z2)).trans (hb34.mono (by omega))⟩
    rw [← hw4]
    obtain ⟨n2, hn2⟩ : ∃ n2, n2 = w4.heap.size := ⟨_, rfl⟩
    rw [← hn2] at hbt4
    obtain ⟨b8, hb8⟩ : ∃ b8, b8 = w3.heap.size := ⟨_, rfl⟩
    rw [← hb8] at hbt4 ⊢
    obtain ⟨b, hb⟩ : ∃ b, b = w1.heap.size := ⟨_, rfl⟩
    rw [← hb] at hbt4 ⊢
    obtain ⟨n1, hn1⟩ : ∃ n1, n1 = w2.heap.size := ⟨_, rfl⟩
    rw [← hn1] at hbt4
    have HBT4 := Lib.hid hbt4
    have hin : L.length = n := HL.out
    have hlev : ∀ j, (levN L j n).length ≤ n := fun j => levN_len L j n
    have hrng : ∀ j x, x ∈ levN L j n → 0 ≤ x ∧ x ≤ 4194304 := fun j => HR.out.num j n (by rw [hin]; exact Nat.le_refl _)
    have HLEV := Lib.hid hlev
    have HRNG := Lib.hid hrng
    have HARR := Lib.hid hbt4.arr
    clear hw4 hz4 hbb hb34 hbt4 hn2 hb8 hb hn1 hlev hrng hin HROW HB3 HBUF2 HB2 HS2 HONES z3 z2
    go_wp2_with (first
      | (refine wpList_load_row rfl 84 (.tmp 8) rfl b8 rfl _ _ _ _ HARR.out Try.underlying84 rfl S8.out ?_)
      | fail)
    go_loopw [28] (fun kv wx => ∃ (k : Nat) (st : List Int × Bool) (v : Value), kv = .int .i64 (k : Nat) ∧ k ≤ 4 ∧ BT w w.heap.size b n1 n2 b3 b8 vs (fun j => levN L j n) (endB L) M wx (headP L k) st v) (fun kv _ => 4 - (intOf kv).toNat)
    case atStart => exact ⟨0, _, _, rfl, Nat.zero_le _, HBT4.out⟩
    case round =>
      rename World => wx
      obtain ⟨k, st, v, rfl, hk, hbt⟩ := hrel
      have HBT := Lib.hid hbt
      clear hbt
      by_cases hk4 : k < 4
      · obtain ⟨na, nc, hnv, hns, hnn⟩ := HBT.out.num hk4
        obtain ⟨ba, bc, hbv, hbs⟩ := HBT.out.bit hk4
        obtain ⟨ln, hln⟩ : ∃ ln, ln = (levN L k n).length := ⟨_, rfl⟩
        have hln2 : ln ≤ 1048576 := by rw [hln]; have := HLEV.out k; omega
        rw [← hln] at hnv
        obtain ⟨lb, hlb⟩ : ∃ lb, lb = (nums (packB (endB L k))).length := ⟨_, rfl⟩
        rw [← hlb] at hbv
        have hix := fun w => idx8 w vs k hk4 _ _ hnv hbv
        have hst : st.1.length ≤ 40 := by have := HBT.out.fits.2.2; have := headP_len L k; omega
        have hhp : headP L (k + 1) = headP L k ++ vz (ln : Nat) := by simp only [headP]; rw [HL.out, ← hln]
        have HHP := Lib.hid hhp
        have hwl : IntKind.u64.wrap (ln : Int) = (ln : Int) := by rw [IntKind.wrap_u64]; omega
        clear hns hnn hbs hnv hbv hln hlb hhp
        go_upto_region 9 with (first
          | (refine wpList_store_new rfl 83 (.tmp 10) (.tmp 30) rfl #[.slice none 0 0, .slice none 0 0] #[.slice na ln nc, .slice ba lb bc] rfl rfl S2.out rfl rfl ?_)
          | fail)
        obtain ⟨w5, hw5⟩ : ∃ w5, w5 = wx.alloc (.cells #[.slice na ln nc, .slice ba lb bc] 83) := ⟨_, rfl⟩
        have hbt5 := HBT.out.alloc (.cells #[.slice na ln nc, .slice ba lb bc] 83)
        have c5 : w5.cell? ⟨wx.heap.size, 0, none⟩ = some (.slice na ln nc) := by rw [hw5, World.cell?_alloc_at _ _ _ _ rfl]; rfl
        rw [← hw5] at hbt5
        rw [← hw5]
        obtain ⟨g, hg⟩ : ∃ g, g = wx.heap.size := ⟨_, rfl⟩
        rw [← hg] at c5
        rw [← hg]
        have HBT5 := Lib.hid hbt5
        clear hw5 hbt5 hg
        go_wp2_with (go_at_call 37; (refine (varint_calls _ _ _ _ _ _ HBT5.out.buf (ln : Nat) (by omega) (by omega) hM0 hM1 (by omega)).mono ?_; rintro e w6 hp; obtain ⟨rfl, st', v', hbt, _, _⟩ := HBT5.out.put hp; rw [← HHP.out] at hbt; (have HBT6 := Lib.hid hbt); clear hp hbt))
        exact ⟨⟨k + 1, st', v', by go_num, by omega, HBT6.out⟩, by simp [intOf]; omega⟩
      · have hk44 : k = 4 := by omega
        have hbt := HBT.out
        rw [hk44] at hbt
        have hbt : BT w w.heap.size b n1 n2 b3 b8 vs (fun j => levN L j n) (endB L) M wx (secP L 0) st v := hbt
        have HBT0 := Lib.hid hbt
        have HARR2 := Lib.hid hbt.arr
        clear hk44 hbt HBT HARR HBT4
        go_wp2_with (first
          | (refine wpList_load_row rfl 84 (.tmp 8) rfl b8 rfl _ _ _ _ HARR2.out Try.underlying84 rfl S8.out ?_)
          | fail)
        go_loopw [39] (fun kv wx => ∃ (k : Nat) (st : List Int × Bool) (v : Value), kv = .int .i64 (k : Nat) ∧ k ≤ 4 ∧ BT w w.heap.size b n1 n2 b3 b8 vs (fun j => levN L j n) (endB L) M wx (secP L k) st v) (fun kv _ => 4 - (intOf kv).toNat)
        case atStart => exact ⟨0, _, _, rfl, Nat.zero_le _, HBT0.out⟩
        case round =>
          rename World => wx
          obtain ⟨k, st, v, rfl, hk, hbt⟩ := hrel
          have HBT := Lib.hid hbt
          clear hbt HBT0 HARR2
          by_cases hk4 : k < 4
          · obtain ⟨na, nc, hnv, hns, hnn⟩ := HBT.out.num hk4
            obtain ⟨ba, bc, hbv, hbs⟩ := HBT.out.bit hk4
            obtain ⟨zs, hzs⟩ : ∃ zs, zs = levN L k n := ⟨_, rfl⟩
            obtain ⟨ln, hln⟩ : ∃ ln, ln = zs.length := ⟨_, rfl⟩
            have hln2 : ln ≤ 1048576 := by rw [hln, hzs]; have := HLEV.out k; omega
            have hzr : ∀ x ∈ zs, 0 ≤ x ∧ x ≤ 4194304 := by rw [hzs]; exact HRNG.out k
            have hzu : U64 zs := fun j hj => by
              have := hzr (zs[j]) (List.getElem_mem hj)
              have e : zs.getD j 0 = zs[j] := by simp [hj]
              rw [e]; omega
            have hzm := mxL_range hzr (by omega)
            have hwr := wd_range hzr
            rw [← hzs, ← hln] at hnv hns
            obtain ⟨d, hd⟩ : ∃ d, d = packB (endB L k) := ⟨_, rfl⟩
            have hdl : d.length = (ln + 7) / 8 := by rw [hd, pack_len, endB_len, HL.out, ← hzs, hln]
            have hdp : padB d ln = true := by
              have := pack_pad (endB L k)
              rw [endB_len, HL.out, ← hzs, ← hln] at this
              rw [hd]; exact this
            rw [← hd] at hbv hbs
            obtain ⟨lb, hlb⟩ : ∃ lb, lb = (nums d).length := ⟨_, rfl⟩
            rw [← hlb] at hbv hbs
            obtain ⟨wd, hwd⟩ : ∃ wd, wd = bw (mxL zs) := ⟨_, rfl⟩
            have hwr : 0 ≤ wd ∧ wd ≤ 23 := by rw [hwd]; exact hwr
            obtain ⟨pk, hpk⟩ : ∃ pk, pk = packOut zs wd := ⟨_, rfl⟩
            have hpkl : pk.length ≤ 8388609 := by rw [hpk]; have := packOut_len8 zs wd; omega
            obtain ⟨pe, hpe⟩ : ∃ pe, pe = packErr zs wd := ⟨_, rfl⟩
            have hs0 : k = 0 → secP L (k + 1) = (secP L k ++ [wd]) ++ pk := fun h => by
              subst h
              simp only [secP]
              rw [secB_zero L n HL.out, ← hzs, hpk, hwd]; unfold wdL; simp
            have hs1 : k ≠ 0 → secP L (k + 1) = ((secP L k ++ [wd]) ++ pk) ++ nums (whB d ln) := fun h => by
              simp only [secP]
              rw [secB_pos L n k HL.out h, ← hzs, hpk, hwd, ← hln, hd]
              unfold wdL endB
              rw [if_neg h]; simp
            have hsl : (secP L k).length ≤ 80000040 := by have := secP_len HR.out.len k; omega
            have hst : st.1.length ≤ 80000040 := by have := HBT.out.fits.2.2; omega
            have hix := fun w => idx8 w vs k hk4 _ _ hnv hbv
            have hu8 : IntKind.u8.wrap wd = wd := by rw [IntKind.wrap_u8]; omega
            have HNN := Lib.hid hnn
            have HZR := Lib.hid hzr
            have HZU := Lib.hid hzu
            have HLN := Lib.hid hln
            have HDL := Lib.hid hdl
            have HDP := Lib.hid hdp
            have HWD := Lib.hid hwd
            have HPK := Lib.hid hpk
            have HPE := Lib.hid hpe
            have HS0 := Lib.hid hs0
            have HS1 := Lib.hid hs1
            have HLB := Lib.hid hlb
            have hzm0 := hzm.1
            have hzm1 := hzm.2
            have HNS := Lib.hid hns
            have HBV := Lib.hid hbv
            have HD := Lib.hid hd
            clear hnn hzr hzu hln hdl hdp hwd hpk hpe hs0 hs1 hlb hzm hzs hd hnv hbv hns hbs
            go_upto_region 14 with (first
              | (refine wpList_store_new rfl 83 (.tmp 12) (.tmp 42) rfl #[.slice none 0 0, .slice none 0 0] #[.slice na ln nc, .slice ba lb bc] rfl rfl S2.out rfl rfl ?_)
              | fail)
            obtain ⟨w5, hw5⟩ : ∃ w5, w5 = wx.alloc (.cells #[.slice na ln nc, .slice ba lb bc] 83) := ⟨_, rfl⟩
            have hbt5 := HBT.out.alloc (.cells #[.slice na ln nc, .slice ba lb bc] 83)
            have hb5 : Below wx.heap.size wx w5 := by rw [hw5]; exact (Below.refl _ wx).alloc (Nat.le_refl _) _
            have hrow5 : w5.heap[wx.heap.size]? = some (.cells #[.slice na ln nc, .slice ba lb bc] 83 (0, 0)) := by rw [hw5]; exact heap_alloc_new _ _
            rw [← hw5] at hbt5
            rw [← hw5]
            obtain ⟨g, hg⟩ : ∃ g, g = wx.heap.size := ⟨_, rfl⟩
            have hgb : g ≠ b := by have := (HBT.out.buf.lt b (.inl rfl)).2; omega
            have hgv : v.ownBlock ≠ some g := fun e => by have := (HBT.out.buf.own.lt g e).2; omega
            rw [← hg] at hrow5
            rw [← hg]
            have c50 : w5.cell? ⟨g, 0, none⟩ = some (.slice na ln nc) := by rw [cell_of_row w5 g 0 _ _ _ hrow5]; rfl
            have hns5 := HNS.out.keep hb5
            have how0 : Ow .u64 61 w5.heap.size (w5.alloc (.cells #[.int .u64 0] 61)) (.slice (some ⟨w5.heap.size, 0, none⟩) 1 1) [0] := RowI.ow (zs := [0]) (heap_alloc_new w5 _) (Nat.le_refl _) (by simp)
            have hns6 := hns5.keep ((Below.refl w5.heap.size w5).alloc (Nat.le_refl _) (.cells #[.int .u64 0] 61))
            have HOW0 := Lib.hid how0
            have HNS5 := Lib.hid hns5
            have HNS6 := Lib.hid hns6
            have HBT5 := Lib.hid hbt5
            have HROW5 := Lib.hid hrow5
            have hg5 : g < w5.heap.size := (Array.getElem?_eq_some_iff.1 hrow5).1
            clear hw5 hbt5 hg hb5 hrow5 hns5 how0 hns6 HBT HNS
            go_upto_region 15 with (first
              | (at_builtin; (refine wpList_appJ rfl (.tmp 43) (.tmp 45) _ rfl .u64 w5.heap.size 61 _ 8 Try.underlying81 Try.infoU64 rfl _ [0] rfl HOW0.out _ _ _ zs rfl HNS6.out HNN.out (by simp; omega) (by simp; omega) (by simp) ?_; intro v6 w6 ow6 hg6 st6; (have b6 : Below w5.heap.size w5 w6 := ((Below.refl _ w5).alloc (Nat.le_refl _) _).grown hg6 (by simp) (fun j hj => (HOW0.out.lt j hj).1)); obtain ⟨a6, k6, hv6, s6, _⟩ := ow6.sl; obtain ⟨l6, hl6⟩ : ∃ l6, l6 = ([0] ++ zs).length := ⟨_, rfl⟩; rw [← hl6] at hv6 s6; subst hv6; (have HS6 := Lib.hid s6); (have HB6 := Lib.hid b6); clear ow6 hg6 st6 hl6 s6 b6))
              | (go_at_call 39; refine (smax_calls w6 a6 l6 k6 zs HS6.out HZR.out).mono ?_; rintro e w7 ⟨rfl, rfl⟩)
              | (go_at_call 38; refine (width_calls (mxL zs) _ hzm0 (by omega)).mono ?_; rintro e w8 ⟨rfl, rfl⟩; rw [← HWD.out]))
            have hbt6 := HBT5.out.below HB6.out
            have hns7 := HNS5.out.keep HB6.out
            have hrow7 := (HB6.out.block g hg5).trans HROW5.out
            have hg7 : g < w7.heap.size := by have := HB6.out.size; omega
            have c70 : w7.cell? ⟨g, 0, none⟩ = some (.slice na ln nc) := by rw [cell_of_row w7 g 0 _ _ _ hrow7]; rfl
            have HBT6 := Lib.hid hbt6
            have HNS7 := Lib.hid hns7
            have HROW7 := Lib.hid hrow7
            clear hbt6 hns7 hrow7 c50 hg5 HBT5 HNS5 HROW5 HOW0 HNS6 HS6 HB6
            go_upto_region 16 with (go_at_call 40; (refine (pack_calls w7 na ln nc zs HNS7.out HZU.out wd (by omega)).mono ?_; rintro e w8 hb8; obtain ⟨kv, rfl, ow8, b8x⟩ := hb8; rw [← HPE.out]; rw [← HPK.out] at ow8; (have ow8' := ow8); obtain ⟨ka, kc, hkv, ksl, kbk⟩ := ow8.sl; obtain ⟨lk, hlk⟩ : ∃ lk, lk = pk.length := ⟨_, rfl⟩; rw [← hlk] at hkv ksl; (have hkn : ka = none → kc = 0 := by rintro rfl; rw [hkv] at ow8'; exact ow8'.nil_cap); subst hkv; (have HKN := Lib.hid hkn); (have HKSL := Lib.hid ksl); (have HKBK := Lib.hid kbk); (have HLK := Lib.hid hlk); (have HB8 := Lib.hid b8x); clear ow8 ow8' ksl b8x hkn kbk hlk))
            have hbt8 := HBT6.out.below HB8.out
            have hrow8 := (HB8.out.block g hg7).trans HROW7.out
            have hz8 := HB8.out.size
            have hg8 : g < w8.heap.size := by omega
            have c80 : w8.cell? ⟨g, 0, none⟩ = some (.slice na ln nc) := by rw [cell_of_row w8 g 0 _ _ _ hrow8]; rfl
            have hkv8 : ∀ x, ka = some x → x.block ≠ b ∧ v.ownBlock ≠ some x.block := fun x hx => by
              have h1 := (HKBK.out x hx).1
              refine ⟨fun e => ?_, fun e => ?_⟩
              · have := (HBT6.out.buf.lt b (.inl rfl)).2; omega
              · have := (HBT6.out.buf.own.lt _ e).2; omega
            have HBT8 := Lib.hid hbt8
            have HROW8 := Lib.hid hrow8
            have HKV8 := Lib.hid hkv8
            clear hbt8 hrow8 hkv8 c70 hg7 HBT6 HROW7 HNS7 HB8
            go_upto_region 17 with (go_at_call 41; (refine (byte_calls _ _ _ _ _ _ HBT8.out.buf wd hM0 hM1 (by omega)).mono ?_; rintro e w9 hp; obtain ⟨rfl, st9, v9, hbt, hfr, hsz⟩ := HBT8.out.put hp; (have HBT9 := Lib.hid hbt); (have HFR9 := Lib.hid hfr); clear hp hbt hfr))
            have hks9 := SlI.blk HKSL.out (fun x hx hl => (HFR9.out x.block hl (HKV8.out x hx).1 (HKV8.out x hx).2).1)
            have hr9 := HFR9.out g hg8 hgb hgv
            have hrow9 := hr9.1.trans HROW8.out
            have hg9 : g < w9.heap.size := by omega
            have hst9 : st9.1.length ≤ 80000041 := by have := HBT9.out.fits.2.2; simp only [List.length_append, List.length_singleton] at this; omega
            have HKS9 := Lib.hid hks9
            have HROW9 := Lib.hid hrow9
            have HGV9 := Lib.hid hr9.2
            clear hks9 hr9 hrow9 c80 hg8 HKSL HFR9 HBT8 HROW8
            go_upto_region 18 with (go_at_call 42; (refine (raw_calls _ _ _ _ _ _ HBT9.out.buf ka lk kc pk HKS9.out HKN.out hM0 hM1 (by have := HLK.out; omega)).mono ?_; rintro e w10 hp; obtain ⟨rfl, st10, v10, hbt, hfr, hsz10⟩ := HBT9.out.put hp; (have HBT10 := Lib.hid hbt); (have HFR10 := Lib.hid hfr); clear hp hbt hfr))
            have hr10 := HFR10.out g hg9 hgb HGV9.out
            have hrow10 := hr10.1.trans HROW9.out
            have c100 : w10.cell? ⟨g, 0, none⟩ = some (.slice na ln nc) := by rw [cell_of_row w10 g 0 _ _ _ hrow10]; rfl
            have c101 : w10.cell? ⟨g, 1, none⟩ = some (.slice ba lb bc) := by rw [cell_of_row w10 g 1 _ _ _ hrow10]; rfl
            have hst10 : st10.1.length ≤ 90000000 := by have := HBT10.out.fits.2.2; simp only [List.length_append, List.length_singleton] at this; omega
            clear hr10 hrow10 HKS9 HROW9 HGV9 HFR10 HBT9
            by_cases hk0 : k = 0
            · have hbt := HBT10.out
              rw [← HS0.out hk0] at hbt
              have HBT11 := Lib.hid hbt
              have hd0 : decide (0 < k) = false := decide_eq_false (by omega)
              have hdz : decide ((0 : Int) < (k : Int)) = false := decide_eq_false (by omega)
              clear hbt hk0
              go_wp2_with fail
              exact ⟨⟨k + 1, st10, v10, by go_num, by omega, HBT11.out⟩, by simp [intOf]; omega⟩
            · have hd0 : decide (0 < k) = true := decide_eq_true (by omega)
              have hdz : decide ((0 : Int) < (k : Int)) = true := decide_eq_true (by omega)
              have hk1 : 0 < k := by omega
              have hbs10 : SlI .u8 w10 ba lb bc (nums d) := by
                obtain ⟨ba', bc', hbv', hbs'⟩ := HBT10.out.bit hk4
                rw [← HD.out, ← HLB.out] at hbv' hbs'
                have e := HBV.out.symm.trans hbv'
                injection e with e1 _ e3
                rw [e1, e3]; exact hbs'
              have hwl := wh_len8 d ln HDL.out (by omega)
              have hs1 := HS1.out hk0
              have HBS10 := Lib.hid hbs10
              have HS1' := Lib.hid hs1
              have HWL := Lib.hid hwl
              have hbb10 := (HBT10.out.buf.lt b (.inl rfl)).2
              clear hbs10 hs1 hwl hk0 hd0
              obtain ⟨en, hen⟩ : ∃ en, en = enO d ln := ⟨_, rfl⟩
              have hwle : (nums (whB d ln)).length = en := by rw [nums_len, wh_len', hen]
              have HEN := Lib.hid hen
              have hen2 : en ≤ 10000000 := by have := HWL.out; omega
              have HWLE := Lib.hid hwle
              clear hen hwle
              go_upto_region 20 with (go_at_call 43; (refine (build_yes w10 ba lb bc d ln HBS10.out HDL.out HDP.out (by omega)).mono ?_; rintro e w11 ⟨g11, rfl, hg11, hr11, hb11⟩; rw [← HEN.out]; (have s11 := hr11.sl en en (by rw [HWLE.out]; exact Nat.le_refl _) HWLE.out (by omega)); rw [List.take_of_length_le (by rw [HWLE.out]; exact Nat.le_refl _)] at s11; (have HS11 := Lib.hid s11); (have HBT11 := Lib.hid (HBT10.out.below hb11)); clear hr11 hb11 s11))
              go_wp2_with (go_at_call 42; (refine (raw_calls _ _ _ _ _ _ HBT11.out.buf (some ⟨g11, 0, none⟩) en en (nums (whB d ln)) HS11.out (fun e => by cases e) hM0 hM1 (by omega)).mono ?_; rintro e w12 hp; obtain ⟨rfl, st12, v12, hbt, _, _⟩ := HBT11.out.put hp; rw [← HS1'.out] at hbt; (have HBT12 := Lib.hid hbt); clear hp hbt))
              exact ⟨⟨k + 1, st12, v12, by go_num, by omega, HBT12.out⟩, by simp [intOf]; omega⟩
          · have hk44 : k = 4 := by omega
            have hbt := HBT.out
            rw [hk44, ← tree_sec] at hbt
            have hst : st.1.length ≤ 140737488355328 := by have := hbt.fits.2.2; have := secP_len HR.out.len 4; rw [← tree_sec] at this; omega
            have hft := hbt.fits
            have htl : 1 ≤ (treeB L).length := by
              unfold treeB secB
              simp only [List.length_append, List.length_cons]
              omega
            have hfin : (buildTE L most = if st.2 = true then 1 else 0) ∧ buildTO L most = if st.2 = true then [] else st.1 := by
              have hc : chkT L = 0 := by rw [← HE.out]; exact HE0.out
              have hb : buildTE L most = if most < (treeB L).length then 1 else 0 := by unfold buildTE; rw [hc, if_neg (by simp)]
              by_cases hlt : most < (treeB L).length
              · have h2 := hft.2.1 (by have := HM.out; omega)
                rw [h2] at *
                have e1 : buildTE L most = 1 := by rw [hb, if_pos hlt]
                refine ⟨by rw [e1]; rfl, ?_⟩
                unfold buildTO; rw [e1]; rfl
              · have h2 := hft.1 (by have := HM.out; omega)
                have e1 : buildTE L most = 0 := by rw [hb, if_neg hlt]
                refine ⟨by rw [e1, h2]; rfl, ?_⟩
                unfold buildTO; rw [e1, h2]; rfl
            obtain ⟨fe, hfe⟩ : ∃ fe : Int, fe = (if st.2 = true then 1 else 0) := ⟨_, rfl⟩
            rw [← hfe] at hfin
            have HFE := Lib.hid hfe
            have HFIN := Lib.hid hfin
            have HBUF := Lib.hid hbt.buf
            have HBL := Lib.hid hbt.bel
            have hzz := hbt.bel.size
            clear hk44 hbt hft htl hfin hfe HBT
            go_wp2_with (go_at_call 44; (refine (bytes_calls _ _ _ _ _ _ HBUF.out hst).mono ?_; rintro e w11 hb11; obtain ⟨v11, rfl, ow11, k11⟩ := hb11; rw [← HFE.out]; (have OW11 := Lib.hid ow11); (have C11 := Lib.hid (HBL.out.trans (Kept.below k11 hzz (fun _ h => h.elim)))); clear ow11 k11))
            go_ret2
            refine ⟨v11, by rw [HFIN.out.1]; rfl, ?_, C11.out⟩
            rw [HFIN.out.2]
            exact OwC.mono8 OW11.out hzz
end Go.Proofs.Ytgajpekolamjbaa
