/- How far a test holds in a dictionary of any bytes. -/
import Derived.Test.YtjgcmnppiaikcaaDkJ
import Derived.Sort.CutIn
set_option linter.unusedVariables false
set_option linter.unusedSimpArgs false
namespace Go.Tk
open Go Go.RowKit
section
variable {L : List (Nat × List UInt8)} {base : Nat} {tst : List UInt8 → Bool}
/-- The number behind the last one that was gone through. -/
def lastN (base : Nat) (L : List (Nat × List UInt8)) (pre : List (Fin L.length)) : Nat := match pre.getLast? with
  | none => base
  | some x => L[x.val].1 + 1
theorem lastN_snoc (pre : List (Fin L.length)) (x : Fin L.length) : lastN base L (pre ++ [x]) = L[x.val].1 + 1 := by
  unfold lastN
  rw [List.getLast?_append]
  rfl
theorem last_pre (hat : ∀ j (h : j < L.length), L[j].1 = base + j) {pre : List (Fin L.length)} (hp : pre <+: List.finRange L.length) : lastN base L pre = base + pre.length := by
  unfold lastN
  cases h : pre.getLast? with
  | none =>
    rw [List.getLast?_eq_none_iff] at h
    subst h; rfl
  | some x =>
    simp only
    rw [List.getLast?_eq_getElem?] at h
    have hlen : pre.length - 1 < pre.length := by
      rcases Nat.lt_or_ge (pre.length - 1) pre.length with h1 | h1
      · exact h1
      · rw [List.getElem?_eq_none h1] at h; cases h
    have hx : x.val = pre.length - 1 := by
      have e := hp.getElem hlen
      rw [List.getElem?_eq_getElem hlen] at h
      have hx2 : pre[pre.length - 1] = x := by simpa using h
      rw [hx2] at e
      rw [e]; simp
    have := hat x.val x.isLt
    omega
theorem tw_all (h : ∀ y : Fin L.length, tst L[y.val].2 = true) : (L.takeWhile fun x => tst x.2).length = L.length := by
  have key : ∀ M : List (Nat × List UInt8), (∀ y ∈ M, tst y.2 = true) → (M.takeWhile fun x => tst x.2) = M := by
    intro M
    induction M with
    | nil => intro _; rfl
    | cons y M ih => intro hm; rw [List.takeWhile_cons, hm y (by simp), if_pos rfl, ih (fun z hz => hm z (by simp [hz]))]
  rw [key L]
  intro y hy
  obtain ⟨k, hk, rfl⟩ := List.mem_iff_getElem.1 hy
  exact h ⟨k, hk⟩
theorem tw_stop : ∀ (L : List (Nat × List UInt8)) (k : Nat) (hk : k < L.length), (∀ j (h : j < L.length), j < k → tst L[j].2 = true) → tst L[k].2 = false → (L.takeWhile fun x => tst x.2).length = k
  | [], k, hk, _, _ => by simp at hk
  | x :: L, 0, hk, h, h2 => by
    have : tst x.2 = false := h2
    simp [List.takeWhile_cons, this]
  | x :: L, k + 1, hk, h, h2 => by
    have h0 : tst x.2 = true := h 0 (by simp) (by omega)
    have ih := tw_stop L k (by simpa using hk) (fun j hj hjk => by have := h (j + 1) (by simpa using hj) (by omega); simpa using this) (by simpa using h2)
    simp [List.takeWhile_cons, h0, ih]
/-- What stood when the loop was left. -/
theorem tw_left {pre : List (Fin L.length)} (hp : pre <+: List.finRange L.length) (h1 : ∀ y ∈ pre.dropLast, tst L[y.val].2 = true) {x : Fin L.length} (hx : pre.getLast? = some x) (h2 : tst L[x.val].2 = false) : (L.takeWhile fun x => tst x.2).length = pre.dropLast.length := by
  rw [List.getLast?_eq_getElem?] at hx
  have hlen : pre.length - 1 < pre.length := by
    rcases Nat.lt_or_ge (pre.length - 1) pre.length with h1 | h1
    · exact h1
    · rw [List.getElem?_eq_none h1] at hx; cases hx
  have hpl : pre.length ≤ L.length := by have := hp.length_le; simpa using this
  have hat : ∀ j (h : j < pre.length), (pre[j]).val = j := by
    intro j hj
    have e := hp.getElem hj
    rw [e]; simp
  have hxv : x.val = pre.length - 1 := by
    rw [List.getElem?_eq_getElem hlen] at hx
    have hx2 : pre[pre.length - 1] = x := by simpa using hx
    rw [← hx2]; exact hat _ hlen
  rw [List.length_dropLast]
  have h3 : tst (L[pre.length - 1]'(by omega)).2 = false := by
    have : L[x.val] = L[pre.length - 1]'(by omega) := by simp only [hxv]
    rw [← this]; exact h2
  refine tw_stop L (pre.length - 1) (by omega) (fun j hj hjk => ?_) h3
  have hm : pre[j]'(by omega) ∈ pre.dropLast := by
    rw [List.mem_iff_getElem]
    exact ⟨j, by rw [List.length_dropLast]; exact hjk, by rw [List.getElem_dropLast]⟩
  have := h1 _ hm
  have e : L[(pre[j]'(by omega)).val] = L[j] := by simp only [hat j (by omega)]
  rw [e] at this
  exact this
end
theorem keepsFrom_below {B : Nat} {X Y : World} (h : Below X.heap.size X Y) : KeepsFrom B X Y := ⟨h.size, fun k o _ hk _ => (h.block k (Array.getElem?_eq_some_iff.1 hk).1).trans hk⟩
end Go.Tk
namespace Go.Proofs.Ytjgcmnppiaikcaa
open Go.RowKit Go.Shelf Go.Tk
attribute [local go_sem] Oper.semAt_some
/-- How many entries there are for which a test holds. -/
def aheadF (pz : List Int) (wd : Nat) (eb : List UInt8) (n : Nat) (tst : List UInt8 → Bool) : Nat :=
  let k := bsF (tstB pz wd eb tst) ((n + 15) / 16) 0 ((n + 15) / 16)
  if k = 0 then 0 else 16 * (k - 1) + ((blkN pz wd eb n (k - 1)).takeWhile fun x => tst x.2).length
set_option maxRecDepth 100000 in
set_option maxHeartbeats 400000 in
theorem ahead_calls (w : World) (gd n wd : Nat) (pa : Option Addr) (pc : Nat) (pz : List Int) (ea : Option Addr) (ec : Nat) (eb : List UInt8) (h : DictM w gd n wd pa pc pz ea ec (nums eb))
    (G : FuncId) (cb : Array Value) (tst : List UInt8 → Bool)
    (hcf : ∀ args W, (callFunc G args).run Try.prog W = .ok (.enter G args) W) (ht : ∀ W (t : ByteArray), t.size ≤ 262144 → Below w.heap.size w W → Calls Try.prog G (#[.string t] ++ cb) W fun e w' => e = .returned (.bool (tst t.data.toList)) ∧ Below W.heap.size W w') :
    Calls Try.prog 54 #[.pointer (some ⟨gd, 0, none⟩), .func (.func G) #[] cb] w fun e w' => e = .returned (.int .i64 (aheadF pz wd eb n tst : Nat)) ∧ Below w.heap.size w w' := by
  have hnN := h.nN
  have hgl : gd < w.heap.size := (Array.getElem?_eq_some_iff.1 h.row).1
  obtain ⟨nb, hnb⟩ : ∃ nb, nb = (n + 15) / 16 := ⟨_, rfl⟩
  obtain ⟨K, hK⟩ : ∃ K, K = bsF (tstB pz wd eb tst) nb 0 nb := ⟨_, rfl⟩
  have hKn : K ≤ nb := by rw [hK]; exact (bsF_le _ nb 0 nb (by omega) (by omega)).2
  obtain ⟨R, hR⟩ : ∃ R, R = aheadF pz wd eb n tst := ⟨_, rfl⟩
  have hR2 : R = if K = 0 then 0 else 16 * (K - 1) + ((blkN pz wd eb n (K - 1)).takeWhile fun x => tst x.2).length := by rw [hR, hK, hnb]; rfl
  rw [← hR]
  clear hR
  have eg : ∀ args W, (callFunc 74 args).run Try.prog W = .ok (.enter 74 args) W := enters_of Try.func74 (by kernel_rfl) rfl
  refine (callsIn_wide (n := 6)).1 ?_
  refine callsIn_of_wp_marks Try.func54 rfl trivial ?_ rfl
  simp only [Try.ntmps54, List.size_toArray, List.length_cons, List.length_nil, Nat.reduceAdd, Nat.reduceSub, Array.replicate_succ, Array.replicate_zero, List.push_toArray, List.append_toArray, List.nil_append, List.cons_append]
  obtain ⟨W0, hW0⟩ : ∃ W0, W0 = (w.alloc (.cells #[.pointer (some ⟨gd, 0, none⟩)] 38)).alloc (.cells #[.func (.func G) #[] cb] 104) := ⟨_, rfl⟩
  have b2 : Boxed W0 w.heap.size 38 (.pointer (some ⟨gd, 0, none⟩)) := by rw [hW0]; exact (Boxed.new w _ _).alloc _
  have b3 : Boxed W0 (w.heap.size + 1) 104 (.func (.func G) #[] cb) := by rw [hW0]; have := Boxed.new (w.alloc (.cells #[.pointer (some ⟨gd, 0, none⟩)] 38)) 104 (.func (.func G) #[] cb); rwa [World.size_alloc] at this
  have hB0 : Below w.heap.size w W0 := by rw [hW0]; exact ((Below.refl _ w).alloc (Nat.le_refl _) _).alloc (by simp) _
  have hsz0 : W0.heap.size = w.heap.size + 2 := by rw [hW0]; simp
  have h0 := (hB0.cell (p := ⟨gd, 0, none⟩) hgl).trans h.c0
  have hs : ∀ W1, Below W0.heap.size W0 W1 → Calls Try.prog 73 #[.int .i64 (nb : Nat), .func (.func 74) #[] #[.pointer (some ⟨w.heap.size, 0, none⟩), .pointer (some ⟨w.heap.size + 1, 0, none⟩)]] W1 fun e w' => e = .returned (.int .i64 (K : Nat)) ∧ Below W1.heap.size W1 w' := by
    intro W1 hW1
    rw [hK]
    refine search_calls W1 nb (by omega) _ _ _ eg (fun W i hi hW => ?_)
    have hbb : Below w.heap.size w W := (hB0.trans (hW1.mono (by omega))).trans (hW.mono (by have := hW1.size; omega))
    refine ahead1_calls w W hbb gd n wd pa pc pz ea ec eb h w.heap.size (w.heap.size + 1) G cb ?_ ?_ i (by omega) tst hcf ht
    · exact (hW.block _ (by have := hW1.size; omega)).trans ((hW1.block _ (by omega)).trans b2)
    · exact (hW.block _ (by have := hW1.size; omega)).trans ((hW1.block _ (by omega)).trans b3)
  have hbl := (callsIn_wide (n := 5)).2 (blocks_calls W0 n hnN)
  rw [← hnb] at hbl
  replace hs := fun W1 hW1 => (callsIn_wide (n := 5)).2 (hs W1 hW1)
  have HW0 := Lib.hid hW0
  have HS := Lib.hid hs
  have HBL := Lib.hid hbl
  have k2 := b2.cell
  have k3 := b3.cell
  have HB0 := Lib.hid hB0
  have B2 := Lib.hid b2
  have B3 := Lib.hid b3
  have HR := Lib.hid hR2
  have HK := Lib.hid hK
  have HT := Lib.hid ht
  have HD := Lib.hid h
  have HNB := Lib.hid hnb
  clear hs hbl hB0 b2 b3 hR2 hK ht h hW0 hnb
  gi_upto_region 1 with (fail)
  rw [← HW0.out]
  clear HW0
  gi_upto_region 2 with (first
    | (refine ⟨trivial, ?_⟩; gi_at_call 45; (with_reducible refine HBL.out.mono ?_); rintro e w1 ⟨rfl, hb1⟩; (have HB1 := Lib.hid hb1); clear hb1)
    | (refine ⟨trivial, ?_⟩; gi_at_call 73; (with_reducible refine (HS.out _ HB1.out).mono ?_); rintro e w2 ⟨rfl, hb2⟩; (have HB2 := Lib.hid hb2); clear hb2))
  have hB2 : Below w.heap.size w w2 := (HB0.out.trans (HB1.out.mono HB0.out.size)).trans (HB2.out.mono (HB0.out.trans (HB1.out.mono HB0.out.size)).size)
  have hs12 : ∀ j, j < W0.heap.size → w2.heap[j]? = W0.heap[j]? := fun j hj => (HB2.out.block j (by have := HB1.out.size; omega)).trans (HB1.out.block j hj)
  have B2w : Hid (Boxed w2 w.heap.size 38 (.pointer (some ⟨gd, 0, none⟩))) := Lib.hid ((hs12 _ (by omega)).trans B2.out)
  have B3w : Hid (Boxed w2 (w.heap.size + 1) 104 (.func (.func G) #[] cb)) := Lib.hid ((hs12 _ (by omega)).trans B3.out)
  have hz2 : w.heap.size + 2 ≤ w2.heap.size := by have := HB2.out.size; have := HB1.out.size; omega
  have HBW := Lib.hid hB2
  clear hB2 hs12 HS HBL B2 B3 HB0 HB1 HB2 k2 k3 h0 hsz0 HK
  by_cases hK0 : K = 0
  · have hr := HR.out
    rw [if_pos hK0] at hr
    subst hK0 hr
    gi_wp2
    exact leaves0 (a := { tmps := _, defers := [] }) rfl (by simp [results, Try.results54, go_sem]) ⟨rfl, HBW.out⟩
  obtain ⟨q, hq⟩ : ∃ q, K = q + 1 := ⟨K - 1, by omega⟩
  subst hq
  have hr := HR.out
  rw [if_neg hK0, Nat.add_sub_cancel] at hr
  obtain ⟨L, hL⟩ : ∃ L, L = blkN pz wd eb n q := ⟨_, rfl⟩
  rw [← hL] at hr
  have hqn : q < (n + 15) / 16 := by have := HNB.out; omega
  have hqN : q < 262144 := by omega
  have e1 : (((q + 1 : Nat) : Int) == 0) = false := by simp; omega
  have e2 : ((q + 1 : Nat) : Int) - 1 = (q : Int) := by omega
  have hat : ∀ j (h : j < L.length), L[j].1 = 16 * q + j := by
    intro j hj
    subst hL
    exact (bkF_at eb n 16 (16 * q) _ [] j hj).1
  have hsm : ∀ j (h : j < L.length), L[j].1 < 4194304 ∧ L[j].2.length ≤ 262144 := by
    intro j hj
    subst hL
    have t1 := bkF_at eb n 16 (16 * q) (numT pz wd q wd : Nat) [] j hj
    exact ⟨Nat.lt_of_lt_of_le (Nat.lt_of_le_of_lt (Nat.le_of_eq t1.1) t1.2.1) hnN, t1.2.2⟩
  have hstops : ∀ (k p1 p2 : Nat) (W : World), 1 ≤ k → W.heap[p1]? = some (.cells #[.pointer (some ⟨gd, 0, none⟩)] 38 (0, 0)) → W.heap[p2]? = some (.cells #[.int .i64 (q : Nat)] 3 (0, 0)) → w.heap.size ≤ W.heap.size → (∀ j, j < w.heap.size → W.heap[j]? = w.heap[j]?) →
      SeqStopsK Fence.wide k Try.prog 72 #[.pointer (some ⟨p1, 0, none⟩), .pointer (some ⟨p2, 0, none⟩)] (fun i : Fin L.length => encK L[i.val]) (KpD w p1 p2) (fun ys => ys = List.finRange L.length) (fun pre => pre <+: List.finRange L.length) L.length W :=
    fun k p1 p2 W hk hp1 hp2 hsz hsm => blockF_in k hk w gd n wd pa pc pz ea ec eb HD.out p1 p2 q hqn L hL W hp1 hp2 hsz hsm
  have HST := Lib.hid hstops
  have HR2 := Lib.hid hr
  have HAT := Lib.hid hat
  have HSM := Lib.hid hsm
  clear hstops hr hat hsm hL HR HD hK0 hKn HNB
  have b2 := B2w.out.cell
  have b3 := B3w.out.cell
  gi_upto_region 5 with fail
  have c2 := B2w.out.alloc (.cells #[.int .i64 ((q : Int) * 16)] 3)
  have c3 := B3w.out.alloc (.cells #[.int .i64 ((q : Int) * 16)] 3)
  have c6 := Boxed.new w2 3 (.int .i64 ((q : Int) * 16))
  have hB3 := HBW.out.alloc HBW.out.size (.cells #[.int .i64 ((q : Int) * 16)] 3)
  have hz3 : (w2.alloc (.cells #[.int .i64 ((q : Int) * 16)] 3)).heap.size = w2.heap.size + 1 := by simp
  clear b2 b3 B2w B3w HBW
  generalize (w2.alloc (.cells #[.int .i64 ((q : Int) * 16)] 3)) = W3 at c2 c3 c6 hB3 hz3 ⊢
  generalize w2.heap.size = B6 at *
  have k2 := c2.cell
  have C2 := Lib.hid c2
  have C3 := Lib.hid c3
  have C6 := Lib.hid c6
  have HB3 := Lib.hid hB3
  clear c2 c3 c6 hB3 e1 e2 eg
  gi_wp2_with (refine ⟨trivial, ?_⟩; gi_at_call 53; refine (block_in _ _ _ _).mono ?_; rintro e w' ⟨rfl, rfl⟩)
  have p1 := ((Boxed.new W3 38 (.pointer (some ⟨gd, 0, none⟩))).alloc (.cells #[.int .i64 (q : Nat)] 3))
  have p2 := Boxed.new (W3.alloc (.cells #[.pointer (some ⟨gd, 0, none⟩)] 38)) 3 (.int .i64 (q : Nat))
  have d2 := (C2.out.alloc (.cells #[.pointer (some ⟨gd, 0, none⟩)] 38)).alloc (.cells #[.int .i64 (q : Nat)] 3)
  have d3 := (C3.out.alloc (.cells #[.pointer (some ⟨gd, 0, none⟩)] 38)).alloc (.cells #[.int .i64 (q : Nat)] 3)
  have d6 := (C6.out.alloc (.cells #[.pointer (some ⟨gd, 0, none⟩)] 38)).alloc (.cells #[.int .i64 (q : Nat)] 3)
  have hB4 := (HB3.out.alloc HB3.out.size (.cells #[.pointer (some ⟨gd, 0, none⟩)] 38)).alloc (by simp; omega) (.cells #[.int .i64 (q : Nat)] 3)
  have hz4 : ((W3.alloc (.cells #[.pointer (some ⟨gd, 0, none⟩)] 38)).alloc (.cells #[.int .i64 (q : Nat)] 3)).heap.size = W3.heap.size + 2 := by simp
  simp only [World.size_alloc, hz3, Nat.add_assoc, Nat.reduceAdd] at p1 p2 ⊢
  generalize ((W3.alloc (.cells #[.pointer (some ⟨gd, 0, none⟩)] 38)).alloc (.cells #[.int .i64 (q : Nat)] 3)) = W4 at p1 p2 d2 d3 d6 hB4 hz4 ⊢
  clear C2 C3 C6 HB3 k2
  rename_i Q1 K1 a1
  refine wpIn_rangeFunc_ownH (α := Fin L.length) rfl (by omega) (gf := 72) (lb := #[.pointer (some ⟨B6 + 1, 0, none⟩), .pointer (some ⟨B6 + 2, 0, none⟩)]) rfl trivial (enters_of Try.func72 (by kernel_rfl) rfl)
    (HST.out 5 (B6 + 1) (B6 + 2) W4 (by omega) p1 p2 hB4.size (fun j hj => hB4.block j hj)) (fun h k => fun j hj => (k j hj).trans (h j hj)) (fun W l o o' hl h1 h2 h3 => fun j hj => World.putObj_heap_other (by omega)) (Below.refl _ _) (fun _ => rfl)
    (fun pre W => (∀ y ∈ pre, tst L[y.val].2 = true) ∧ Boxed W (w.heap.size + 1) 104 (.func (.func G) #[] cb) ∧ Boxed W B6 3 (.int .i64 (lastN (16 * q) L pre : Nat)) ∧ Below w.heap.size w W)
    (fun c pre W => (c = .exit 0 ∧ (∀ y ∈ pre.dropLast, tst L[y.val].2 = true) ∧ ∃ x, pre.getLast? = some x ∧ tst L[x.val].2 = false) ∧ Boxed W B6 3 (.int .i64 (lastN (16 * q) L pre.dropLast : Nat)) ∧ Below w.heap.size w W)
    (OwnFrom.and (ownFrom_pure _ (fun (pre : List (Fin L.length)) => ∀ y ∈ pre, tst L[y.val].2 = true)) (OwnFrom.and (Own.from (boxed_own _ _ _) _) (OwnFrom.and (Own.from (boxed_own _ _ (fun pre => .int .i64 (lastN (16 * q) L pre : Nat))) _) (ownFrom_below (Nat.le_refl _) (by omega)))))
    (fun c => OwnFrom.and (ownFrom_pure _ (fun (pre : List (Fin L.length)) => c = .exit 0 ∧ (∀ y ∈ pre.dropLast, tst L[y.val].2 = true) ∧ ∃ x, pre.getLast? = some x ∧ tst L[x.val].2 = false)) (OwnFrom.and (Own.from (boxed_own _ _ (fun (pre : List (Fin L.length)) => .int .i64 (lastN (16 * q) L pre.dropLast : Nat))) _) (ownFrom_below (Nat.le_refl _) (by omega))))
    ⟨(fun x hx => by cases hx), d3, (by rw [show ((lastN (16 * q) L [] : Nat) : Int) = (q : Int) * 16 by unfold lastN; simp; omega]; exact d6), hB4⟩
    (axOf ?fr) (axOf_own _) ?assign ?body ?done ?stop
  case assign =>
    intro l pre x X K hI hK
    unfold encK
    gi_wp2
    refine hK _ _ (KeepsFrom.refl _ _) (fun j hj => rfl) hI ?_
    refine axOf_intro ?_
    exact Eq.refl _
  case body =>
    rintro l pre x a' X hl ⟨r0, hr0⟩ ⟨hpre, c3, c6, hBX⟩ rfl hlt
    have h3 := c3.cell
    have h6 := c6.cell
    have f6 := frozen_of_row _ _ 0 _ _ c6
    have hsx : (L.get x).1 < 4194304 ∧ (L.get x).2.length ≤ 262144 := HSM.out x.val x.isLt
    have hls : lastN (16 * q) L (pre ++ [x]) = (L.get x).1 + 1 := lastN_snoc (base := 16 * q) pre x
    have HPRE := Lib.hid hpre
    have l6 := lt_of_block c6
    have l3 := lt_of_block c3
    have lX := (Array.getElem?_eq_some_iff.1 hr0).1
    have zX := hBX.size
    have hzt : ∀ b, tst (L.get x).2 = b → tst L[x.val].2 = b := fun _ h => h
    obtain ⟨z, hz⟩ : ∃ z, z = L.get x := ⟨_, rfl⟩
    have hz2 : L[x.val] = z := hz.symm
    rw [← hz] at hsx hls hzt
    dsimp only
    rw [hz2]
    have HZT := Lib.hid hzt
    clear hz hzt hz2
    obtain ⟨kx, ux⟩ := z
    simp only at hsx hls ⊢
    have HLS := Lib.hid hls
    obtain ⟨sx, hsx2⟩ : ∃ sx : ByteArray, sx = ⟨ux.toArray⟩ := ⟨_, rfl⟩
    have hsd : sx.data.toList = ux := by rw [hsx2]
    have ht0 := HT.out X sx (by rw [Lib.size_eq, hsd]; exact hsx.2) hBX
    rw [hsd] at ht0
    have htst : CallsIn (Fence.wide.inRound l) 3 Try.prog G (#[.string sx] ++ cb) X (fun e w' => e = .returned (.bool (tst ux)) ∧ Below X.heap.size X w') := (callsIn_wide (n := 3)).2 ht0
    clear ht0
    rw [← hsx2]
    have hkb : kx < 4194304 := hsx.1
    clear hsx hsx2 hsd hpre hls
    cases htb : tst ux with
    | true =>
      rw [htb] at htst
      have HTS := Lib.hid htst
      have HTB := Lib.hid htb
      have C3 := Lib.hid c3
      have C6 := Lib.hid c6
      have HBX := Lib.hid hBX
      clear htst htb c3 c6 hBX hr0
      gi_wp2_with (refine ⟨trivial, ?_⟩; (with_reducible refine HTS.out.mono ?_); rintro e w9 ⟨rfl, hb9⟩; (have q6 := (hb9.cell (p := ⟨B6, 0, none⟩) l6).trans h6); (have g6 := (hb9.frozen (p := ⟨B6, 0, none⟩) l6).trans f6); (have HB9 := Lib.hid hb9); clear hb9)
      have k6 : Boxed w9 B6 3 _ := (HB9.out.block _ l6).trans C6.out
      have k3 : Boxed w9 (w.heap.size + 1) 104 _ := (HB9.out.block _ l3).trans C3.out
      have hbf := (HBX.out.trans (HB9.out.mono HBX.out.size)).setCell (p := ⟨B6, 0, none⟩) (show w.heap.size ≤ B6 by omega) (.int .i64 ((kx : Int) + 1))
      refine ⟨(keepsFrom_below HB9.out).trans ((KeepsOthers.setCell _ _ _).from _), ?_, ?_, ?_, ?_, hbf⟩
      · intro j hj
        have hne : j ≠ B6 := by omega
        exact (heap_setCell_other _ _ _ _ (by simpa using hne)).trans (HB9.out.block _ (by omega))
      · intro y hy
        rcases List.mem_append.1 hy with hy | hy
        · exact HPRE.out y hy
        · obtain rfl := List.mem_singleton.1 hy; exact HZT.out _ HTB.out
      · exact k3.other (B' := B6) (by omega) _
      · rw [HLS.out]
        exact k6.set _
    | false =>
      rw [htb] at htst
      have HTS := Lib.hid htst
      have HTB := Lib.hid htb
      have C3 := Lib.hid c3
      have C6 := Lib.hid c6
      have HBX := Lib.hid hBX
      clear htst htb c3 c6 hBX hr0
      gi_wp2_with (refine ⟨trivial, ?_⟩; (with_reducible refine HTS.out.mono ?_); rintro e w9 ⟨rfl, hb9⟩; (have HB9 := Lib.hid hb9); clear hb9)
      refine ⟨keepsFrom_below HB9.out, ⟨rfl, ?_, x, ?_, HZT.out _ HTB.out⟩, ?_, HBX.out.trans (HB9.out.mono HBX.out.size)⟩
      · intro y hy
        rw [List.dropLast_concat] at hy
        exact HPRE.out y hy
      · rw [List.getLast?_append]; rfl
      · rw [List.dropLast_concat]
        exact (HB9.out.block _ l6).trans C6.out
  case done =>
    rintro D ys X hD rfl ⟨hpre, c3, c6, hBX⟩ hK
    have hR : R = lastN (16 * q) L (List.finRange L.length) := by
      rw [last_pre HAT.out (List.prefix_refl _), HR2.out, tw_all (fun y => hpre y (List.mem_finRange y))]
      simp
    have HRR := Lib.hid hR
    have h6 := c6.cell
    have HBX := Lib.hid hBX
    clear hR hpre c3 c6 hBX
    refine a1 _ _ ?_
    gi_wp2
    show LeavesInM Fence.wide 6 _ _ _ _ _ .returning _
    refine leaves1 (v := .int .i64 (R : Nat)) (a := { tmps := _, defers := [{ target := .collected D, args := #[] }] }) rfl hK (by rw [HRR.out]; simp [results, Try.results54, go_sem]) ⟨rfl, ?_⟩
    exact HBX.out.grown (grownBy_putObj' _ D (.deferred none)) HBX.out.size (fun k e => by cases e; omega)
  case stop =>
    rintro D c pre X hD hSp ⟨⟨rfl, h1, x, hx, h2⟩, c6, hBX⟩ hK
    have hR : R = lastN (16 * q) L pre.dropLast := by
      rw [last_pre HAT.out ((List.dropLast_prefix pre).trans hSp), HR2.out, tw_left hSp h1 hx h2]
    have HRR := Lib.hid hR
    have h6 := c6.cell
    have HBX := Lib.hid hBX
    clear hR h1 h2 hx c6 hBX
    gi_wp2
    show LeavesInM Fence.wide 6 _ _ _ _ _ .returning _
    refine leaves1 (v := .int .i64 (R : Nat)) (a := { tmps := _, defers := [{ target := .collected D, args := #[] }] }) rfl hK (by rw [HRR.out]; simp [results, Try.results54, go_sem]) ⟨rfl, ?_⟩
    exact HBX.out.grown (grownBy_putObj' _ D (.deferred none)) HBX.out.size (fun k e => by cases e; omega)
end Go.Proofs.Ytjgcmnppiaikcaa
