/- TreeOne: one form. -/
import Derived.Test.YtgajpekolamjbaaTzB
import Derived.Test.YtgajpekolamjbaaTxC
import Derived.Test.YtgajpekolamjbaaTxD
import Derived.Test.YtgajpekolamjbaaSamesameBytes18
import Derived.Deep.CutRange
set_option linter.unusedVariables false
set_option linter.unusedSimpArgs false
namespace Go.Tk
open Go Go.RowKit
theorem cut_val2 (z : Int) (n : Nat) (h0 : 0 < n) (hn : n ≤ 1000000000) : ∃ m : Nat, wrap64 ((IntKind.u64.wrap z).tmod (n : Int)) = (m : Int) ∧ m < n := by
  have h0 : 0 ≤ IntKind.u64.wrap z := by rw [IntKind.wrap_u64]; omega
  rw [Int.tmod_eq_emod_of_nonneg h0]
  have h1 := Int.emod_nonneg (IntKind.u64.wrap z) (b := (n : Int)) (by omega)
  have h2 := Int.emod_lt_of_pos (IntKind.u64.wrap z) (b := (n : Int)) (by omega)
  refine ⟨(IntKind.u64.wrap z % (n : Int)).toNat, ?_, by omega⟩
  rw [Int.toNat_of_nonneg h1]
  generalize IntKind.u64.wrap z % (n : Int) = y at *
  unfold wrap64
  omega
theorem ow_empty1 (k : IntKind) (e : TypeId) (base : Nat) (w : World) (hb : base ≤ w.heap.size) : Ow k e base (w.alloc (.cells #[] e)) (.slice (some ⟨w.heap.size, 0, none⟩) 0 0) [] :=
  RowI.ow (zs := []) (heap_alloc_new _ _) hb (by simp)
theorem ow_bytes {e base : Nat} {w : World} {v : Value} {z : List Int} {l : List UInt8} (h : Ow .u8 e base w v z) (hz : z = nums l) : ∃ a c bs, bs = l ∧ v = .slice a bs.length c ∧ SlI .u8 w a bs.length c (nums bs) ∧ (a = none → c = 0) ∧ (∀ x, a = some x → x.block < w.heap.size) := by
  subst hz
  obtain ⟨a, c, rfl, hs, hb⟩ := h.sl
  refine ⟨a, c, l, rfl, by rw [nums_len], ?_, fun e => by subst e; exact h.nil_cap, fun x hx => (hb x hx).2⟩
  rwa [nums_len] at hs
theorem mid_below1 {wr w' : World} {o : Obj} {n c : Nat} (h : (wr.alloc o).grownBy w' (Value.ownBlock (.slice (some ⟨wr.heap.size, 0, none⟩) n c))) : Below wr.heap.size wr w' :=
  ((Below.refl _ wr).alloc (Nat.le_refl _) o).grown h (by simp) (fun j hj => by simp [Value.ownBlock] at hj; omega)
theorem mid_below0 {w0 wr w' : World} {o : Obj} {v : Value} (hb : Below w0.heap.size w0 wr) (h : (wr.alloc o).grownBy w' v.ownBlock) (hv : ∀ k, v.ownBlock = some k → w0.heap.size ≤ k) : Below w0.heap.size w0 w' :=
  (hb.alloc hb.size o).grown h (by have := hb.size; simp; omega) hv
end Go.Tk
namespace Go.Proofs.Ytgajpekolamjbaa
open Go Go.RowKit Go.Tk
theorem open_bad (w : World) (a : Option Addr) (c : Nat) (b : List UInt8) (hs : SlI .u8 w a b.length c (nums b)) (hn : a = none → c = 0) (ha : ∀ x, a = some x → x.block < w.heap.size) (h : (vwE b).1 ≠ 0) (hl : b.length ≤ 140737488355328) :
    Calls Try.prog 16 #[.slice a b.length c] w fun e w' => ∃ i, e = .returned (.tuple #[.pointer none, .iface 149 (.pointer (some ⟨i, 0, none⟩))]) ∧ Below w.heap.size w w' := by
  refine (topen_calls w b a c hs hn ha hl).mono ?_
  rintro e w' ⟨xs, ys, _, hb, h1⟩
  have e0 : opT b xs ys 4 = vwE b := op_stop (k := 0) h (Nat.zero_le _)
  rw [e0] at h1
  rcases h1 with ⟨_, v, rfl, hv⟩ | ⟨h2, _⟩
  · obtain ⟨i, rfl⟩ := hv.some h
    exact ⟨i, rfl, hb⟩
  · exact absurd h2 h
theorem view_bad (w : World) (a : Option Addr) (c : Nat) (b : List UInt8) (hs : SlI .u8 w a b.length c (nums b)) (hn : a = none → c = 0) (ha : ∀ x, a = some x → x.block < w.heap.size) (h : (vwE b).1 ≠ 0) (hl : b.length ≤ 140737488355328) :
    Calls Try.prog 17 #[.slice a b.length c] w fun e w' => ∃ i, e = .returned (.tuple #[.pointer none, .iface 149 (.pointer (some ⟨i, 0, none⟩))]) ∧ Below w.heap.size w w' := by
  refine (tview_calls w a c b hs hn ha hl).mono ?_
  rintro e w' ⟨hb, h1⟩
  rcases h1 with ⟨_, v, rfl, hv⟩ | ⟨h2, _⟩
  · obtain ⟨i, rfl⟩ := hv.some h
    exact ⟨i, rfl, hb⟩
  · exact absurd h2 h
/-- Open, its error compared with nil. -/
theorem open_nil (w : World) (a : Option Addr) (c : Nat) (b : List UInt8) (hs : SlI .u8 w a b.length c (nums b)) (hn : a = none → c = 0) (ha : ∀ x, a = some x → x.block < w.heap.size) (hl : b.length ≤ 140737488355328) :
    Calls Try.prog 16 #[.slice a b.length c] w fun e w' => ∃ (er : Int) (pd v : Value), e = .returned (.tuple #[pd, v]) ∧ (∀ X, (binOp .eql 44 v .nilIface).run Try.prog X = .ok (.bool (decide (er = 0))) X) ∧ (∀ X x, (eqGuard .eql 44 x (.const .nilIface) v .nilIface).run Try.prog X = .ok () X) ∧
      (er = 0 → Right (lsB b) ∧ nums b = treeB (lsB b) ∧ ∃ gd ta tc vp, pd = .pointer (some ⟨gd, 0, none⟩) ∧ TreeM w' gd b ta tc vp) ∧ Below w.heap.size w w' := by
  refine (topen_calls w b a c hs hn ha hl).mono ?_
  rintro e w' ⟨xs, ys, hU, hb, h1⟩
  rcases h1 with ⟨h2, v, rfl, hv⟩ | ⟨h2, gd, vp, _, rfl, hd⟩
  · obtain ⟨i, rfl⟩ := hv.some h2
    refine ⟨(opT b xs ys 4).1, _, _, rfl, fun X => ?_, fun X x => rfl, fun h => absurd h h2, hb⟩
    rw [decide_eq_false h2]
    kernel_rfl
  · obtain ⟨o1, o2⟩ := open_tree hU h2
    refine ⟨0, _, _, rfl, fun X => ?_, fun X x => ?_, fun _ => ⟨o1, o2, gd, _, _, vp, rfl, hd⟩, hb⟩
    · rw [decide_eq_true rfl]
      kernel_rfl
    · cases x <;> rfl
theorem vw_cut {L : List Qd} {xb : List UInt8} (R : Right L) (h : nums xb = treeB L) (i : Nat) (hi : i < xb.length) : (vwE (xb.take i)).1 ≠ 0 := fun h0 => by
  have h1 := vw_of R h
  rw [← List.take_append_drop i xb] at h1
  have := vw_pre h0 (by rw [h1])
  have := congrArg List.length this
  simp at this; omega
theorem vw_more {L : List Qd} {xb : List UInt8} (R : Right L) (h : nums xb = treeB L) (u : UInt8) : (vwE (xb ++ [u])).1 ≠ 0 := fun h0 => by
  have := vw_pre (by rw [vw_of R h]) h0
  cases this
theorem tree_len {L : List Qd} {xb : List UInt8} (h : nums xb = treeB L) : 8 ≤ xb.length := by
  have h1 : ∀ k, 1 ≤ (secB L k).length := fun k => by unfold secB; simp
  have h2 : 4 ≤ (headB L).length := by
    unfold headB
    have := (vz_len ((levN L 0 L.length).length : Nat)).1
    have := (vz_len ((levN L 1 L.length).length : Nat)).1
    have := (vz_len ((levN L 2 L.length).length : Nat)).1
    have := (vz_len ((levN L 3 L.length).length : Nat)).1
    simp only [List.length_append]; omega
  rw [← nums_len xb, h]
  unfold treeB
  simp only [List.length_append]
  have := h1 0; have := h1 1; have := h1 2; have := h1 3
  omega
theorem take_qAt {T : List Qd} {i : Nat} (h : i < T.length) : T.take (i + 1) = T.take i ++ [qAt T i] := by
  rw [List.take_succ_eq_append_getElem h]; simp [qAt, h]
set_option maxRecDepth 100000 in
set_option maxHeartbeats 8000000 in
theorem treeone_go (w : World) (a0 : Option Addr) (c0 : Nat) (b : List UInt8) (hb0 : SlI .u8 w a0 b.length c0 (nums b)) (hbl : b.length ≤ 140737488351232) (hnil0 : a0 = none → c0 = 0) (a : Option Addr) (n c : Nat) (L : List Qd) (h : SlQ w a n c L) (hn : n ≤ 4398046510976) (at_ : Int) (hat : (Lit.int .i64 at_).wf = true) :
    Calls Try.prog 6 #[.slice a0 b.length c0, .slice a n c, .int .i64 at_] w fun e w' => e = .returned (.bool true) ∧ Below w.heap.size w w' := by
  obtain ⟨R, hR⟩ : ∃ R, R = risL L := ⟨_, rfl⟩
  have HRI := Lib.hid (fun W (hb : Below w.heap.size w W) => rising_calls W a n c L (h.keep hb) hn)
  simp only [← hR] at HRI
  have HRR := Lib.hid hR
  have HB0 := Lib.hid hb0
  have HN0 := Lib.hid hnil0
  clear h hb0 hnil0 hR hat
  go_enter Try.func6, Try.ntmps6
  go_upto_region 3 with (go_at_call 20; (with_reducible refine (works_calls _).mono ?_); rintro e w1 ⟨rfl, hb1⟩; (have HB1 := Lib.hid hb1); clear hb1)
  have hs1 := HB0.out.keep HB1.out
  have HS1 := Lib.hid hs1
  have hz1 := HB1.out.size
  clear hs1
  go_upto_if 37 with (first
    | (at_builtin; refine wpList_appJ rfl (.tmp 30) (.tmp 31) _ rfl .u8 w1.heap.size 5 _ 1 Try.underlying25 Try.infoU8 rfl _ [] rfl (ow_empty1 _ _ _ _ (Nat.le_refl _)) _ _ _ _ rfl (HS1.out.alloc _) HN0.out (by simp; omega) (by simp; omega) (by simp) ?_; intro v2 w2 ow2 hg2 st2; (obtain ⟨a2, c2, bs2, hbs2, rfl, sl2, hn2', hlt2⟩ := ow_bytes ow2 (List.nil_append _)); subst bs2; (have HOA := Lib.hid (open_nil w2 a2 c2 b sl2 hn2' hlt2 (by omega))); (have HB2 := Lib.hid (HB1.out.trans ((mid_below1 hg2).mono hz1))); clear ow2 hg2 st2 sl2 hn2' hlt2)
    | (go_at_call 16; (with_reducible refine HOA.out.mono ?_); rintro e w3 ⟨er, pd, v3, rfl, hq, hq2, hdm, hb3⟩; (have HDM := Lib.hid hdm); (have HB3 := Lib.hid (HB2.out.trans (hb3.mono HB2.out.size))); clear hdm hb3))
  go_cut [] from 37 (fun wx => Below w.heap.size w wx)
  case first =>
    by_cases ho : er = 0
    rotate_left
    · have d0 : decide (er = 0) = false := decide_eq_false ho
      rw [d0]
      clear hq hq2
      go_wp2
      go_meet
      exact HB3.out
    have d0 : decide (er = 0) = true := decide_eq_true ho
    rw [d0]
    clear hq hq2
    obtain ⟨hG, hT, gd, ta, tc, vp, rfl, hd⟩ := HDM.out ho
    have hB := blt_of hG hT
    obtain ⟨T, hTe⟩ : ∃ T, T = lsB b := ⟨_, rfl⟩
    rw [← hTe] at hG hT hB
    have hTn := hG.len
    have e3 : tN b 3 = T.length := by have := hB.n 3 (by omega); rw [posL_three hG _ (Nat.le_refl _)] at this; exact this
    have hget : ∀ W, Below w3.heap.size w3 W → ∀ i : Nat, i < T.length → Calls Try.prog 23 #[.pointer (some ⟨gd, 0, none⟩), .int .i64 (i : Nat)] W fun e w' => e = .returned (.tuple #[.agg #[.int .i64 (qAt T i).a, .int .i64 (qAt T i).b, .int .i64 (qAt T i).c, .int .i64 (qAt T i).d], .bool true]) ∧ Below W.heap.size W w' := fun W hW i hi => get_at W gd b ta tc vp (hd.below hW) T hB i hi
    have hlen : ∀ W, Below w3.heap.size w3 W → Calls Try.prog 22 #[.pointer (some ⟨gd, 0, none⟩)] W fun e w' => e = .returned (.int .i64 (T.length : Nat)) ∧ w' = W := fun W hW => by
      have := tlen_calls (hd.below hW)
      rw [e3] at this
      exact this
    have hbu : ∀ W a' c', SlQ W a' T.length c' T → Calls Try.prog 9 #[.slice a' T.length c', .int .i64 (b.length : Nat)] W fun e w' => ∃ x, e = .returned (.tuple #[.slice x b.length b.length, .int .i64 0]) ∧ SlI .u8 w' x b.length b.length (nums b) ∧ Below W.heap.size W w' := fun W a' c' hs' => by
      have := tbuild_calls W a' T.length c' T hs' (b.length : Nat) ⟨by omega, by omega⟩
      have he : buildTE T (b.length : Nat) = 0 := by
        unfold buildTE
        rw [right_chk hG, if_neg (by omega), if_neg (by rw [← hT, nums_len]; omega)]
      have ho : buildTO T (b.length : Nat) = nums b := by unfold buildTO; rw [if_pos he, hT]
      rw [he, ho] at this
      refine this.mono ?_
      rintro e w' ⟨v, rfl, how, hbw⟩
      obtain ⟨x, rfl, hsx, _⟩ := OwC.slN8 how
      rw [nums_len] at hsx ⊢
      exact ⟨x, rfl, hsx, hbw⟩
    have HGET := Lib.hid hget
    have HLEN := Lib.hid hlen
    have HBU := Lib.hid hbu
    clear hget hlen hbu hG hT hB hd hTe HDM ho d0 e3
    go_wp2
    go_loopw [9, 10] (fun tv iv wr => ∃ (i : Nat) (v' : Value), iv = .int .i64 (i : Nat) ∧ tv = v' ∧ i ≤ T.length ∧ OwQ 24 w3.heap.size wr v' (T.take i) ∧ Below w3.heap.size w3 wr) (fun _ iv _ => T.length - (intOf iv).toNat)
    case atStart => exact ⟨0, _, rfl, rfl, Nat.zero_le _, OwQ.nil _ _ _, Below.refl _ _⟩
    case round =>
      obtain ⟨i, v, rfl, rfl, hi, how, hb⟩ := hrel
      have HOW := Lib.hid how
      have HB := Lib.hid hb
      clear how hb
      by_cases hlt : i < T.length
      · have hg1 := HGET.out wr HB.out i hlt
        have HL1 := Lib.hid (HLEN.out wr HB.out)
        have hst := take_qAt hlt
        obtain ⟨x, hx⟩ : ∃ x, x = qAt T i := ⟨_, rfl⟩
        obtain ⟨A, hA⟩ : ∃ A, A = T.take i := ⟨_, rfl⟩
        have hAl : A.length ≤ 1048576 := by rw [hA, List.length_take]; omega
        rw [← hx] at hg1 hst
        rw [← hA] at HOW hst
        have HST := Lib.hid hst
        have HG1 := Lib.hid hg1
        clear hst hx hA hg1
        go_upto_region 10 with (first
          | (go_at_call 22; (with_reducible refine HL1.out.mono ?_); rintro e wz ⟨rfl, rfl⟩)
          | (go_at_call 23; (with_reducible refine HG1.out.mono ?_); rintro e w5 ⟨rfl, hb5⟩; (have HB5 := Lib.hid (HB.out.trans (hb5.mono HB.out.size))); (have HOW5 := Lib.hid (HOW.out.stay hb5)); clear hb5))
        have z5 := HB5.out.size
        have hb6 : Below w3.heap.size w3 (w5.alloc (.cells #[.int .i64 x.a, .int .i64 x.b, .int .i64 x.c, .int .i64 x.d] 24)) := HB5.out.alloc z5 _
        have r6 := heap_alloc_new w5 (.cells #[.int .i64 x.a, .int .i64 x.b, .int .i64 x.c, .int .i64 x.d] 24)
        have ho6 := HOW5.out.alloc (.cells #[.int .i64 x.a, .int .i64 x.b, .int .i64 x.c, .int .i64 x.d] 24)
        generalize w5.alloc (.cells #[.int .i64 x.a, .int .i64 x.b, .int .i64 x.c, .int .i64 x.d] 24) = w6 at hb6 r6 ho6 ⊢
        generalize w5.heap.size = g6 at r6 ⊢
        have k0 : w6.cell? ⟨g6, 0, none⟩ = some (.int .i64 x.a) := cell_of_row w6 g6 0 _ _ _ r6
        have k1 : w6.cell? ⟨g6, 1, none⟩ = some (.int .i64 x.b) := cell_of_row w6 g6 1 _ _ _ r6
        have k2 : w6.cell? ⟨g6, 2, none⟩ = some (.int .i64 x.c) := cell_of_row w6 g6 2 _ _ _ r6
        have k3 : w6.cell? ⟨g6, 3, none⟩ = some (.int .i64 x.d) := cell_of_row w6 g6 3 _ _ _ r6
        have z6 := hb6.size
        have HB6 := Lib.hid hb6
        have HOW6 := Lib.hid ho6
        clear hb6 r6 ho6 HB5 HOW5 z5
        go_wp2_with (at_builtin; refine wpList_appQ rfl _ _ 22 rfl w3.heap.size 24 (.agg #[.int .i64 0, .int .i64 0, .int .i64 0, .int .i64 0]) Try.underlying22 infoIds rfl _ A rfl (HOW6.out.alloc _) (some ⟨w6.heap.size, 0, none⟩) 1 1 [x] rfl (slQ_oneR w6 x) (by simp) (by simp; omega) (by simp; omega) ?_; intro v' w7 hown' hgrow _; (have HW := Lib.hid hown'); (have HG := Lib.hid hgrow); clear hown' hgrow)
        go_roundw
        case rel =>
          refine ⟨i + 1, v', by go_num, rfl, by omega, by rw [HST.out]; exact HW.out, ?_⟩
          exact mid_below0 HB6.out HG.out (fun k e => (HOW6.out.lt k e).1)
        case measure => simp [intOf]; omega
      · obtain rfl : i = T.length := by omega
        have how := HOW.out
        rw [List.take_length] at how
        obtain ⟨va, vc, rfl, hts, _⟩ := how.sl
        have HL1 := Lib.hid (HLEN.out wr HB.out)
        have HB1' := Lib.hid (HBU.out wr va vc hts)
        have HBW := Lib.hid (HB3.out.trans (HB.out.mono HB3.out.size))
        clear how HOW hts hlt hi
        go_upto_region 14 with (first
          | (go_at_call 22; (with_reducible refine HL1.out.mono ?_); rintro e wz ⟨rfl, rfl⟩)
          | (go_at_call 9; (with_reducible refine HB1'.out.mono ?_); rintro e w5 ⟨x5, rfl, hs5, hb5⟩; (have HS5 := Lib.hid hs5); (have HB5 := Lib.hid (HBW.out.trans (hb5.mono HBW.out.size))); clear hs5 hb5))
        have hsb := HB0.out.keep HB5.out
        have HSB := Lib.hid hsb
        clear hsb
        go_wp2_with (first
          | (go_at_call 11; (with_reducible refine (num18w_calls _ _).mono ?_); rintro e x ⟨rfl, rfl⟩)
          | (go_at_call 12; (with_reducible refine (sameBytes18_calls _ _ _ _ _ _ _ _ _ HS5.out HSB.out).mono ?_); rintro e x ⟨rfl, m, hm⟩; subst x; rw [sameB_yes rfl]))
        go_meet
        exact below_drewN HB5.out _
  case rest =>
    clear hq hq2 HDM HB2 HS1 HB3 HOA
    generalize wc = w4 at hcut ⊢
    have HB4 := Lib.hid hcut
    clear hcut
    go_upto_region 17 with (go_at_call 14; (with_reducible refine (HRI.out w4 HB4.out).mono ?_); rintro e w5 ⟨v, rfl, how, hb⟩; obtain ⟨ra, rc, rfl, hrs, hrn⟩ := how.sl; (have HRS := Lib.hid hrs); (have HB5 := Lib.hid (HB4.out.trans (hb.mono HB4.out.size))); clear how hrs hb hrn)
    clear HRI HB4
    by_cases hle : R.length ≤ 1048576
    rotate_left
    · have e9 : decide ((1048576 : Int) < (R.length : Int)) = true := decide_eq_true (by omega)
      go_wp2_with fail
      go_ret
      exact ⟨rfl, HB5.out⟩
    have e9 : decide ((1048576 : Int) < (R.length : Int)) = false := decide_eq_false (by omega)
    have hG : Right R := by rw [HRR.out] at hle ⊢; exact ris_right hle
    obtain ⟨xb, hxb⟩ := bytes_of (treeB_rg hG).1
    have hxl : xb.length ≤ 67108864 := by have := (treeB_rg hG).2; rw [← hxb, nums_len] at this; exact this
    have hx2 : 8 ≤ xb.length := tree_len hxb
    have HMD := Lib.hid (made_calls w5 ra rc R hG HRS.out xb hxb)
    have HCUT := Lib.hid (fun i hi => vw_cut hG hxb i hi)
    have HMORE := Lib.hid (fun u => vw_more hG hxb u)
    clear hG hxb
    go_upto_region 20 with (go_at_call 21; (with_reducible refine HMD.out.mono ?_); rintro e w6 ⟨gv, xa, rfl, _, hsx, _, _, hb6⟩; (have HB6 := Lib.hid (HB5.out.trans (hb6.mono HB5.out.size))); clear hb6)
    clear e9 HRS
    obtain ⟨xg, xo, rfl, _⟩ := hsx.cell 0 (by omega)
    obtain ⟨E, hE⟩ : ∃ E, E = xb.length := ⟨_, rfl⟩
    rw [← hE] at hsx hx2 hxl ⊢
    have HSX := Lib.hid hsx
    have HE := Lib.hid hE
    clear hsx HMD HB5 hE
    go_upto_region 23 with fail
    obtain ⟨i, hi, hiE⟩ := cut_val2 at_ E (by omega) (by omega)
    rw [hi]
    clear hi
    have hpre := HSX.out.pre i (by omega)
    rw [nums_take] at hpre
    have hz6 := HB6.out.size
    have hil : (xb.take i).length = i := by rw [List.length_take, ← HE.out]; omega
    have hbad := HCUT.out i (by rw [← HE.out]; exact hiE)
    obtain ⟨y, hy⟩ : ∃ y, y = xb.take i := ⟨_, rfl⟩
    rw [← hy] at hpre hil hbad
    have HPRE := Lib.hid hpre
    have HBAD := Lib.hid hbad
    have HIL := Lib.hid (show (nums y).length = i by rw [nums_len, hil])
    have hiE' : i ≤ E := by omega
    clear hil hpre hbad hy
    go_upto_region 24 with (first
      | (at_builtin; refine wpList_appJ rfl (.tmp 93) (.tmp 96) _ rfl .u8 w6.heap.size 5 _ 1 Try.underlying25 Try.infoU8 rfl _ [] rfl (ow_empty1 _ _ _ _ (Nat.le_refl _)) _ _ _ _ rfl (HPRE.out.alloc _) (by simp) (by simp; omega) (by simp; omega) (by simp) ?_; intro v7 w7 ow7 hg7 st7; (obtain ⟨a7, c7, bs7, hbs7, rfl, sl7, hn7, hlt7⟩ := ow_bytes ow7 (List.nil_append _)); subst bs7; (have HOA7 := Lib.hid (open_bad w7 a7 c7 _ sl7 hn7 hlt7 HBAD.out (by have := HIL.out; rw [nums_len] at this; omega))); (have HB7 := Lib.hid (mid_below1 hg7)); clear ow7 hg7 st7 sl7 hn7 hlt7)
      | (go_at_call 16; (with_reducible refine HOA7.out.mono ?_); rintro e w8 ⟨i8, rfl, hb8⟩; (have HB8 := Lib.hid (HB7.out.trans (hb8.mono HB7.out.size))); clear hb8))
    have HSX8 := Lib.hid (HSX.out.keep HB8.out)
    have HPRE8 := Lib.hid (HPRE.out.keep HB8.out)
    have HBW8 := Lib.hid (HB6.out.trans (HB8.out.mono hz6))
    have hz8 := HBW8.out.size
    clear HSX HPRE HB8 HB7 HOA7
    go_upto_region 25 with (first
      | (at_builtin; refine wpList_appJ rfl (.tmp 102) (.tmp 105) _ rfl .u8 w8.heap.size 5 _ 1 Try.underlying25 Try.infoU8 rfl _ [] rfl (ow_empty1 _ _ _ _ (Nat.le_refl _)) _ _ _ _ rfl (HPRE8.out.alloc _) (by simp) (by simp; omega) (by simp; omega) (by simp) ?_; intro v9 w9 ow9 hg9 st9; (obtain ⟨a9, c9, bs9, hbs9, rfl, sl9, hn9, hlt9⟩ := ow_bytes ow9 (List.nil_append _)); subst bs9; (have HOA9 := Lib.hid (view_bad w9 a9 c9 _ sl9 hn9 hlt9 HBAD.out (by have := HIL.out; rw [nums_len] at this; omega))); (have HB9 := Lib.hid (mid_below1 hg9)); clear ow9 hg9 st9 sl9 hn9 hlt9)
      | (go_at_call 17; (with_reducible refine HOA9.out.mono ?_); rintro e w10 ⟨i10, rfl, hb10⟩; (have HB10 := Lib.hid (HB9.out.trans (hb10.mono HB9.out.size))); clear hb10))
    have HSX10 := Lib.hid (HSX8.out.keep HB10.out)
    have HBW10 := Lib.hid (HBW8.out.trans (HB10.out.mono hz8))
    have hz10 := HBW10.out.size
    clear HSX8 HPRE8 HB10 HB9 HOA9 HBW8
    obtain ⟨bt, hbt, hbt0, hbt1⟩ : ∃ y : Int, IntKind.u8.wrap at_ = y ∧ 0 ≤ y ∧ y < 256 := ⟨_, rfl, by rw [IntKind.wrap_u8]; omega, by rw [IntKind.wrap_u8]; omega⟩
    obtain ⟨cb, hcb⟩ : ∃ cb : UInt8, (cb.toNat : Int) = bt := ⟨UInt8.ofNat bt.toNat, by rw [UInt8.toNat_ofNat']; omega⟩
    obtain ⟨zz, hzz⟩ : ∃ zz, zz = xb ++ [cb] := ⟨_, rfl⟩
    have hnm : nums xb ++ [bt] = nums zz := by rw [hzz, ← hcb]; simp [nums]
    have hbad2 := HMORE.out cb
    rw [← hzz] at hbad2
    have HNM := Lib.hid hnm
    have HBAD2 := Lib.hid hbad2
    have HNL := Lib.hid (show (nums xb).length = E by rw [nums_len, HE.out])
    have HZL := Lib.hid (show zz.length ≤ 140737488355328 by rw [hzz, List.length_append, ← HE.out]; simp; omega)
    clear hnm hbad2 hzz hcb
    go_upto_region 26 with (first
      | (at_builtin; refine wpList_appJ rfl (.tmp 111) (.tmp 112) _ rfl .u8 w10.heap.size 5 _ 1 Try.underlying25 Try.infoU8 rfl _ [] rfl (ow_empty1 _ _ _ _ (Nat.le_refl _)) _ _ _ _ rfl (HSX10.out.alloc _) (by simp) (by simp; omega) (by simp; omega) (by simp) ?_; intro v11 w11 ow11 hg11 st11; rw [List.nil_append] at ow11; (have OW11 := Lib.hid ow11); (have HB11 := Lib.hid (mid_below1 hg11)); (have z11 := HB11.out.size); clear ow11 hg11 st11)
      | (at_builtin; refine wpList_appJ rfl (.tmp 113) (.tmp 116) _ rfl .u8 w10.heap.size 5 _ 1 Try.underlying25 Try.infoU8 rfl _ (nums xb) rfl (OW11.out.alloc _) _ 1 1 [bt] rfl (SlI.one _ _ _ _) (by simp) (by rw [HNL.out]; omega) (by rw [HNL.out]; omega) (by simp; omega) ?_; intro v12 w12 ow12 hg12 st12; (obtain ⟨a12, c12, bs12, hbs12, rfl, sl12, hn12, hlt12⟩ := ow_bytes ow12 HNM.out); subst bs12; (have HOA12 := Lib.hid (open_bad w12 a12 c12 _ sl12 hn12 hlt12 HBAD2.out HZL.out)); (have HB12 := Lib.hid ((HB11.out.alloc z11 _).grown hg12 (by simp; omega) (fun k e => (OW11.out.lt k e).1))); clear ow12 hg12 st12 sl12 hn12 hlt12)
      | (go_at_call 16; (with_reducible refine HOA12.out.mono ?_); rintro e w13 ⟨i13, rfl, hb13⟩; (have HB13 := Lib.hid (HB12.out.trans (hb13.mono HB12.out.size))); clear hb13))
    have HSX13 := Lib.hid (HSX10.out.keep HB13.out)
    have HBW13 := Lib.hid (HBW10.out.trans (HB13.out.mono hz10))
    have hz13 := HBW13.out.size
    clear HSX10 HB13 HB12 HB11 HOA12 OW11 HBW10 z11
    go_upto_region 27 with (first
      | (at_builtin; refine wpList_appJ rfl (.tmp 122) (.tmp 123) _ rfl .u8 w13.heap.size 5 _ 1 Try.underlying25 Try.infoU8 rfl _ [] rfl (ow_empty1 _ _ _ _ (Nat.le_refl _)) _ _ _ _ rfl (HSX13.out.alloc _) (by simp) (by simp; omega) (by simp; omega) (by simp) ?_; intro v14 w14 ow14 hg14 st14; rw [List.nil_append] at ow14; (have OW14 := Lib.hid ow14); (have HB14 := Lib.hid (mid_below1 hg14)); (have z14 := HB14.out.size); clear ow14 hg14 st14)
      | (at_builtin; refine wpList_appJ rfl (.tmp 124) (.tmp 127) _ rfl .u8 w13.heap.size 5 _ 1 Try.underlying25 Try.infoU8 rfl _ (nums xb) rfl (OW14.out.alloc _) _ 1 1 [bt] rfl (SlI.one _ _ _ _) (by simp) (by rw [HNL.out]; omega) (by rw [HNL.out]; omega) (by simp; omega) ?_; intro v15 w15 ow15 hg15 st15; (obtain ⟨a15, c15, bs15, hbs15, rfl, sl15, hn15, hlt15⟩ := ow_bytes ow15 HNM.out); subst bs15; (have HOA15 := Lib.hid (view_bad w15 a15 c15 _ sl15 hn15 hlt15 HBAD2.out HZL.out)); (have HB15 := Lib.hid ((HB14.out.alloc z14 _).grown hg15 (by simp; omega) (fun k e => (OW14.out.lt k e).1))); clear ow15 hg15 st15 sl15 hn15 hlt15)
      | (go_at_call 17; (with_reducible refine HOA15.out.mono ?_); rintro e w16 ⟨i16, rfl, hb16⟩; (have HB16 := Lib.hid (HB15.out.trans (hb16.mono HB15.out.size))); clear hb16))
    have HBW16 := Lib.hid (HBW13.out.trans (HB16.out.mono hz13))
    clear HSX13 HB16 HB15 HB14 HOA15 OW14 HBW13
    go_wp2
    go_ret
    exact ⟨rfl, HBW16.out⟩
theorem treeone_in (w : World) (a : Option Addr) (n c : Nat) (z : List Int) (h : IsRow .u8 w a n c z) (hb : c * 1 ≤ 140737488351232)
    (a3 : Option Addr) (n3 c3 : Nat) (L : List Qd) (h3 : SlQ w a3 n3 c3 L) (hnil3 : a3 = none → c3 = 0) (ht : ∀ q ∈ L, QdOk q) (hc8 : c3 ≤ 4398046510976) (at_ : Int) (hat : (Lit.int .i64 at_).wf = true) :
    Calls Try.prog 6 #[.slice a n c, .slice a3 n3 c3, .int .i64 at_] w fun e w' => e = .returned (.bool true) ∧ Below w.heap.size w w' := by
  obtain ⟨hsl, hnil, hwf⟩ := h.sl
  obtain ⟨bs, hnum⟩ := bytes_of (zs := z.take n) (fun x hx => wf_u8 (hwf x hx))
  rw [← hnum] at hsl
  have hle := hsl.le
  have hbn : bs.length = n := by have := hsl.len; rwa [nums_len] at this
  subst hbn
  exact treeone_go w a c bs hsl (by omega) hnil a3 n3 c3 L h3 (by have := h3.le; omega) at_ hat
end Go.Proofs.Ytgajpekolamjbaa
