/- A dictionary's blocks: what the iterator goes through. -/
import Derived.Test.YtjgcmnppiaikcaaDkE
import Derived.RangeFuncNested
import Derived.RangeFuncBound
import Derived.RangeFuncCalls
import Derived.RangeFuncLeaves
import Derived.RangeFuncBox
import Derived.Shelf.Abstract
import Derived.Shelf.RegionOpen
import Derived.WalkKit
import Derived.OwnWalkIn
import Derived.TacticsInMore
import Derived.LoopNIn
import Derived.LoopIn
set_option linter.unusedVariables false
set_option linter.unusedSimpArgs false
namespace Go.Proofs.Ytjgcmnppiaikcaa
open Go.RowKit Go.Shelf Go.Tk
attribute [local go_sem] Oper.semAt_some
/-- What an entry that is one tells. -/
theorem ent_ok {eb : List UInt8} {p : Int} {first : Bool} {last s : List UInt8} {nx : Int} (h : entP eb p first last = (s, nx, 0)) : s.length ≤ 262144 ∧ 0 ≤ nx ∧ nx ≤ eb.length ∧ s.length ≤ last.length + eb.length ∧ p ≤ nx := by
  unfold entP at h
  split at h
  · cases h
  · rename_i hp
    simp only at h
    have hr1 : (0 ≤ (if first = true then ((0, 0, 0) : Int × Nat × Int) else upS (nums (eb.drop p.toNat)) 0 0 mxU).1) ∧ (if first = true then ((0, 0, 0) : Int × Nat × Int) else upS (nums (eb.drop p.toNat)) 0 0 mxU).2.1 ≤ (nums (eb.drop p.toNat)).length := by
      split
      · simp
      · have := ups_range (nums (eb.drop p.toNat)) 0 0 (Nat.zero_le _); exact ⟨this.1.1, this.2.2⟩
    generalize (if first = true then ((0, 0, 0) : Int × Nat × Int) else upS (nums (eb.drop p.toNat)) 0 0 mxU) = t1 at h hr1
    have hr2 := ups_range (nums (eb.drop p.toNat)) t1.2.1 0 hr1.2
    generalize upS (nums (eb.drop p.toNat)) t1.2.1 0 mxU = t2 at h hr2
    split at h
    · simp only [Prod.mk.injEq] at h; exact absurd h.2.2 (by assumption)
    split at h
    · simp only [Prod.mk.injEq] at h; exact absurd h.2.2 (by assumption)
    split at h
    · simp at h
    split at h
    · simp at h
    split at h
    · simp at h
    · simp only [Prod.mk.injEq, and_true] at h
      obtain ⟨rfl, rfl⟩ := h
      rw [nums_len, List.length_drop] at *
      simp only [List.length_append, List.length_take, List.length_drop]
      omega
/-- The entries of a block, from one on: their numbers and texts. -/
def bkF (eb : List UInt8) (n : Nat) : Nat → Nat → Int → List UInt8 → List (Nat × List UInt8)
  | 0, _, _, _ => []
  | f + 1, i, p, last =>
    if n ≤ i then [] else
    if (entP eb p (decide (i % 16 = 0)) last).2.2 ≠ 0 then [] else
    (i, (entP eb p (decide (i % 16 = 0)) last).1) :: bkF eb n f (i + 1) (entP eb p (decide (i % 16 = 0)) last).2.1 (entP eb p (decide (i % 16 = 0)) last).1
/-- Block q. -/
def blkN (pz : List Int) (wd : Nat) (eb : List UInt8) (n q : Nat) : List (Nat × List UInt8) := bkF eb n 16 (16 * q) (numT pz wd q wd : Nat) []
theorem bkF_len (eb : List UInt8) (n : Nat) : ∀ (f i : Nat) (p : Int) (last : List UInt8), (bkF eb n f i p last).length ≤ f
  | 0, _, _, _ => by simp [bkF]
  | f + 1, i, p, last => by
    simp only [bkF]
    split
    · simp
    split
    · simp
    · have := bkF_len eb n f (i + 1) (entP eb p (decide (i % 16 = 0)) last).2.1 (entP eb p (decide (i % 16 = 0)) last).1
      simp only [List.length_cons]; omega
theorem bkF_at (eb : List UInt8) (n : Nat) : ∀ (f i : Nat) (p : Int) (last : List UInt8) (j : Nat) (h : j < (bkF eb n f i p last).length), ((bkF eb n f i p last)[j]).1 = i + j ∧ i + j < n ∧ ((bkF eb n f i p last)[j]).2.length ≤ 262144
  | 0, _, _, _, j, h => by simp [bkF] at h
  | f + 1, i, p, last, j, h => by
    have hx : bkF eb n (f + 1) i p last = if n ≤ i then [] else
      if (entP eb p (decide (i % 16 = 0)) last).2.2 ≠ 0 then [] else
      (i, (entP eb p (decide (i % 16 = 0)) last).1) :: bkF eb n f (i + 1) (entP eb p (decide (i % 16 = 0)) last).2.1 (entP eb p (decide (i % 16 = 0)) last).1 := rfl
    by_cases h1 : n ≤ i
    · rw [if_pos h1] at hx; rw [hx] at h; simp at h
    rw [if_neg h1] at hx
    by_cases h2 : (entP eb p (decide (i % 16 = 0)) last).2.2 ≠ 0
    · rw [if_pos h2] at hx; rw [hx] at h; simp at h
    rw [if_neg h2] at hx
    have he : entP eb p (decide (i % 16 = 0)) last = ((entP eb p (decide (i % 16 = 0)) last).1, (entP eb p (decide (i % 16 = 0)) last).2.1, 0) := by
      have := Classical.not_not.1 h2
      rw [← this]
    have hb := (ent_ok he).1
    simp only [hx] at h ⊢
    cases j with
    | zero => exact ⟨rfl, by omega, hb⟩
    | succ j =>
      simp only [List.length_cons] at h
      have := bkF_at eb n f (i + 1) (entP eb p (decide (i % 16 = 0)) last).2.1 (entP eb p (decide (i % 16 = 0)) last).1 j (by omega)
      simp only [List.getElem_cons_succ]
      exact ⟨by rw [this.1]; omega, by omega, this.2.2⟩
theorem SlI_same {k : IntKind} {w w' : World} {a : Option Addr} {n c : Nat} {zs : List Int} (h : SlI k w a n c zs) (hs : ∀ j, j < w.heap.size → w'.heap[j]? = w.heap[j]?) : SlI k w' a n c zs :=
  ⟨h.len, h.le, h.max, fun i hi => by
    obtain ⟨b, p, rfl, hc⟩ := h.cell i hi
    exact ⟨b, p, rfl, (World.cell?_of_block (a := ⟨b, p + i, none⟩) (hs b (block_lt_of_cell hc))).trans hc⟩⟩
theorem DictM.same {w w' : World} {gd n wd : Nat} {pa : Option Addr} {pc : Nat} {pz : List Int} {ea : Option Addr} {ec : Nat} {ez : List Int} (h : DictM w gd n wd pa pc pz ea ec ez) (hs : ∀ j, j < w.heap.size → w'.heap[j]? = w.heap[j]?) (hz : w.heap.size ≤ w'.heap.size) : DictM w' gd n wd pa pc pz ea ec ez :=
  ⟨(hs gd (Array.getElem?_eq_some_iff.1 h.row).1).trans h.row, SlI_same h.ps hs, SlI_same h.es hs, h.en, (fun x hx => Nat.lt_of_lt_of_le (h.ebk x hx) hz), h.pu, h.eu, h.nN, h.eN, h.wN, h.pN⟩
/-- What stood in w0, and two boxes, are as they were. -/
def KpD (w0 : World) (p1 p2 : Nat) (A B : World) : Prop := ∀ j, (j < w0.heap.size ∨ j = p1 ∨ j = p2) → B.heap[j]? = A.heap[j]?
theorem size_of_same {w0 w : World} (h : ∀ j, j < w0.heap.size → w.heap[j]? = w0.heap[j]?) : w0.heap.size ≤ w.heap.size := by
  by_cases h0 : w0.heap.size = 0
  · omega
  · have := h (w0.heap.size - 1) (by omega)
    have h2 : w0.heap.size - 1 < w0.heap.size := by omega
    rw [Array.getElem?_eq_getElem h2] at this
    have := (Array.getElem?_eq_some_iff.1 this).1
    omega
def encK (x : Nat × List UInt8) : Array Value := #[.int .i64 (x.1 : Nat), .string ⟨x.2.toArray⟩]
set_option maxRecDepth 100000 in
set_option maxHeartbeats 2000000 in
theorem block1_in (n : Nat) (hn : 1 ≤ n) (l : Nat) (w0 : World) (gd N wd : Nat) (pa : Option Addr) (pc : Nat) (pz : List Int) (ea : Option Addr) (ec : Nat) (eb : List UInt8) (hD : DictM w0 gd N wd pa pc pz ea ec (nums eb))
    (p1 p2 : Nat) (q : Nat) (hq : q < (N + 15) / 16)
    (L : List (Nat × List UInt8)) (hL : L = blkN pz wd eb N q) (J Jx : Nat → World → Prop)
    (hY : ∀ i W (h : i < L.length), J i W → YieldAt Fence.wide (n - 1) Try.prog l (encK L[i]) W fun e W' =>
      (e = .returned (.bool true) ∧ J (i + 1) W' ∧ KpD w0 p1 p2 W W') ∨ (e = .returned (.bool false) ∧ Jx (i + 1) W'))
    (hJd : ∀ i W W' , J i W → W.grownBy W' none → J i W')
    (W : World) (hp1 : W.heap[p1]? = some (.cells #[.pointer (some ⟨gd, 0, none⟩)] 38 (0, 0))) (hp2 : W.heap[p2]? = some (.cells #[.int .i64 (q : Nat)] 3 (0, 0))) (hsz : w0.heap.size ≤ W.heap.size) (hsame : ∀ j, j < w0.heap.size → W.heap[j]? = w0.heap[j]?) (h0 : J 0 W) :
    CallsIn Fence.wide n Try.prog 72 #[.func (.yield l) #[] #[], .pointer (some ⟨p1, 0, none⟩), .pointer (some ⟨p2, 0, none⟩)] W fun e W' => (∃ v, e = .returned v) ∧
      (J L.length W' ∨ (∃ i, i ≤ L.length ∧ Jx i W')) := by
  have l1 := lt_of_block hp1
  have l2 := lt_of_block hp2
  have b1 := cell_of_one hp1
  have b2 := cell_of_one hp2
  have hDW := hD.same hsame hsz
  have hpl := (callsIn_wide (n := n - 1)).2 (place_calls W gd N wd pa pc pz ea ec (nums eb) hDW q hq)
  obtain ⟨P0, hP0⟩ : ∃ P0, P0 = numT pz wd q wd := ⟨_, rfl⟩
  have hP0b : P0 < 134217728 := by
    rw [hP0]
    have h1 := numT_lt pz wd q wd
    have h2 : (2 : Nat) ^ wd ≤ 2 ^ 27 := Nat.pow_le_pow_right (by omega) hD.wN
    omega
  rw [← hP0] at hpl
  have hnN := hD.nN
  have hL2 : L = bkF eb N 16 (16 * q) (P0 : Nat) [] := by rw [hL, hP0]; rfl
  have HPL := Lib.hid hpl
  have HD := Lib.hid hD
  have HS := Lib.hid hsame
  have HL := Lib.hid hL2
  have HP1 := Lib.hid hp1
  have HP2 := Lib.hid hp2
  clear hpl hD hsame hL hL2 hp1 hp2 hP0 hDW
  refine callsIn_of_wp Try.func72 rfl trivial ?_ rfl
  simp only [Try.ntmps72, List.size_toArray, List.length_cons, List.length_nil, Nat.reduceAdd, Nat.reduceSub, Array.replicate_succ, Array.replicate_zero, List.push_toArray, List.append_toArray, List.nil_append, List.cons_append]
  gi_wp2_with (refine ⟨trivial, ?_⟩; gi_at_call 47; refine HPL.out.mono ?_; rintro e w1 ⟨rfl, hb1⟩; (have c1 := (hb1.cell (p := ⟨p1, 0, none⟩) l1).trans b1); (have c2 := (hb1.cell (p := ⟨p2, 0, none⟩) l2).trans b2); (have HB1 := Lib.hid hb1); clear hb1)
  gi_loopw [4, 5, 6] (fun pv lv iv wr => ∃ (j I : Nat) (p : Int) (last : ByteArray), pv = .int .i64 p ∧ lv = .string last ∧ iv = .int .i64 (I : Nat) ∧ I = 16 * q + j ∧ j ≤ 16 ∧ j ≤ L.length ∧ (0 ≤ p ∧ p ≤ 134217728) ∧ last.size ≤ 262144 ∧ L.drop j = bkF eb N (16 - j) (16 * q + j) p last.data.toList ∧ J j wr ∧ w0.heap.size ≤ wr.heap.size ∧ (∀ j, j < w0.heap.size → wr.heap[j]? = w0.heap[j]?) ∧ wr.heap[p1]? = some (.cells #[.pointer (some ⟨gd, 0, none⟩)] 38 (0, 0)) ∧ wr.heap[p2]? = some (.cells #[.int .i64 (q : Nat)] 3 (0, 0)))
    (fun _ _ iv _ => 16 * q + 16 - (intOf iv).toNat)
  case atStart => exact ⟨0, 16 * q, P0, ByteArray.empty, rfl, rfl, by go_num, rfl, by omega, by omega, ⟨by omega, by omega⟩, by decide, HL.out, hJd _ _ _ h0 ⟨HB1.out.os, HB1.out.tape, HB1.out.output, HB1.out.size, fun k hk _ => HB1.out.block k hk⟩, Nat.le_trans hsz HB1.out.size, fun j hj => (HB1.out.block j (by omega)).trans (HS.out j hj), (HB1.out.block _ l1).trans HP1.out, (HB1.out.block _ l2).trans HP2.out⟩
  case round =>
    obtain ⟨j, I, p, last, rfl, rfl, rfl, hI, hj, hjL, hpb, hlast, hrest, hJ, hzr, hsm, hr1, hr2b⟩ := hrel
    have hDr := HD.out.same hsm hzr
    have q1 := cell_of_one hr1
    have q2 := cell_of_one hr2b
    have lr1 := lt_of_block hr1
    have lr2 := lt_of_block hr2b
    have HR1 := Lib.hid hr1
    have HR2 := Lib.hid hr2b
    clear hr1 hr2b
    have k0 := hDr.c0
    have HDR := Lib.hid hDr
    have HSM := Lib.hid hsm
    have HREST := Lib.hid hrest
    clear hsm hDr hrest
    have hlx : last.data.toList.length ≤ 262144 := by rw [← Lib.size_eq]; exact hlast
    by_cases hin : 16 * q + j < N
    · by_cases hb : j < 16
      · have hent := (callsIn_wide (n := n - 1)).2 (entry_calls wr gd N wd pa pc pz ea ec eb HDR.out p ⟨by omega, by omega⟩ (decide ((16 * q + j) % 16 = 0)) last hlast)
        have hmod : decide ((16 * q + j) % 16 = 0) = (((16 * q + j : Nat) : Int) % 16 == 0) := by
          by_cases h : (16 * q + j) % 16 = 0
          · rw [decide_eq_true h]; symm; simp; omega
          · rw [decide_eq_false h]; symm; simp; omega
        rw [hmod] at hent
        have hstep : bkF eb N (16 - j) (16 * q + j) p last.data.toList = if (entP eb p (((16 * q + j : Nat) : Int) % 16 == 0) last.data.toList).2.2 ≠ 0 then [] else
            (16 * q + j, (entP eb p (((16 * q + j : Nat) : Int) % 16 == 0) last.data.toList).1) :: bkF eb N (16 - (j + 1)) (16 * q + (j + 1)) (entP eb p (((16 * q + j : Nat) : Int) % 16 == 0) last.data.toList).2.1 (entP eb p (((16 * q + j : Nat) : Int) % 16 == 0) last.data.toList).1 := by
          rw [show 16 - j = (16 - (j + 1)) + 1 by omega]
          simp only [bkF]
          rw [if_neg (by omega), hmod, Nat.add_assoc]
        obtain ⟨en, hen⟩ : ∃ en, en = entP eb p (((16 * q + j : Nat) : Int) % 16 == 0) last.data.toList := ⟨_, rfl⟩
        rw [← hen] at hent hstep
        obtain ⟨s, nx, er⟩ := en
        simp only at hstep hent
        rw [← hI] at hent
        have hIb : I < 4194304 := by omega
        have hrr := HREST.out
        rw [hstep] at hrr
        have hlt : (I : Int) < (N : Int) := by omega
        have hlt2 : (I : Int) < ((q : Int) + 1) * 16 := by omega
        have HENT := Lib.hid hent
        have HRR := Lib.hid hrr
        have HEN := Lib.hid hen
        have HI := Lib.hid hI
        by_cases he : er = 0
        · subst he
          have hok := ent_ok hen.symm
          have hr2 := hrr
          rw [if_neg (by simp)] at hr2
          have hjl : j < L.length := by
            rcases Nat.lt_or_ge j L.length with h | h
            · exact h
            · rw [List.drop_eq_nil_of_le h] at hr2; cases hr2
          have hat : L[j] = (I, s) ∧ L.drop (j + 1) = bkF eb N (16 - (j + 1)) (16 * q + (j + 1)) nx s := by
            rw [List.drop_eq_getElem_cons hjl] at hr2
            rw [hI]
            exact ⟨(List.cons.inj hr2).1, (List.cons.inj hr2).2⟩
          obtain ⟨sB, hsB⟩ : ∃ sB : ByteArray, sB = ⟨s.toArray⟩ := ⟨_, rfl⟩
          have hsd : sB.data.toList = s := by rw [hsB]
          have hsz : sB.size ≤ 262144 := by rw [Lib.size_eq, hsd]; exact hok.1
          have henc : encK L[j] = #[.int .i64 (I : Nat), .string sB] := by rw [hat.1, hsB]; rfl
          rw [← hsB] at hent
          have HENT := Lib.hid hent
          have HAT := Lib.hid hat.2
          have HSD := Lib.hid hsd
          have HENC := Lib.hid henc
          have hnx1 : 0 ≤ nx := hok.2.1
          have heN := HDR.out.eN
          rw [nums_len] at heN
          have hnx2 : nx ≤ 67108864 := by omega
          clear hent hrr hr2 hok hat hsB hsd henc hen hstep hmod hI heN c1 c2 b1 b2
          gi_wp2_with (refine ⟨trivial, ?_⟩; gi_at_call 48; refine HENT.out.mono ?_; rintro e w2 ⟨rfl, hb2⟩; obtain ⟨fn, tmps, assign, body, hy, hR⟩ := hY j w2 hjl (hJd _ _ _ hJ ⟨hb2.os, hb2.tape, hb2.output, hb2.size, fun k hk _ => hb2.block k hk⟩); rw [HENC.out] at hy; (have HB2 := Lib.hid hb2); clear hb2)
          refine hR.mono ?_
          rintro e W3 (⟨rfl, hJ3, hk3⟩ | ⟨rfl, hJx3⟩)
          · have hs2 : ∀ j, j < w0.heap.size → W3.heap[j]? = w0.heap[j]? := fun j hj => (hk3 j (.inl hj)).trans ((HB2.out.block j (by omega)).trans (HSM.out j hj))
            have HX1 : Hid (W3.heap[p1]? = some (.cells #[.pointer (some ⟨gd, 0, none⟩)] 38 (0, 0))) := Lib.hid ((hk3 p1 (.inr (.inl rfl))).trans ((HB2.out.block _ lr1).trans HR1.out))
            have HX2 : Hid (W3.heap[p2]? = some (.cells #[.int .i64 (q : Nat)] 3 (0, 0))) := Lib.hid ((hk3 p2 (.inr (.inr rfl))).trans ((HB2.out.block _ lr2).trans HR2.out))
            have HJ3 := Lib.hid hJ3
            have HZ3 : Hid (w0.heap.size ≤ W3.heap.size) := Lib.hid (size_of_same hs2)
            have HS3 := Lib.hid hs2
            clear hJ3 hs2 hk3 hJ q1 q2 k0 hR
            gi_wp2
            go_roundw
            case rel => exact ⟨j + 1, I + 1, nx, sB, rfl, rfl, by go_num, by rw [HI.out]; omega, by omega, by omega, ⟨hnx1, by omega⟩, hsz, by rw [HSD.out]; exact HAT.out, HJ3.out, HZ3.out, HS3.out, HX1.out, HX2.out⟩
            case measure => simp [intOf]; omega
          · gi_wp2
            refine bodyPost_ret (results_none rfl _ _ _) rfl ?_
            exact ⟨⟨_, rfl⟩, .inr ⟨_, by omega, hJx3⟩⟩
        · have hr2 := hrr
          rw [if_pos he] at hr2
          have hend : j = L.length := by
            have := List.drop_eq_nil_iff.1 hr2
            omega
          have en : (er != 0) = true := by simp [he]
          have HEND := Lib.hid hend
          clear hrr hr2 hen hstep hmod hI c1 c2 b1 b2 he hent hend
          gi_wp2_with (refine ⟨trivial, ?_⟩; gi_at_call 48; refine HENT.out.mono ?_; rintro e w2 ⟨rfl, hb2⟩; (have HB2 := Lib.hid hb2); clear hb2)
          refine ⟨(fun f h => by cases h), ?_⟩
          gi_wp2
          refine bodyPost_ret (results_none rfl _ _ _) rfl ?_
          exact ⟨⟨_, rfl⟩, .inl (by rw [← HEND.out]; exact hJd _ _ _ hJ ⟨HB2.out.os, HB2.out.tape, HB2.out.output, HB2.out.size, fun k hk _ => HB2.out.block k hk⟩)⟩
      · have hlt : (I : Int) < (N : Int) := by omega
        have hlt2 : ((q : Int) + 1) * 16 ≤ (I : Int) := by omega
        have hlt3 : decide ((I : Int) < ((q : Int) + 1) * 16) = false := decide_eq_false (by omega)
        have hend : j = L.length := by
          have hr := HREST.out
          rw [show 16 - j = 0 by omega] at hr
          have := List.drop_eq_nil_iff.1 (hr.trans rfl)
          omega
        have HEND := Lib.hid hend
        clear hI hend c1 c2 b1 b2
        gi_wp2
        go_end0
        exact ⟨⟨_, rfl⟩, .inl (by rw [← HEND.out]; exact hJ)⟩
    · have hlt : (N : Int) ≤ (I : Int) := by omega
      have hlt2 : decide ((I : Int) < (N : Int)) = false := decide_eq_false (by omega)
      have hend : j = L.length := by
        have hr := HREST.out
        have hn : bkF eb N (16 - j) (16 * q + j) p last.data.toList = [] := by
          cases h : 16 - j with
          | zero => rfl
          | succ f => simp only [bkF]; rw [if_pos (by omega)]
        rw [hn] at hr
        have := List.drop_eq_nil_iff.1 hr
        omega
      have HEND := Lib.hid hend
      clear hI hend c1 c2 b1 b2
      gi_wp2
      go_end0
      exact ⟨⟨_, rfl⟩, .inl (by rw [← HEND.out]; exact hJ)⟩
/-- The iterator of a block. -/
theorem block_in (n : Nat) (gd q : Nat) (w : World) :
    CallsIn Fence.wide n Try.prog 53 #[.pointer (some ⟨gd, 0, none⟩), .int .i64 (q : Nat)] w fun e w' => e = .returned (.func (.func 72) #[] #[.pointer (some ⟨w.heap.size, 0, none⟩), .pointer (some ⟨w.heap.size + 1, 0, none⟩)]) ∧ w' = (w.alloc (.cells #[.pointer (some ⟨gd, 0, none⟩)] 38)).alloc (.cells #[.int .i64 (q : Nat)] 3) := by
  refine callsIn_of_wp Try.func53 rfl trivial ?_ rfl
  simp only [Try.ntmps53, List.size_toArray, List.length_cons, List.length_nil, Nat.reduceAdd, Nat.reduceSub, Array.replicate_succ, Array.replicate_zero, List.push_toArray, List.append_toArray, List.nil_append, List.cons_append]
  gi_wp2
  go_ret
  exact ⟨by simp, rfl⟩
theorem take_fin {m i : Nat} (h : i < m) : (List.finRange m).take (i + 1) = (List.finRange m).take i ++ [⟨i, h⟩] := by
  rw [List.take_succ_eq_append_getElem (by simpa using h)]
  simp
/-- The block's iterator, by the places in its list. -/
theorem blockF_in (n : Nat) (hn : 1 ≤ n) (w0 : World) (gd N wd : Nat) (pa : Option Addr) (pc : Nat) (pz : List Int) (ea : Option Addr) (ec : Nat) (eb : List UInt8) (hD : DictM w0 gd N wd pa pc pz ea ec (nums eb))
    (p1 p2 : Nat) (q : Nat) (hq : q < (N + 15) / 16)
    (L : List (Nat × List UInt8)) (hL : L = blkN pz wd eb N q) (W : World) (hp1 : W.heap[p1]? = some (.cells #[.pointer (some ⟨gd, 0, none⟩)] 38 (0, 0))) (hp2 : W.heap[p2]? = some (.cells #[.int .i64 (q : Nat)] 3 (0, 0))) (hsz : w0.heap.size ≤ W.heap.size) (hsame : ∀ j, j < w0.heap.size → W.heap[j]? = w0.heap[j]?) :
    SeqStopsK Fence.wide n Try.prog 72 #[.pointer (some ⟨p1, 0, none⟩), .pointer (some ⟨p2, 0, none⟩)] (fun i : Fin L.length => encK L[i.val]) (KpD w0 p1 p2) (fun ys => ys = List.finRange L.length) (fun pre => pre <+: List.finRange L.length) L.length W := by
  intro l J Jx W' hW' hA _ hY h0
  refine (block1_in n hn l w0 gd N wd pa pc pz ea ec eb hD p1 p2 q hq L hL (fun i W => J ((List.finRange L.length).take i) W) (fun i W => Jx ((List.finRange L.length).take i) W) ?_ (fun i X X' hJ hg => hA _ X X' none hJ hg (fun r e => by cases e)) W' ((hW'.block _ (lt_of_block hp1)).trans hp1) ((hW'.block _ (lt_of_block hp2)).trans hp2) (Nat.le_trans hsz hW'.size) (fun j hj => (hW'.block _ (by omega)).trans (hsame j hj)) (by simpa using h0)).mono ?_
  · intro i X hi hJ
    have := hY ((List.finRange L.length).take i) ⟨i, hi⟩ X hJ (by simp; omega)
    simp only [← take_fin hi] at this
    exact this
  · rintro e X ⟨hv, hJ | ⟨i, hi, hJ⟩⟩
    · exact ⟨hv, .inl ⟨_, rfl, by rwa [List.take_of_length_le (by simp)] at hJ⟩⟩
    · exact ⟨hv, .inr ⟨_, List.take_prefix _ _, hJ⟩⟩
end Go.Proofs.Ytjgcmnppiaikcaa
