/- TrA TrB, laid as one. -/
import Derived.Test.YtgajpekolamjbaaTrP
import Derived.Test.YtgajpekolamjbaaQu
import Derived.Test.YtgajpekolamjbaaOpen
import Derived.Test.YtgajpekolamjbaaReg
import Derived.Test.YtgajpekolamjbaaTypes
import Derived.Test.YtgajpekolamjbaaBytes
import Derived.Test.YtgajpekolamjbaaShelf
import Derived.BigQuiet
import Derived.Deep.QuietTactic
import Derived.Deep.MidRow
import Derived.Outline
import Derived.Deep.Cut
import Derived.Deep.WholeRow
set_option linter.unusedVariables false
set_option linter.unusedSimpArgs false
/- Slices of quads; is a quad right; the order of two; check. -/
namespace Go.Tk
open Go Go.RowKit
def qcs (q : Qd) : List Value := [.int .i64 q.a, .int .i64 q.b, .int .i64 q.c, .int .i64 q.d]
def qv (q : Qd) : Value := .agg #[.int .i64 q.a, .int .i64 q.b, .int .i64 q.c, .int .i64 q.d]
/-- A slice of quads: so many, at so many places. -/
structure SlQ (w : World) (a : Option Addr) (n c : Nat) (L : List Qd) : Prop where
  len : L.length = n
  le : n ≤ c
  max : c ≤ 9223372036854775807
  cell : ∀ i, i < n → ∃ b o, a = some ⟨b, o, none⟩ ∧ w.rangeAt b (o + i * 4) (qcs (L.getD i default))
theorem range_keep {w w' : World} {b o : Nat} {cs : List Value} (h : w.rangeAt b o cs) (hb : Below w.heap.size w w') : w'.rangeAt b o cs := fun j v hv => by
  have := h j v hv
  exact (hb.cell (p := ⟨b, o + j, none⟩) (block_lt_of_cell this)).trans this
theorem SlQ.keep {w w' : World} {a : Option Addr} {n c : Nat} {L : List Qd} (h : SlQ w a n c L) (hb : Below w.heap.size w w') : SlQ w' a n c L :=
  ⟨h.len, h.le, h.max, fun i hi => by
    obtain ⟨b, o, e, hc⟩ := h.cell i hi
    exact ⟨b, o, e, range_keep hc hb⟩⟩
theorem SlQ.front {w : World} {a : Option Addr} {n c : Nat} {L : List Qd} (h : SlQ w a n c L) (m : Nat) (hm : m ≤ n) : SlQ w a m c (L.take m) :=
  ⟨by rw [List.length_take, h.len]; omega, by have := h.le; omega, h.max, fun i hi => by
    obtain ⟨b, o, e, hc⟩ := h.cell i (by omega)
    refine ⟨b, o, e, ?_⟩
    have : (L.take m).getD i default = L.getD i default := by simp [List.getD_eq_getElem?_getD, List.getElem?_take, hi]
    rw [this]; exact hc⟩
theorem qcs_at {w : World} {b o : Nat} {q : Qd} (h : w.rangeAt b o (qcs q)) (k : Nat) (hk : k < 4) : w.cell? ⟨b, o + k, none⟩ = some (.int .i64 (q.at k)) := by
  rcases (by omega : k = 0 ∨ k = 1 ∨ k = 2 ∨ k = 3) with rfl | rfl | rfl | rfl
  · exact h 0 _ rfl
  · exact h 1 _ rfl
  · exact h 2 _ rfl
  · exact h 3 _ rfl
/-- The order of two rows. -/
def cmpI : List Int → List Int → Int
  | [], [] => 0
  | [], _ :: _ => -1
  | _ :: _, [] => 1
  | a :: x, b :: y => if Lib.compareInt a b = 0 then cmpI x y else Lib.compareInt a b
def ql (q : Qd) : List Int := [q.a, q.b, q.c, q.d]
theorem cmpI_q (p q : Qd) : cmpI (ql p) (ql q) = cmpQ p q := by
  unfold ql cmpQ
  simp only [cmpI, Lib.compareInt]
  repeat' split <;> first | rfl | omega | skip
theorem cmpI_at (x y : List Int) (i : Nat) (hx : i < x.length) (hy : i < y.length) : cmpI (x.drop i) (y.drop i) = if Lib.compareInt (x.getD i 0) (y.getD i 0) = 0 then cmpI (x.drop (i + 1)) (y.drop (i + 1)) else Lib.compareInt (x.getD i 0) (y.getD i 0) := by
  rw [List.drop_eq_getElem_cons hx, List.drop_eq_getElem_cons hy]
  simp [cmpI, hx, hy]
theorem cmpI_end (x y : List Int) (h : x.length = y.length) : cmpI (x.drop x.length) (y.drop x.length) = 0 := by
  rw [List.drop_length, h, List.drop_length]; rfl
/-- A whole array out of the middle of a block that every world of the class has. -/
theorem wq_mid {P : Program} {ops : Array Oper} {C : World → Prop} {Q : Act → Prop} {o : Oper} {rest : List Oper} {a : Act} (hg : o.guard = none) (ty : TypeId) (x : Operand) (ho : o.op = .load ty x) (b p : Nat) (hx : a.eval x = .pointer (some ⟨b, p, none⟩)) (cs : List Value) (d : TypeDesc)
    (hb : ∀ w, C w → w.rangeAt b p cs) (hu : P.underlying ty = some d) (hd : d.isRow = true) (hi : (P.info? ty).map (·.size) = some cs.length)
    (hk : wpQuiet P ops C Q rest (a.put o.dst (.agg cs.toArray))) : wpQuiet P ops C Q (o :: rest) a :=
  wq_val _ hg (fun w hw => by
    unfold execOp
    simp only [ho, hx, Instr.loadAt, Instr.sureAddr, Sem.run_bind, Sem.run_pure, Result.andThen_ok, run_loadVar_mid w b p ty cs d (hb w hw) hu hd hi]) hk
end Go.Tk
namespace Go.Proofs.Ytgajpekolamjbaa
open Go.RowKit Go.Tk
theorem Try.sizeIds : (Try.prog.info? 24).map (·.size) = some 4 := by kernel_rfl
theorem right_calls (w : World) (k : Nat) (hk : k < 4) (n : Int) :
    Calls Try.prog 70 #[.int .i64 (k : Nat), .int .i64 n] w fun e w' => e = .returned (.bool (okN k n)) ∧ w' = w := by
  obtain ⟨m, hm⟩ : ∃ m : Int, m = ((min k 1 : Nat) : Int) := ⟨_, rfl⟩
  have hm2 : min (k : Int) 1 = m := by omega
  have ho : okN k n = (decide (m ≤ n) && decide (n ≤ 4194304)) := by unfold okN; rw [hm]
  have HO := Lib.hid ho
  have HM := Lib.hid hm
  clear hm ho
  by_cases h1 : m ≤ n
  · have e1 : decide (m ≤ n) = true := decide_eq_true h1
    have h2 : okN k n = decide (n ≤ 4194304) := by rw [HO.out, e1, Bool.true_and]
    have H2 := Lib.hid h2
    clear h1 h2
    go_enter Try.func70, Try.ntmps70
    go_wp2_with fail
    go_ret
    exact ⟨by rw [H2.out]; rfl, rfl⟩
  · have e1 : decide (m ≤ n) = false := decide_eq_false h1
    have h2 : okN k n = false := by rw [HO.out, e1, Bool.false_and]
    have H2 := Lib.hid h2
    clear h1 h2
    go_enter Try.func70, Try.ntmps70
    go_wp2_with fail
    go_ret
    exact ⟨by rw [H2.out]; rfl, rfl⟩
theorem scompare_calls (w : World) (a1 a2 : Option Addr) (n c1 c2 : Nat) (x y : List Int) (h1 : SlI .i64 w a1 n c1 x) (h2 : SlI .i64 w a2 n c2 y) :
    Calls Try.prog 108 #[.slice a1 n c1, .slice a2 n c2] w fun e w' => e = .returned (.int .i64 (cmpI x y)) ∧ w' = w := by
  have hle := h1.le
  have hmx := h1.max
  have H1 := Lib.hid h1
  have H2 := Lib.hid h2
  clear h1 h2
  go_enter Try.func108, Try.ntmps108
  go_wp2
  go_loopw [11] (fun iv wr => ∃ (i : Nat), iv = .int .i64 (i : Nat) ∧ i ≤ n ∧ cmpI (x.drop i) (y.drop i) = cmpI x y ∧ wr = w) (fun iv _ => n - (intOf iv).toNat)
  case atStart => exact ⟨0, rfl, Nat.zero_le _, by simp, rfl⟩
  case round =>
    obtain ⟨i, rfl, hi, hc, rfl⟩ := hrel
    have HC := Lib.hid hc
    clear hc
    by_cases hlt : i < n
    · obtain ⟨b, o, rfl, hc1⟩ := H1.out.cell i hlt
      obtain ⟨b', o', rfl, hc2⟩ := H2.out.cell i hlt
      have hat := cmpI_at x y i (by rw [H1.out.len]; exact hlt) (by rw [H2.out.len]; exact hlt)
      obtain ⟨p, hp⟩ : ∃ p, p = x.getD i 0 := ⟨_, rfl⟩
      obtain ⟨q, hq⟩ : ∃ q, q = y.getD i 0 := ⟨_, rfl⟩
      rw [← hp, ← hq] at hat
      rw [← hp] at hc1
      rw [← hq] at hc2
      obtain ⟨cv, hcv⟩ : ∃ cv, cv = Lib.compareInt p q := ⟨_, rfl⟩
      rw [← hcv] at hat
      have HAT := Lib.hid hat
      have HCV := Lib.hid hcv
      clear hp hq hat hcv
      by_cases hz : cv = 0
      · have e0 : (cv != 0) = false := by simp [hz]
        have HZ := Lib.hid hz
        clear hz
        go_wp2_with (go_at_call 115; refine (Try.cmp_Compare_int p q _).mono ?_; rintro e w1 ⟨rfl, rfl⟩; rw [← HCV.out])
        refine ⟨⟨i + 1, by go_num, by omega, by rw [← HC.out, HAT.out, if_pos HZ.out], trivial⟩, by simp [intOf]; omega⟩
      · have e0 : (cv != 0) = true := by simp [hz]
        have hcc : cmpI x y = cv := by rw [← HC.out, HAT.out, if_neg hz]
        have HCC := Lib.hid hcc
        clear hz hcc
        go_wp2_with (go_at_call 115; refine (Try.cmp_Compare_int p q _).mono ?_; rintro e w1 ⟨rfl, rfl⟩; rw [← HCV.out])
        go_ret
        exact ⟨by rw [HCC.out]; rfl, rfl⟩
    · obtain rfl : i = n := by omega
      have hcc : cmpI x y = 0 := by
        have := cmpI_end x y (by rw [H1.out.len, H2.out.len])
        rw [H1.out.len] at this
        rw [← HC.out, this]
      have HCC := Lib.hid hcc
      clear hcc
      go_wp2
      go_ret
      exact ⟨by rw [HCC.out]; rfl, rfl⟩
theorem tcompare_calls (w : World) (p q : Qd) :
    Calls Try.prog 71 #[qv p, qv q] w fun e w' => e = .returned (.int .i64 (cmpQ p q)) ∧ Below w.heap.size w w' := by
  have s1 : ∀ m, SlI .i64 (((w.alloc (.cells (qcs p).toArray 24)).alloc (.cells (qcs q).toArray 24)).drewN m) (some ⟨w.heap.size, 0, none⟩) 4 4 (ql p) := fun m => ⟨rfl, Nat.le_refl _, by omega, fun i hi => ⟨w.heap.size, 0, rfl, by
    rw [World.cell?_drewN, World.cell?_alloc_lt _ _ _ (by simp), World.cell?_alloc_at _ _ _ _ rfl]
    rcases (by omega : i = 0 ∨ i = 1 ∨ i = 2 ∨ i = 3) with rfl | rfl | rfl | rfl <;> rfl⟩⟩
  have s2 : ∀ m, SlI .i64 (((w.alloc (.cells (qcs p).toArray 24)).alloc (.cells (qcs q).toArray 24)).drewN m) (some ⟨w.heap.size + 1, 0, none⟩) 4 4 (ql q) := fun m => ⟨rfl, Nat.le_refl _, by omega, fun i hi => ⟨w.heap.size + 1, 0, rfl, by
    rw [World.cell?_drewN, World.cell?_alloc_at _ _ _ _ (by simp)]
    rcases (by omega : i = 0 ∨ i = 1 ∨ i = 2 ∨ i = 3) with rfl | rfl | rfl | rfl <;> rfl⟩⟩
  have S1 := Lib.hid s1
  have S2 := Lib.hid s2
  clear s1 s2
  go_enter Try.func71, Try.ntmps71
  go_upto_region 1 with fail
  refine wp_region_quiet_tail (fun w' => ∃ n, w' = World.drewN _ n) 3 (by kernel_rfl) (by kernel_rfl) ⟨1, rfl⟩ ?_
  simp only [List.take_succ_cons, List.take_zero, List.drop_succ_cons, List.drop_zero]
  refine wq_val (.slice (some ⟨w.heap.size, 0, none⟩) 4 4) rfl (fun w' _ => by simp [go_sem]) ?_
  refine wq_val (.slice (some ⟨w.heap.size + 1, 0, none⟩) 4 4) rfl (fun w' _ => by simp [go_sem]) ?_
  refine wq_call (.int .i64 (cmpI (ql p) (ql q))) 108 #[.slice (some ⟨w.heap.size, 0, none⟩) 4 4, .slice (some ⟨w.heap.size + 1, 0, none⟩) 4 4] rfl (fun w' => by simp [go_sem]) (fun w' h => by obtain ⟨m, rfl⟩ := h; refine (scompare_calls _ _ _ 4 4 4 (ql p) (ql q) (S1.out m) (S2.out m)).mono ?_; rintro e w1 ⟨rfl, rfl⟩; exact ⟨rfl, _, rfl⟩) ?_
  refine wpQuiet_nil ?_
  rintro _ ⟨n1, rfl⟩
  go_wp2_with fail
  go_ret
  exact ⟨by rw [cmpI_q]; rfl, below_drewN (((Below.refl _ w).alloc (Nat.le_refl _) _).alloc (by simp) _) _⟩
end Go.Proofs.Ytgajpekolamjbaa
/- check: are the quads of a tree right? -/
namespace Go.Tk
open Go Go.RowKit
theorem okQ_split (q : Qd) : okQ q = true ↔ ∀ k, k < 4 → okN k (q.at k) = true := by
  unfold okQ
  simp only [Bool.and_eq_true]
  constructor
  · rintro ⟨⟨⟨h0, h1⟩, h2⟩, h3⟩ k hk
    rcases (by omega : k = 0 ∨ k = 1 ∨ k = 2 ∨ k = 3) with rfl | rfl | rfl | rfl
    · exact h0
    · exact h1
    · exact h2
    · exact h3
  · intro h
    exact ⟨⟨⟨h 0 (by omega), h 1 (by omega)⟩, h 2 (by omega)⟩, h 3 (by omega)⟩
theorem okQ_no {q : Qd} {k : Nat} (hk : k < 4) (h : okN k (q.at k) = false) : okQ q = false := by
  cases hq : okQ q with
  | false => rfl
  | true => rw [(okQ_split q).1 hq k hk] at h; cases h
theorem qcs_one (q : Qd) : (qcs q).toArray.all (·.oneCell') = true := all_oneCell_toArray fun v hv => by
  simp only [qcs, List.mem_cons, List.not_mem_nil, or_false] at hv
  rcases hv with rfl | rfl | rfl | rfl <;> rfl
/-- A whole array into the block that was made last; and out of it. -/
theorem wpList_store_new {P : Program} {ops : Array Oper} {rest : List Oper} {o : Oper} {a : Act} {w : World} {Q : Exit → Act → World → Prop} (hgd : o.guard = none) (t : TypeId) (x y : Operand) (ho : o.op = .store t x y)
    (c c' : Array Value) (hx : a.eval x = .pointer (some ⟨w.heap.size, 0, none⟩)) (hy : a.eval y = .agg c')
    (hi : (P.info? t).map (·.size) = some c'.size) (hold : c.size = c'.size) (h1 : c'.all (·.oneCell') = true)
    (h : wpList P ops Q rest (a.put o.dst undef) (w.alloc (.cells c' t))) : wpList P ops Q (o :: rest) a (w.alloc (.cells c t)) := by
  refine wpList_store_row hgd t x y ho w.heap.size c' hx hy t c (heap_alloc_last w _) hi hold h1 ?_
  rw [World.setRow_alloc_new]; exact h
theorem wpList_load_new {P : Program} {ops : Array Oper} {rest : List Oper} {o : Oper} {a : Act} {w : World} {Q : Exit → Act → World → Prop} (hgd : o.guard = none) (t : TypeId) (x : Operand) (ho : o.op = .load t x)
    (c : Array Value) (hx : a.eval x = .pointer (some ⟨w.heap.size, 0, none⟩)) (d : TypeDesc) (hu : P.underlying t = some d) (hd : (match d with | .struct _ | .array _ _ => true | _ => false) = true)
    (hi : (P.info? t).map (·.size) = some c.size)
    (h : wpList P ops Q rest (a.put o.dst (.agg c)) (w.alloc (.cells c t))) : wpList P ops Q (o :: rest) a (w.alloc (.cells c t)) :=
  wpList_load_row hgd t x ho w.heap.size hx t c (0, 0) d (heap_alloc_last w _) hu hd hi h
end Go.Tk
namespace Go.Proofs.Ytgajpekolamjbaa
open Go.RowKit Go.Tk
theorem idx4 (w : World) (q : Qd) (k : Nat) (hk : k < 4) : (Instr.index 24 (.agg (qcs q).toArray) (.int .i64 (k : Nat))).run Try.prog w = .ok (.int .i64 (q.at k)) w := by
  rcases (by omega : k = 0 ∨ k = 1 ∨ k = 2 ∨ k = 3) with rfl | rfl | rfl | rfl
  · kernel_rfl
  · kernel_rfl
  · kernel_rfl
  · kernel_rfl
set_option maxRecDepth 100000 in
set_option maxHeartbeats 2000000 in
theorem tcheck_calls (w : World) (a : Option Addr) (n c : Nat) (L : List Qd) (h : SlQ w a n c L) :
    Calls Try.prog 34 #[.slice a n c] w fun e w' => e = .returned (.int .i64 (chkT L)) ∧ Below w.heap.size w w' := by
  have hle := h.le
  have hmx := h.max
  have HS := Lib.hid h
  have HL := Lib.hid h.len
  have SZ := Lib.hid Try.sizeIds
  clear h
  by_cases hbig : 1048576 < n
  · have hc : chkT L = 2 := by unfold chkT; rw [HL.out, if_pos hbig]
    have HC := Lib.hid hc
    have e1 : decide ((1048576 : Int) < (n : Int)) = true := decide_eq_true (by omega)
    clear hc
    go_enter Try.func34, Try.ntmps34
    go_wp2
    go_ret
    exact ⟨by rw [HC.out]; rfl, Below.refl _ _⟩
  · go_enter Try.func34, Try.ntmps34
    go_wp2
    go_loopw [13] (fun iv wr => ∃ (i : Nat), iv = .int .i64 (i : Nat) ∧ i ≤ n ∧ (∀ j, j < i → okQ (L.getD j default) = true) ∧ Below w.heap.size w wr) (fun iv _ => n - (intOf iv).toNat)
    case atStart => exact ⟨0, rfl, Nat.zero_le _, (fun j hj => by omega), Below.refl _ _⟩
    case round =>
      obtain ⟨i, rfl, hi, hok, hbw⟩ := hrel
      have HOK := Lib.hid hok
      have HB := Lib.hid hbw
      have hzw := hbw.size
      clear hok hbw
      by_cases hlt : i < n
      · obtain ⟨b, o, rfl, hr⟩ := (HS.out.keep HB.out).cell i hlt
        obtain ⟨q, hq⟩ : ∃ q, q = L.getD i default := ⟨_, rfl⟩
        rw [← hq] at hr
        have HQ := Lib.hid hq
        have HR := Lib.hid hr
        have ix := fun (w : World) (k : Nat) (hk : k < 4) => idx4 w q k hk
        clear hq hr
        go_upto_region 6 with (first
          | (refine wpList_load_mid rfl 24 (.tmp 15) rfl b (o + i * 4) rfl (qcs q) _ HR.out Try.underlying24 rfl SZ.out ?_)
          | (refine wpList_store_new rfl 24 (.tmp 4) (.tmp 16) rfl #[.int .i64 0, .int .i64 0, .int .i64 0, .int .i64 0] (qcs q).toArray rfl rfl SZ.out rfl (qcs_one q) ?_)
          | fail)
        go_upto_region 7 with (first
          | (refine wpList_load_new rfl 24 (.tmp 4) rfl (qcs q).toArray rfl _ Try.underlying24 rfl SZ.out ?_)
          | fail)
        have hb2 : Below w.heap.size w (wr.alloc (.cells (qcs q).toArray 24)) := HB.out.alloc hzw _
        generalize hw2 : wr.alloc (.cells (qcs q).toArray 24) = w2
        rw [hw2] at hb2
        have HB2 := Lib.hid hb2
        clear hw2 hb2
        go_loopw [18] (fun kv wx => ∃ (k : Nat), kv = .int .i64 (k : Nat) ∧ k ≤ 4 ∧ (∀ j, j < k → okN j (q.at j) = true) ∧ wx = w2) (fun kv _ => 4 - (intOf kv).toNat)
        case atStart => exact ⟨0, rfl, Nat.zero_le _, (fun j hj => by omega), rfl⟩
        case round =>
          obtain ⟨k, rfl, hk, hkk, rfl⟩ := hrel
          have HKK := Lib.hid hkk
          clear hkk
          by_cases hk4 : k < 4
          · have ix2 := fun w => ix w k hk4
            cases hn : okN k (q.at k) with
            | true =>
              have HN := Lib.hid hn
              clear hn
              go_wp2_with (go_at_call 70; refine (right_calls _ k hk4 _).mono ?_; rintro e w3 ⟨rfl, rfl⟩; rw [HN.out])
              refine ⟨⟨k + 1, by go_num, by omega, fun j hj => ?_, trivial⟩, by simp [intOf]; omega⟩
              by_cases hjk : j = k
              · subst hjk; exact HN.out
              · exact HKK.out j (by omega)
            | false =>
              have hq0 : okQ q = false := okQ_no hk4 hn
              have hc : chkT L = 180 := by
                unfold chkT
                rw [if_neg (by rw [HL.out]; exact hbig), if_pos (bad_yes (i := i) (by rw [HL.out]; exact hlt) (by rw [← HQ.out]; exact hq0))]
              have HN := Lib.hid hn
              have HC := Lib.hid hc
              clear hn hq0 hc
              go_wp2_with (go_at_call 70; refine (right_calls _ k hk4 _).mono ?_; rintro e w3 ⟨rfl, rfl⟩; rw [HN.out])
              go_ret
              exact ⟨by rw [HC.out]; rfl, HB2.out⟩
          · obtain rfl : k = 4 := by omega
            have hq1 : okQ q = true := (okQ_split q).2 HKK.out
            have HQ1 := Lib.hid hq1
            clear hq1
            go_wp2_with fail
            refine ⟨⟨i + 1, by go_num, by omega, fun j hj => ?_, HB2.out⟩, by simp [intOf]; omega⟩
            by_cases hji : j = i
            · subst hji; rw [← HQ.out]; exact HQ1.out
            · exact HOK.out j (by omega)
      · obtain rfl : i = n := by omega
        have hbad : badQ L = false := bad_no (fun j hj => HOK.out j (by rw [← HL.out]; exact hj))
        have HBAD := Lib.hid hbad
        clear hbad
        rename World => w0
        go_wp2_with fail
        go_loopw [7] (fun iv wr => ∃ (k : Nat), iv = .int .i64 (k : Nat) ∧ 1 ≤ k ∧ (k ≤ i ∨ k = 1) ∧ (∀ j, 0 < j → j < k → j < i → cmpQ (L.getD (j - 1) default) (L.getD j default) < 0) ∧ Below w.heap.size w wr) (fun iv _ => i + 1 - (intOf iv).toNat)
        case atStart => exact ⟨1, rfl, Nat.le_refl _, .inr rfl, (fun j h1 h2 => by omega), HB.out⟩
        case round =>
          obtain ⟨k, rfl, hk1, hk2, hr, hbw⟩ := hrel
          have HR := Lib.hid hr
          have HBW := Lib.hid hbw
          have hzx := hbw.size
          clear hr hbw
          by_cases hki : k < i
          · obtain ⟨b, o, rfl, hr1⟩ := HS.out.cell k hki
            obtain ⟨b', o', he', hr0⟩ := HS.out.cell (k - 1) (by omega)
            have hea : (⟨b, o, none⟩ : Addr) = ⟨b', o', none⟩ := Option.some.inj he'
            injection hea with e1 e2
            subst e1 e2
            obtain ⟨p, hp⟩ : ∃ p, p = L.getD (k - 1) default := ⟨_, rfl⟩
            obtain ⟨q, hq⟩ : ∃ q, q = L.getD k default := ⟨_, rfl⟩
            rw [← hp] at hr0
            rw [← hq] at hr1
            obtain ⟨k1, hk4⟩ : ∃ k1 : Nat, k1 = k - 1 := ⟨_, rfl⟩
            rw [← hk4] at hr0
            have hk5 : (k : Int) - 1 = (k1 : Int) := by omega
            have hk6 : k1 < i := by omega
            have hk7 : IntKind.i64.wrap (k1 : Int) = (k1 : Int) := by rw [IntKind.wrap_i64]; omega
            obtain ⟨cv, hcv⟩ : ∃ cv, cv = cmpQ p q := ⟨_, rfl⟩
            have HP := Lib.hid hp
            have HQ := Lib.hid hq
            have HR0 := Lib.hid hr0
            have HR1 := Lib.hid hr1
            have HCV := Lib.hid hcv
            have hbl : b < w.heap.size := block_lt_of_cell (hr0 0 _ rfl)
            clear hp hq hr0 hr1 hk4 hcv he'
            go_upto_region 16 with fail
            refine wp_region_quiet_tail (fun w' => Below w.heap.size w w') 10 (by kernel_rfl) (by kernel_rfl) HBW.out.drew ?_
            simp only [List.take_succ_cons, List.take_zero, List.drop_succ_cons, List.drop_zero]
            refine wq_val (.slice (some ⟨b, o, none⟩) i c) rfl (fun w' _ => by simp [go_sem]) ?_
            refine wq_val (.int .i64 (k : Nat)) rfl (fun w' _ => by simp [go_sem]) ?_
            refine wq_val (.int .i64 (k1 : Nat)) rfl (fun w' _ => by simp [go_sem, hk5, hk7]) ?_
            refine wq_val (.pointer (some ⟨b, o + k1 * 4, none⟩)) rfl (fun w' _ => by simp [go_sem, hk6]) ?_
            refine wq_mid rfl 24 (.tmp 37) rfl b (o + k1 * 4) (by simp [go_sem]) (qcs p) _ (fun w' h => range_keep HR0.out h) Try.underlying24 rfl SZ.out ?_
            refine wq_val (.slice (some ⟨b, o, none⟩) i c) rfl (fun w' _ => by simp [go_sem]) ?_
            refine wq_val (.int .i64 (k : Nat)) rfl (fun w' _ => by simp [go_sem]) ?_
            refine wq_val (.pointer (some ⟨b, o + k * 4, none⟩)) rfl (fun w' _ => by simp [go_sem, hki]) ?_
            refine wq_mid rfl 24 (.tmp 41) rfl b (o + k * 4) (by simp [go_sem]) (qcs q) _ (fun w' h => range_keep HR1.out h) Try.underlying24 rfl SZ.out ?_
            refine wq_call (.int .i64 cv) 71 #[qv p, qv q] rfl (fun w' => by simp [go_sem, qv, qcs]) (fun w' h => by rw [HCV.out]; exact (tcompare_calls w' p q).mono fun _ _ ⟨h1, h2⟩ => ⟨h1, h.trans (h2.mono h.size)⟩) ?_
            refine wpQuiet_nil ?_
            intro w' hw'
            have HW' := Lib.hid hw'
            clear hw'
            by_cases hc0 : 0 ≤ cv
            · have e0 : decide (0 ≤ cv) = true := decide_eq_true hc0
              have hri := riseQ_no (L := L) (i := k) (by omega) (by rw [HL.out]; exact hki) (by rw [← HP.out, ← HQ.out, ← HCV.out]; exact hc0)
              have hc : chkT L = 160 := by
                unfold chkT
                rw [if_neg (by rw [HL.out]; exact hbig), if_neg (by rw [HBAD.out]; decide), if_neg (by rw [hri]; decide)]
              have HC := Lib.hid hc
              clear hri hc
              go_wp2_with fail
              go_ret
              exact ⟨by rw [HC.out]; rfl, HW'.out⟩
            · have e0 : decide (0 ≤ cv) = false := decide_eq_false hc0
              have HC0 := Lib.hid hc0
              clear hc0
              go_wp2_with fail
              refine ⟨⟨k + 1, by go_num, by omega, by omega, fun j h1 h2 h3 => ?_, HW'.out⟩, by simp [intOf]; omega⟩
              by_cases hjk : j = k
              · subst hjk; rw [← HP.out, ← HQ.out, ← HCV.out]; have := HC0.out; omega
              · exact HR.out j h1 (by omega) h3
          · have hri := riseQ_yes (L := L) (fun j h1 h2 => HR.out j h1 (by rw [HL.out] at h2; omega) (by rw [HL.out] at h2; exact h2))
            have hc : chkT L = 0 := by
              unfold chkT
              rw [if_neg (by rw [HL.out]; exact hbig), if_neg (by rw [HBAD.out]; decide), if_pos hri]
            have HC := Lib.hid hc
            clear hri hc
            go_wp2_with fail
            go_ret
            exact ⟨by rw [HC.out]; rfl, HBW.out⟩
end Go.Proofs.Ytgajpekolamjbaa
