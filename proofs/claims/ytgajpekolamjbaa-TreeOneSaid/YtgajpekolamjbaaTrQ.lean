/- TrB TrQ, laid as one. -/
import Derived.Test.YtgajpekolamjbaaTrA
import Derived.Outline
import Derived.Deep.Cut
import Derived.Deep.WholeRow
import Derived.Test.YtgajpekolamjbaaOwnC
import Derived.Laws.StructEq
import Derived.ChangeKeysEq
set_option linter.unusedVariables false
set_option linter.unusedSimpArgs false
/- check: are the quads of a tree right? -/
namespace Go.Tk
open Go Go.RowKit
theorem okQ_split (q : Qd) : okQ q = true ↔ ∀ k, k < 4 → okN k (q.at k) = true := by
  unfold okQ
  simp only [Bool.and_eq_true]
  constructor
  · rintro ⟨⟨⟨h0, h1⟩, h2⟩, h3⟩ k hk
    rcases (by omega : k = 0 ∨ k = 1 ∨ k = 2 ∨ k = 3) with rfl | rfl | rfl | rfl
    · exact h0
    · exact h1
    · exact h2
    · exact h3
  · intro h
    exact ⟨⟨⟨h 0 (by omega), h 1 (by omega)⟩, h 2 (by omega)⟩, h 3 (by omega)⟩
theorem okQ_no {q : Qd} {k : Nat} (hk : k < 4) (h : okN k (q.at k) = false) : okQ q = false := by
  cases hq : okQ q with
  | false => rfl
  | true => rw [(okQ_split q).1 hq k hk] at h; cases h
theorem qcs_one (q : Qd) : (qcs q).toArray.all (·.oneCell') = true := all_oneCell_toArray fun v hv => by
  simp only [qcs, List.mem_cons, List.not_mem_nil, or_false] at hv
  rcases hv with rfl | rfl | rfl | rfl <;> rfl
/-- A whole array into the block that was made last; and out of it. -/
theorem wpList_store_new {P : Program} {ops : Array Oper} {rest : List Oper} {o : Oper} {a : Act} {w : World} {Q : Exit → Act → World → Prop} (hgd : o.guard = none) (t : TypeId) (x y : Operand) (ho : o.op = .store t x y)
    (c c' : Array Value) (hx : a.eval x = .pointer (some ⟨w.heap.size, 0, none⟩)) (hy : a.eval y = .agg c')
    (hi : (P.info? t).map (·.size) = some c'.size) (hold : c.size = c'.size) (h1 : c'.all (·.oneCell') = true)
    (h : wpList P ops Q rest (a.put o.dst undef) (w.alloc (.cells c' t))) : wpList P ops Q (o :: rest) a (w.alloc (.cells c t)) := by
  refine wpList_store_row hgd t x y ho w.heap.size c' hx hy t c (heap_alloc_last w _) hi hold h1 ?_
  rw [World.setRow_alloc_new]; exact h
theorem wpList_load_new {P : Program} {ops : Array Oper} {rest : List Oper} {o : Oper} {a : Act} {w : World} {Q : Exit → Act → World → Prop} (hgd : o.guard = none) (t : TypeId) (x : Operand) (ho : o.op = .load t x)
    (c : Array Value) (hx : a.eval x = .pointer (some ⟨w.heap.size, 0, none⟩)) (d : TypeDesc) (hu : P.underlying t = some d) (hd : (match d with | .struct _ | .array _ _ => true | _ => false) = true)
    (hi : (P.info? t).map (·.size) = some c.size)
    (h : wpList P ops Q rest (a.put o.dst (.agg c)) (w.alloc (.cells c t))) : wpList P ops Q (o :: rest) a (w.alloc (.cells c t)) :=
  wpList_load_row hgd t x ho w.heap.size hx t c (0, 0) d (heap_alloc_last w _) hu hd hi h
end Go.Tk
namespace Go.Proofs.Ytgajpekolamjbaa
open Go.RowKit Go.Tk
theorem idx4 (w : World) (q : Qd) (k : Nat) (hk : k < 4) : (Instr.index 24 (.agg (qcs q).toArray) (.int .i64 (k : Nat))).run Try.prog w = .ok (.int .i64 (q.at k)) w := by
  rcases (by omega : k = 0 ∨ k = 1 ∨ k = 2 ∨ k = 3) with rfl | rfl | rfl | rfl
  · kernel_rfl
  · kernel_rfl
  · kernel_rfl
  · kernel_rfl
set_option maxRecDepth 100000 in
set_option maxHeartbeats 2000000 in
theorem tcheck_calls (w : World) (a : Option Addr) (n c : Nat) (L : List Qd) (h : SlQ w a n c L) :
    Calls Try.prog 34 #[.slice a n c] w fun e w' => e = .returned (.int .i64 (chkT L)) ∧ Below w.heap.size w w' := by
  have hle := h.le
  have hmx := h.max
  have HS := Lib.hid h
  have HL := Lib.hid h.len
  have SZ := Lib.hid Try.sizeIds
  clear h
  by_cases hbig : 1048576 < n
  · have hc : chkT L = 2 := by unfold chkT; rw [HL.out, if_pos hbig]
    have HC := Lib.hid hc
    have e1 : decide ((1048576 : Int) < (n : Int)) = true := decide_eq_true (by omega)
    clear hc
    go_enter Try.func34, Try.ntmps34
    go_wp2
    go_ret
    exact ⟨by rw [HC.out]; rfl, Below.refl _ _⟩
  · go_enter Try.func34, Try.ntmps34
    go_wp2
    go_loopw [13] (fun iv wr => ∃ (i : Nat), iv = .int .i64 (i : Nat) ∧ i ≤ n ∧ (∀ j, j < i → okQ (L.getD j default) = true) ∧ Below w.heap.size w wr) (fun iv _ => n - (intOf iv).toNat)
    case atStart => exact ⟨0, rfl, Nat.zero_le _, (fun j hj => by omega), Below.refl _ _⟩
    case round =>
      obtain ⟨i, rfl, hi, hok, hbw⟩ := hrel
      have HOK := Lib.hid hok
      have HB := Lib.hid hbw
      have hzw := hbw.size
      clear hok hbw
      by_cases hlt : i < n
      · obtain ⟨b, o, rfl, hr⟩ := (HS.out.keep HB.out).cell i hlt
        obtain ⟨q, hq⟩ : ∃ q, q = L.getD i default := ⟨_, rfl⟩
        rw [← hq] at hr
        have HQ := Lib.hid hq
        have HR := Lib.hid hr
        have ix := fun (w : World) (k : Nat) (hk : k < 4) => idx4 w q k hk
        clear hq hr
        go_upto_region 6 with (first
          | (refine wpList_load_mid rfl 24 (.tmp 15) rfl b (o + i * 4) rfl (qcs q) _ HR.out Try.underlying24 rfl SZ.out ?_)
          | (refine wpList_store_new rfl 24 (.tmp 4) (.tmp 16) rfl #[.int .i64 0, .int .i64 0, .int .i64 0, .int .i64 0] (qcs q).toArray rfl rfl SZ.out rfl (qcs_one q) ?_)
          | fail)
        go_upto_region 7 with (first
          | (refine wpList_load_new rfl 24 (.tmp 4) rfl (qcs q).toArray rfl _ Try.underlying24 rfl SZ.out ?_)
          | fail)
        have hb2 : Below w.heap.size w (wr.alloc (.cells (qcs q).toArray 24)) := HB.out.alloc hzw _
        generalize hw2 : wr.alloc (.cells (qcs q).toArray 24) = w2
        rw [hw2] at hb2
        have HB2 := Lib.hid hb2
        clear hw2 hb2
        go_loopw [18] (fun kv wx => ∃ (k : Nat), kv = .int .i64 (k : Nat) ∧ k ≤ 4 ∧ (∀ j, j < k → okN j (q.at j) = true) ∧ wx = w2) (fun kv _ => 4 - (intOf kv).toNat)
        case atStart => exact ⟨0, rfl, Nat.zero_le _, (fun j hj => by omega), rfl⟩
        case round =>
          obtain ⟨k, rfl, hk, hkk, rfl⟩ := hrel
          have HKK := Lib.hid hkk
          clear hkk
          by_cases hk4 : k < 4
          · have ix2 := fun w => ix w k hk4
            cases hn : okN k (q.at k) with
            | true =>
              have HN := Lib.hid hn
              clear hn
              go_wp2_with (go_at_call 70; refine (right_calls _ k hk4 _).mono ?_; rintro e w3 ⟨rfl, rfl⟩; rw [HN.out])
              refine ⟨⟨k + 1, by go_num, by omega, fun j hj => ?_, trivial⟩, by simp [intOf]; omega⟩
              by_cases hjk : j = k
              · subst hjk; exact HN.out
              · exact HKK.out j (by omega)
            | false =>
              have hq0 : okQ q = false := okQ_no hk4 hn
              have hc : chkT L = 180 := by
                unfold chkT
                rw [if_neg (by rw [HL.out]; exact hbig), if_pos (bad_yes (i := i) (by rw [HL.out]; exact hlt) (by rw [← HQ.out]; exact hq0))]
              have HN := Lib.hid hn
              have HC := Lib.hid hc
              clear hn hq0 hc
              go_wp2_with (go_at_call 70; refine (right_calls _ k hk4 _).mono ?_; rintro e w3 ⟨rfl, rfl⟩; rw [HN.out])
              go_ret
              exact ⟨by rw [HC.out]; rfl, HB2.out⟩
          · obtain rfl : k = 4 := by omega
            have hq1 : okQ q = true := (okQ_split q).2 HKK.out
            have HQ1 := Lib.hid hq1
            clear hq1
            go_wp2_with fail
            refine ⟨⟨i + 1, by go_num, by omega, fun j hj => ?_, HB2.out⟩, by simp [intOf]; omega⟩
            by_cases hji : j = i
            · subst hji; rw [← HQ.out]; exact HQ1.out
            · exact HOK.out j (by omega)
      · obtain rfl : i = n := by omega
        have hbad : badQ L = false := bad_no (fun j hj => HOK.out j (by rw [← HL.out]; exact hj))
        have HBAD := Lib.hid hbad
        clear hbad
        rename World => w0
        go_wp2_with fail
        go_loopw [7] (fun iv wr => ∃ (k : Nat), iv = .int .i64 (k : Nat) ∧ 1 ≤ k ∧ (k ≤ i ∨ k = 1) ∧ (∀ j, 0 < j → j < k → j < i → cmpQ (L.getD (j - 1) default) (L.getD j default) < 0) ∧ Below w.heap.size w wr) (fun iv _ => i + 1 - (intOf iv).toNat)
        case atStart => exact ⟨1, rfl, Nat.le_refl _, .inr rfl, (fun j h1 h2 => by omega), HB.out⟩
        case round =>
          obtain ⟨k, rfl, hk1, hk2, hr, hbw⟩ := hrel
          have HR := Lib.hid hr
          have HBW := Lib.hid hbw
          have hzx := hbw.size
          clear hr hbw
          by_cases hki : k < i
          · obtain ⟨b, o, rfl, hr1⟩ := HS.out.cell k hki
            obtain ⟨b', o', he', hr0⟩ := HS.out.cell (k - 1) (by omega)
            have hea : (⟨b, o, none⟩ : Addr) = ⟨b', o', none⟩ := Option.some.inj he'
            injection hea with e1 e2
            subst e1 e2
            obtain ⟨p, hp⟩ : ∃ p, p = L.getD (k - 1) default := ⟨_, rfl⟩
            obtain ⟨q, hq⟩ : ∃ q, q = L.getD k default := ⟨_, rfl⟩
            rw [← hp] at hr0
            rw [← hq] at hr1
            obtain ⟨k1, hk4⟩ : ∃ k1 : Nat, k1 = k - 1 := ⟨_, rfl⟩
            rw [← hk4] at hr0
            have hk5 : (k : Int) - 1 = (k1 : Int) := by omega
            have hk6 : k1 < i := by omega
            have hk7 : IntKind.i64.wrap (k1 : Int) = (k1 : Int) := by rw [IntKind.wrap_i64]; omega
            obtain ⟨cv, hcv⟩ : ∃ cv, cv = cmpQ p q := ⟨_, rfl⟩
            have HP := Lib.hid hp
            have HQ := Lib.hid hq
            have HR0 := Lib.hid hr0
            have HR1 := Lib.hid hr1
            have HCV := Lib.hid hcv
            have hbl : b < w.heap.size := block_lt_of_cell (hr0 0 _ rfl)
            clear hp hq hr0 hr1 hk4 hcv he'
            go_upto_region 16 with fail
            refine wp_region_quiet_tail (fun w' => Below w.heap.size w w') 10 (by kernel_rfl) (by kernel_rfl) HBW.out.drew ?_
            simp only [List.take_succ_cons, List.take_zero, List.drop_succ_cons, List.drop_zero]
            refine wq_val (.slice (some ⟨b, o, none⟩) i c) rfl (fun w' _ => by simp [go_sem]) ?_
            refine wq_val (.int .i64 (k : Nat)) rfl (fun w' _ => by simp [go_sem]) ?_
            refine wq_val (.int .i64 (k1 : Nat)) rfl (fun w' _ => by simp [go_sem, hk5, hk7]) ?_
            refine wq_val (.pointer (some ⟨b, o + k1 * 4, none⟩)) rfl (fun w' _ => by simp [go_sem, hk6]) ?_
            refine wq_mid rfl 24 (.tmp 37) rfl b (o + k1 * 4) (by simp [go_sem]) (qcs p) _ (fun w' h => range_keep HR0.out h) Try.underlying24 rfl SZ.out ?_
            refine wq_val (.slice (some ⟨b, o, none⟩) i c) rfl (fun w' _ => by simp [go_sem]) ?_
            refine wq_val (.int .i64 (k : Nat)) rfl (fun w' _ => by simp [go_sem]) ?_
            refine wq_val (.pointer (some ⟨b, o + k * 4, none⟩)) rfl (fun w' _ => by simp [go_sem, hki]) ?_
            refine wq_mid rfl 24 (.tmp 41) rfl b (o + k * 4) (by simp [go_sem]) (qcs q) _ (fun w' h => range_keep HR1.out h) Try.underlying24 rfl SZ.out ?_
            refine wq_call (.int .i64 cv) 71 #[qv p, qv q] rfl (fun w' => by simp [go_sem, qv, qcs]) (fun w' h => by rw [HCV.out]; exact (tcompare_calls w' p q).mono fun _ _ ⟨h1, h2⟩ => ⟨h1, h.trans (h2.mono h.size)⟩) ?_
            refine wpQuiet_nil ?_
            intro w' hw'
            have HW' := Lib.hid hw'
            clear hw'
            by_cases hc0 : 0 ≤ cv
            · have e0 : decide (0 ≤ cv) = true := decide_eq_true hc0
              have hri := riseQ_no (L := L) (i := k) (by omega) (by rw [HL.out]; exact hki) (by rw [← HP.out, ← HQ.out, ← HCV.out]; exact hc0)
              have hc : chkT L = 160 := by
                unfold chkT
                rw [if_neg (by rw [HL.out]; exact hbig), if_neg (by rw [HBAD.out]; decide), if_neg (by rw [hri]; decide)]
              have HC := Lib.hid hc
              clear hri hc
              go_wp2_with fail
              go_ret
              exact ⟨by rw [HC.out]; rfl, HW'.out⟩
            · have e0 : decide (0 ≤ cv) = false := decide_eq_false hc0
              have HC0 := Lib.hid hc0
              clear hc0
              go_wp2_with fail
              refine ⟨⟨k + 1, by go_num, by omega, by omega, fun j h1 h2 h3 => ?_, HW'.out⟩, by simp [intOf]; omega⟩
              by_cases hjk : j = k
              · subst hjk; rw [← HP.out, ← HQ.out, ← HCV.out]; have := HC0.out; omega
              · exact HR.out j h1 (by omega) h3
          · have hri := riseQ_yes (L := L) (fun j h1 h2 => HR.out j h1 (by rw [HL.out] at h2; omega) (by rw [HL.out] at h2; exact h2))
            have hc : chkT L = 0 := by
              unfold chkT
              rw [if_neg (by rw [HL.out]; exact hbig), if_neg (by rw [HBAD.out]; decide), if_pos hri]
            have HC := Lib.hid hc
            clear hri hc
            go_wp2_with fail
            go_ret
            exact ⟨by rw [HC.out]; rfl, HBW.out⟩
end Go.Proofs.Ytgajpekolamjbaa
/- Quads of the call's own; two quads are the same. -/
namespace Go.Tk
open Go Go.RowKit
def cellsQ (L : List Qd) : List Value := L.flatMap qcs
theorem cellsQ_len (L : List Qd) : (cellsQ L).length = L.length * 4 := by
  induction L with
  | nil => rfl
  | cons q t ih =>
    have : cellsQ (q :: t) = qcs q ++ cellsQ t := by simp [cellsQ]
    rw [this, List.length_append, ih]
    simp [qcs]; omega
theorem cellsQ_app (L N : List Qd) : cellsQ (L ++ N) = cellsQ L ++ cellsQ N := by simp [cellsQ]
theorem cellsQ_at : ∀ (L : List Qd) (i r : Nat), i < L.length → r < 4 → (cellsQ L)[i * 4 + r]? = (qcs (L.getD i default))[r]?
  | [], i, r, h, _ => by simp at h
  | q :: t, 0, r, _, hr => by
    have : cellsQ (q :: t) = qcs q ++ cellsQ t := by simp [cellsQ]
    rw [this, List.getElem?_append_left (by simp [qcs]; omega)]
    simp
  | q :: t, i + 1, r, h, hr => by
    have : cellsQ (q :: t) = qcs q ++ cellsQ t := by simp [cellsQ]
    rw [this, List.getElem?_append_right (by simp [qcs]; omega)]
    have e : (i + 1) * 4 + r - (qcs q).length = i * 4 + r := by simp [qcs]; omega
    rw [e, cellsQ_at t i r (by simpa using h) hr]
    simp
theorem qcs_oneCell (L : List Qd) : ∀ u ∈ cellsQ L, u.oneCell' = true := by
  intro u hu
  obtain ⟨q, _, h⟩ := List.mem_flatMap.1 hu
  simp only [qcs, List.mem_cons, List.not_mem_nil, or_false] at h
  rcases h with rfl | rfl | rfl | rfl <;> rfl
/-- The slice value v owns the quads L. -/
def OwQ (e : TypeId) (base : Nat) (w : World) (v : Value) (L : List Qd) : Prop := w.ownsRow base e 4 v L.length (cellsQ L)
theorem OwQ.nil (e base : Nat) (w : World) : OwQ e base w (.slice none 0 0) [] := World.ownsRow_nil w base e 4
theorem OwQ.lt {e : TypeId} {base : Nat} {w : World} {v : Value} {L : List Qd} (h : OwQ e base w v L) : ∀ g, v.ownBlock = some g → base ≤ g ∧ g < w.heap.size := World.ownsRow.lt h
theorem OwQ.alloc {e : TypeId} {base : Nat} {w : World} {v : Value} {L : List Qd} (h : OwQ e base w v L) (o : Obj) : OwQ e base (w.alloc o) v L := World.ownsRow.alloc h o
theorem OwQ.drewN {e : TypeId} {base : Nat} {w : World} {v : Value} {L : List Qd} (h : OwQ e base w v L) (n : Nat) : OwQ e base (w.drewN n) v L := h
theorem OwQ.mono {e : TypeId} {base base' : Nat} {w : World} {v : Value} {L : List Qd} (h : OwQ e base w v L) (hb : base' ≤ base) : OwQ e base' w v L := ownsRow_mono h hb
theorem OwQ.kept {S : Nat → Prop} {e : TypeId} {base : Nat} {w w' : World} {v : Value} {L : List Qd} (h : OwQ e base w v L) (hk : Kept S w w') (hv : ∀ g, v.ownBlock = some g → ¬ S g) : OwQ e base w' v L := by
  refine ⟨h.1, ?_⟩
  rcases h.2 with hn | ⟨g, cap, cur, rfl, hbg, hgg, rest⟩
  · exact .inl hn
  · exact .inr ⟨g, cap, cur, rfl, hbg, (hk.block g (Array.getElem?_eq_some_iff.1 hgg).1 (hv g rfl)).trans hgg, rest⟩
theorem OwQ.stay {e : TypeId} {base : Nat} {w w' : World} {v : Value} {L : List Qd} (h : OwQ e base w v L) (hb : Below w.heap.size w w') : OwQ e base w' v L := h.kept (Kept.none_of_below hb) (fun _ _ h => h)
/-- What a value that owns quads is: a slice of them. -/
theorem OwQ.sl {e : TypeId} {base : Nat} {w : World} {v : Value} {L : List Qd} (h : OwQ e base w v L) : ∃ a c, v = .slice a L.length c ∧ SlQ w a L.length c L ∧ (a = none → c = 0) := by
  rcases h.2 with ⟨rfl, h0⟩ | ⟨g, cap, cur, rfl, hbg, hgg, hnc, hcm, hsz, ht⟩
  · have : L = [] := List.eq_nil_of_length_eq_zero h0
    subst this
    exact ⟨none, 0, rfl, ⟨rfl, Nat.le_refl _, by omega, fun i hi => by simp at hi⟩, fun _ => rfl⟩
  · refine ⟨_, cap, rfl, ⟨rfl, hnc, by simpa [maxLen] using hcm, fun i hi => ⟨g, 0, rfl, fun j v hv => ?_⟩⟩, fun h => by cases h⟩
    have hj : j < 4 := by have := (List.getElem?_eq_some_iff.1 hv).1; simpa [qcs] using this
    rw [Nat.zero_add, cell_of_row w g (i * 4 + j) cur e _ hgg]
    have h2 : (cur.toList.take (L.length * 4))[i * 4 + j]? = (cellsQ L)[i * 4 + j]? := by rw [ht]
    rw [List.getElem?_take, if_pos (by omega), cellsQ_at L i j hi hj, hv] at h2
    simpa using h2
theorem OwQ.new {e : TypeId} {base : Nat} {w : World} (L : List Qd) (hb : base ≤ w.heap.size) (hm : L.length ≤ 9223372036854775807) : OwQ e base (w.alloc (.cells (cellsQ L).toArray e)) (.slice (some ⟨w.heap.size, 0, none⟩) L.length L.length) L :=
  ⟨by rw [cellsQ_len], .inr ⟨w.heap.size, L.length, (cellsQ L).toArray, rfl, hb, heap_alloc_new w _, Nat.le_refl _, by simpa [maxLen] using hm, by simp [cellsQ_len], by rw [List.take_of_length_le (by simp [cellsQ_len])]⟩⟩
/-- append(v, xs...), quads: v the call's own, xs any slice that reads. -/
theorem wpList_appQ {P : Program} {w : World} {ops : Array Oper} {rest : List Oper} {o : Oper} {a : Act} {Q : Exit → Act → World → Prop} (hgd : o.guard = none) (s x : Operand) (t : TypeId)
    (ho : o.op = .call { callee := .builtin .append, args := #[s, x], argTypes := #[t, t] })
    (base : Nat) (e : TypeId) (z : Value) (ht : P.underlying t = some (.slice e)) (hinfo : (P.info? e).map (fun i => (i.zero, i.size, i.bytes)) = some (some z, 4, 32)) (hzs : z.cells.size = 4)
    (v : Value) (L : List Qd) (hs : a.eval s = v) (hown : OwQ e base w v L)
    (ao : Option Addr) (m c : Nat) (N : List Qd) (hx : a.eval x = .slice ao m c) (hsl : SlQ w ao m c N) (hnil : ao = none → c = 0)
    (hbytes : L.length + m ≤ 4398046511104) (hbase : base ≤ w.heap.size)
    (h : ∀ v' w', OwQ e base w' v' (L ++ N) → w.grownBy w' v.ownBlock → OwnStep w v v' → wpList P ops Q rest (a.put o.dst v') w') : wpList P ops Q (o :: rest) a w := by
  obtain ⟨i, hi, hz0, hz1, hz2⟩ := info_parts hinfo
  have hm := hsl.len
  cases ao with
  | none =>
    obtain rfl := hnil rfl
    have hm0 : m = 0 := by have := hsl.le; omega
    subst hm0
    have hns : N = [] := List.eq_nil_of_length_eq_zero hm
    subst hns
    exact wpList_append_own_none hgd s x t ho base e i 4 ht hi v L.length _ hs hown hx (h v w (by simpa using hown) (World.grownBy.refl _ _) (.inl rfl))
  | some ad =>
    refine wpList_app (w := w) hgd s x t ho base e i z 4 32 ht hi hz0 hz1 hz2 hzs (by decide) v L.length (cellsQ L) hs hown ad m c (cellsQ N) hx (by rw [cellsQ_len, hm]) ?_ (qcs_oneCell N)
      (by unfold maxLen; omega) (by omega) hbase (fun v' w' h1 h2 h3 => h v' w' ?_ h2 h3)
    · intro j u hu
      have hj : j < N.length * 4 := by rw [← cellsQ_len]; exact (List.getElem?_eq_some_iff.1 hu).1
      have e : j = j / 4 * 4 + j % 4 := by omega
      rw [e, cellsQ_at N (j / 4) (j % 4) (by omega) (by omega)] at hu
      obtain ⟨b', o', e', hc⟩ := hsl.cell (j / 4) (by omega)
      obtain rfl := Option.some.inj e'
      rw [Addr.add_lit]
      have := hc (j % 4) u hu
      rw [Nat.add_assoc, ← e] at this
      exact this
    · unfold OwQ
      rw [List.length_append, hm, cellsQ_app]
      exact h1
theorem eqB (p q : Qd) : (p.a == q.a && (p.b == q.b && (p.c == q.c && p.d == q.d))) = decide (p = q) := by
  obtain ⟨a, b, c, d⟩ := p
  obtain ⟨a', b', c', d'⟩ := q
  simp only [Qd.mk.injEq]
  by_cases h1 : a = a' <;> by_cases h2 : b = b' <;> by_cases h3 : c = c' <;> by_cases h4 : d = d' <;> simp [h1, h2, h3, h4]
end Go.Tk
namespace Go.Proofs.Ytgajpekolamjbaa
open Go.RowKit Go.Tk
theorem infoIds : (Try.prog.info? 24).map (fun i => (i.zero, i.size, i.bytes)) = some (some (.agg #[.int .i64 0, .int .i64 0, .int .i64 0, .int .i64 0]), 4, 32) := by kernel_rfl
theorem eqQ (w : World) (p q : Qd) (d : Nat) : (Op.equalIn (d + 2) 24 (.agg (qcs p).toArray) (.agg (qcs q).toArray)).run Try.prog w = .ok (decide (p = q)) w := by
  obtain ⟨i, hi⟩ : ∃ i, Try.prog.info? 3 = some i := by
    have h : (Try.prog.info? 3).isSome = true := by kernel_rfl
    exact Option.isSome_iff_exists.1 h
  have hc : Try.prog.cellsOf 3 = 1 := by kernel_rfl
  have hpl : Try.prog.plainKey 3 = true := by kernel_rfl
  have hpart : ∀ (w : World) (cs : List Value) (j : Nat) (v : Value), cs[j]? = some v → (part 3 cs.toArray j).run Try.prog w = .ok v w :=
    fun w cs j v h => run_part_plain w hpl (by simpa using h)
  rw [run_equalIn_array w (d + 1) _ _ Try.underlying24 hi, hc, ← eqB]
  have p0 := hpart w (qcs p) 0 _ rfl
  have p1 := hpart w (qcs p) 1 _ rfl
  have p2 := hpart w (qcs p) 2 _ rfl
  have p3 := hpart w (qcs p) 3 _ rfl
  have q0 := hpart w (qcs q) 0 _ rfl
  have q1 := hpart w (qcs q) 1 _ rfl
  have q2 := hpart w (qcs q) 2 _ rfl
  have q3 := hpart w (qcs q) 3 _ rfl
  have hr : List.range 4 = [0, 1, 2, 3] := rfl
  rw [hr]
  have ei := fun x y => run_equalIn_int (P := Try.prog) w d 3 .i64 .i64 x y Try.underlying3
  cases h0 : p.a == q.a <;> cases h1 : p.b == q.b <;> cases h2 : p.c == q.c <;> cases h3 : p.d == q.d <;> simp [Op.eqItems, p0, p1, p2, p3, q0, q1, q2, q3, ei, h0, h1, h2, h3, Result.andThen]
theorem eqlQ (w : World) (p q : Qd) : (binOp .eql 24 (.agg (qcs p).toArray) (.agg (qcs q).toArray)).run Try.prog w = .ok (.bool (decide (p = q))) w := by
  rw [run_eql_struct, eqQ w p q 9998]; rfl
theorem neqQ (w : World) (p q : Qd) : (binOp .neq 24 (.agg (qcs p).toArray) (.agg (qcs q).toArray)).run Try.prog w = .ok (.bool (!decide (p = q))) w := by
  rw [run_neq_struct, eqQ w p q 9998]; rfl
end Go.Proofs.Ytgajpekolamjbaa
