/- TrB TrQ, laid as one. -/
import Derived.Test.YtgajpekolamjbaaDoorTrA
import Derived.Outline
import Derived.Deep.Cut
import Derived.Deep.WholeRow
import Derived.Test.YtgajpekolamjbaaDoorCpK
import Derived.Laws.StructEq
import Derived.ChangeKeysEq
set_option linter.unusedVariables false
set_option linter.unusedSimpArgs false
/- check: are the quads of a tree right? -/
namespace Go.Tk
open Go Go.RowKit
theorem okQ_split (q : Qd) : okQ q = true ↔ ∀ k, k < 4 → okN k (q.at k) = true := by
  unfold okQ
  simp only [Bool.and_eq_true]
  constructor
  · rintro ⟨⟨⟨h0, h1⟩, h2⟩, h3⟩ k hk
    rcases (by omega : k = 0 ∨ k = 1 ∨ k = 2 ∨ k = 3) with rfl | rfl | rfl | rfl
    · exact h0
    · exact h1
    · exact h2
    · exact h3
  · intro h
    exact ⟨⟨⟨h 0 (by omega), h 1 (by omega)⟩, h 2 (by omega)⟩, h 3 (by omega)⟩
theorem okQ_no {q : Qd} {k : Nat} (hk : k < 4) (h : okN k (q.at k) = false) : okQ q = false := by
  cases hq : okQ q with
  | false => rfl
  | true => rw [(okQ_split q).1 hq k hk] at h; cases h
theorem qcs_one (q : Qd) : (qcs q).toArray.all (·.oneCell') = true := all_oneCell_toArray fun v hv => by
  simp only [qcs, List.mem_cons, List.not_mem_nil, or_false] at hv
  rcases hv with rfl | rfl | rfl | rfl <;> rfl
/-- A whole array into the block that was made last; and out of it. -/
theorem wpList_store_new {P : Program} {ops : Array Oper} {rest : List Oper} {o : Oper} {a : Act} {w : World} {Q : Exit → Act → World → Prop} (hgd : o.guard = none) (t : TypeId) (x y : Operand) (ho : o.op = .store t x y)
    (c c' : Array Value) (hx : a.eval x = .pointer (some ⟨w.heap.size, 0, none⟩)) (hy : a.eval y = .agg c')
    (hi : (P.info? t).map (·.size) = some c'.size) (hold : c.size = c'.size) (h1 : c'.all (·.oneCell') = true)
    (h : wpList P ops Q rest (a.put o.dst undef) (w.alloc (.cells c' t))) : wpList P ops Q (o :: rest) a (w.alloc (.cells c t)) := by
  refine wpList_store_row hgd t x y ho w.heap.size c' hx hy t c (heap_alloc_last w _) hi hold h1 ?_
  rw [World.setRow_alloc_new]; exact h
theorem wpList_load_new {P : Program} {ops : Array Oper} {rest : List Oper} {o : Oper} {a : Act} {w : World} {Q : Exit → Act → World → Prop} (hgd : o.guard = none) (t : TypeId) (x : Operand) (ho : o.op = .load t x)
    (c : Array Value) (hx : a.eval x = .pointer (some ⟨w.heap.size, 0, none⟩)) (d : TypeDesc) (hu : P.underlying t = some d) (hd : (match d with | .struct _ | .array _ _ => true | _ => false) = true)
    (hi : (P.info? t).map (·.size) = some c.size)
    (h : wpList P ops Q rest (a.put o.dst (.agg c)) (w.alloc (.cells c t))) : wpList P ops Q (o :: rest) a (w.alloc (.cells c t)) :=
  wpList_load_row hgd t x ho w.heap.size hx t c (0, 0) d (heap_alloc_last w _) hu hd hi h
end Go.Tk
namespace Go.Proofs.YtgajpekolamjbaaDoor
open Go.RowKit Go.Tk
theorem idx4 (w : World) (q : Qd) (k : Nat) (hk : k < 4) : (Instr.index 75 (.agg (qcs q).toArray) (.int .i64 (k : Nat))).run Tryd.prog w = .ok (.int .i64 (q.at k)) w := by
  rcases (by omega : k = 0 ∨ k = 1 ∨ k = 2 ∨ k = 3) with rfl | rfl | rfl | rfl
  · kernel_rfl
  · kernel_rfl
  · kernel_rfl
  · kernel_rfl
end Go.Proofs.YtgajpekolamjbaaDoor
/- Quads of the call's own; two quads are the same. -/
namespace Go.Tk
open Go Go.RowKit
def cellsQ (L : List Qd) : List Value := L.flatMap qcs
theorem cellsQ_len (L : List Qd) : (cellsQ L).length = L.length * 4 := by
  induction L with
  | nil => rfl
  | cons q t ih =>
    have : cellsQ (q :: t) = qcs q ++ cellsQ t := by simp [cellsQ]
    rw [this, List.length_append, ih]
    simp [qcs]; omega
theorem cellsQ_app (L N : List Qd) : cellsQ (L ++ N) = cellsQ L ++ cellsQ N := by simp [cellsQ]
theorem cellsQ_at : ∀ (L : List Qd) (i r : Nat), i < L.length → r < 4 → (cellsQ L)[i * 4 + r]? = (qcs (L.getD i default))[r]?
  | [], i, r, h, _ => by simp at h
  | q :: t, 0, r, _, hr => by
    have : cellsQ (q :: t) = qcs q ++ cellsQ t := by simp [cellsQ]
    rw [this, List.getElem?_append_left (by simp [qcs]; omega)]
    simp
  | q :: t, i + 1, r, h, hr => by
    have : cellsQ (q :: t) = qcs q ++ cellsQ t := by simp [cellsQ]
    rw [this, List.getElem?_append_right (by simp [qcs]; omega)]
    have e : (i + 1) * 4 + r - (qcs q).length = i * 4 + r := by simp [qcs]; omega
    rw [e, cellsQ_at t i r (by simpa using h) hr]
    simp
theorem qcs_oneCell (L : List Qd) : ∀ u ∈ cellsQ L, u.oneCell' = true := by
  intro u hu
  obtain ⟨q, _, h⟩ := List.mem_flatMap.1 hu
  simp only [qcs, List.mem_cons, List.not_mem_nil, or_false] at h
  rcases h with rfl | rfl | rfl | rfl <;> rfl
/-- The slice value v owns the quads L. -/
def OwQ (e : TypeId) (base : Nat) (w : World) (v : Value) (L : List Qd) : Prop := w.ownsRow base e 4 v L.length (cellsQ L)
theorem OwQ.nil (e base : Nat) (w : World) : OwQ e base w (.slice none 0 0) [] := World.ownsRow_nil w base e 4
theorem OwQ.lt {e : TypeId} {base : Nat} {w : World} {v : Value} {L : List Qd} (h : OwQ e base w v L) : ∀ g, v.ownBlock = some g → base ≤ g ∧ g < w.heap.size := World.ownsRow.lt h
theorem OwQ.alloc {e : TypeId} {base : Nat} {w : World} {v : Value} {L : List Qd} (h : OwQ e base w v L) (o : Obj) : OwQ e base (w.alloc o) v L := World.ownsRow.alloc h o
theorem OwQ.drewN {e : TypeId} {base : Nat} {w : World} {v : Value} {L : List Qd} (h : OwQ e base w v L) (n : Nat) : OwQ e base (w.drewN n) v L := h
theorem OwQ.mono {e : TypeId} {base base' : Nat} {w : World} {v : Value} {L : List Qd} (h : OwQ e base w v L) (hb : base' ≤ base) : OwQ e base' w v L := ownsRow_mono h hb
theorem OwQ.kept {S : Nat → Prop} {e : TypeId} {base : Nat} {w w' : World} {v : Value} {L : List Qd} (h : OwQ e base w v L) (hk : Kept S w w') (hv : ∀ g, v.ownBlock = some g → ¬ S g) : OwQ e base w' v L := by
  refine ⟨h.1, ?_⟩
  rcases h.2 with hn | ⟨g, cap, cur, rfl, hbg, hgg, rest⟩
  · exact .inl hn
  · exact .inr ⟨g, cap, cur, rfl, hbg, (hk.block g (Array.getElem?_eq_some_iff.1 hgg).1 (hv g rfl)).trans hgg, rest⟩
theorem OwQ.stay {e : TypeId} {base : Nat} {w w' : World} {v : Value} {L : List Qd} (h : OwQ e base w v L) (hb : Below w.heap.size w w') : OwQ e base w' v L := h.kept (Kept.none_of_below hb) (fun _ _ h => h)
/-- What a value that owns quads is: a slice of them. -/
theorem OwQ.sl {e : TypeId} {base : Nat} {w : World} {v : Value} {L : List Qd} (h : OwQ e base w v L) : ∃ a c, v = .slice a L.length c ∧ SlQ w a L.length c L ∧ (a = none → c = 0) := by
  rcases h.2 with ⟨rfl, h0⟩ | ⟨g, cap, cur, rfl, hbg, hgg, hnc, hcm, hsz, ht⟩
  · have : L = [] := List.eq_nil_of_length_eq_zero h0
    subst this
    exact ⟨none, 0, rfl, ⟨rfl, Nat.le_refl _, by omega, fun i hi => by simp at hi⟩, fun _ => rfl⟩
  · refine ⟨_, cap, rfl, ⟨rfl, hnc, by simpa [maxLen] using hcm, fun i hi => ⟨g, 0, rfl, fun j v hv => ?_⟩⟩, fun h => by cases h⟩
    have hj : j < 4 := by have := (List.getElem?_eq_some_iff.1 hv).1; simpa [qcs] using this
    rw [Nat.zero_add, cell_of_row w g (i * 4 + j) cur e _ hgg]
    have h2 : (cur.toList.take (L.length * 4))[i * 4 + j]? = (cellsQ L)[i * 4 + j]? := by rw [ht]
    rw [List.getElem?_take, if_pos (by omega), cellsQ_at L i j hi hj, hv] at h2
    simpa using h2
theorem OwQ.new {e : TypeId} {base : Nat} {w : World} (L : List Qd) (hb : base ≤ w.heap.size) (hm : L.length ≤ 9223372036854775807) : OwQ e base (w.alloc (.cells (cellsQ L).toArray e)) (.slice (some ⟨w.heap.size, 0, none⟩) L.length L.length) L :=
  ⟨by rw [cellsQ_len], .inr ⟨w.heap.size, L.length, (cellsQ L).toArray, rfl, hb, heap_alloc_new w _, Nat.le_refl _, by simpa [maxLen] using hm, by simp [cellsQ_len], by rw [List.take_of_length_le (by simp [cellsQ_len])]⟩⟩
/-- append(v, xs...), quads: v the call's own, xs any slice that reads. -/
theorem wpList_appQ {P : Program} {w : World} {ops : Array Oper} {rest : List Oper} {o : Oper} {a : Act} {Q : Exit → Act → World → Prop} (hgd : o.guard = none) (s x : Operand) (t : TypeId)
    (ho : o.op = .call { callee := .builtin .append, args := #[s, x], argTypes := #[t, t] })
    (base : Nat) (e : TypeId) (z : Value) (ht : P.underlying t = some (.slice e)) (hinfo : (P.info? e).map (fun i => (i.zero, i.size, i.bytes)) = some (some z, 4, 32)) (hzs : z.cells.size = 4)
    (v : Value) (L : List Qd) (hs : a.eval s = v) (hown : OwQ e base w v L)
    (ao : Option Addr) (m c : Nat) (N : List Qd) (hx : a.eval x = .slice ao m c) (hsl : SlQ w ao m c N) (hnil : ao = none → c = 0)
    (hbytes : L.length + m ≤ 4398046511104) (hbase : base ≤ w.heap.size)
    (h : ∀ v' w', OwQ e base w' v' (L ++ N) → w.grownBy w' v.ownBlock → OwnStep w v v' → wpList P ops Q rest (a.put o.dst v') w') : wpList P ops Q (o :: rest) a w := by
  obtain ⟨i, hi, hz0, hz1, hz2⟩ := info_parts hinfo
  have hm := hsl.len
  cases ao with
  | none =>
    obtain rfl := hnil rfl
    have hm0 : m = 0 := by have := hsl.le; omega
    subst hm0
    have hns : N = [] := List.eq_nil_of_length_eq_zero hm
    subst hns
    exact wpList_append_own_none hgd s x t ho base e i 4 ht hi v L.length _ hs hown hx (h v w (by simpa using hown) (World.grownBy.refl _ _) (.inl rfl))
  | some ad =>
    refine wpList_app (w := w) hgd s x t ho base e i z 4 32 ht hi hz0 hz1 hz2 hzs (by decide) v L.length (cellsQ L) hs hown ad m c (cellsQ N) hx (by rw [cellsQ_len, hm]) ?_ (qcs_oneCell N)
      (by unfold maxLen; omega) (by omega) hbase (fun v' w' h1 h2 h3 => h v' w' ?_ h2 h3)
    · intro j u hu
      have hj : j < N.length * 4 := by rw [← cellsQ_len]; exact (List.getElem?_eq_some_iff.1 hu).1
      have e : j = j / 4 * 4 + j % 4 := by omega
      rw [e, cellsQ_at N (j / 4) (j % 4) (by omega) (by omega)] at hu
      obtain ⟨b', o', e', hc⟩ := hsl.cell (j / 4) (by omega)
      obtain rfl := Option.some.inj e'
      rw [Addr.add_lit]
      have := hc (j % 4) u hu
      rw [Nat.add_assoc, ← e] at this
      exact this
    · unfold OwQ
      rw [List.length_append, hm, cellsQ_app]
      exact h1
theorem eqB (p q : Qd) : (p.a == q.a && (p.b == q.b && (p.c == q.c && p.d == q.d))) = decide (p = q) := by
  obtain ⟨a, b, c, d⟩ := p
  obtain ⟨a', b', c', d'⟩ := q
  simp only [Qd.mk.injEq]
  by_cases h1 : a = a' <;> by_cases h2 : b = b' <;> by_cases h3 : c = c' <;> by_cases h4 : d = d' <;> simp [h1, h2, h3, h4]
end Go.Tk
namespace Go.Proofs.YtgajpekolamjbaaDoor
open Go.RowKit Go.Tk
theorem infoIds : (Tryd.prog.info? 75).map (fun i => (i.zero, i.size, i.bytes)) = some (some (.agg #[.int .i64 0, .int .i64 0, .int .i64 0, .int .i64 0]), 4, 32) := by kernel_rfl
theorem eqQ (w : World) (p q : Qd) (d : Nat) : (Op.equalIn (d + 2) 75 (.agg (qcs p).toArray) (.agg (qcs q).toArray)).run Tryd.prog w = .ok (decide (p = q)) w := by
  obtain ⟨i, hi⟩ : ∃ i, Tryd.prog.info? 3 = some i := by
    have h : (Tryd.prog.info? 3).isSome = true := by kernel_rfl
    exact Option.isSome_iff_exists.1 h
  have hc : Tryd.prog.cellsOf 3 = 1 := by kernel_rfl
  have hpl : Tryd.prog.plainKey 3 = true := by kernel_rfl
  have hpart : ∀ (w : World) (cs : List Value) (j : Nat) (v : Value), cs[j]? = some v → (part 3 cs.toArray j).run Tryd.prog w = .ok v w :=
    fun w cs j v h => run_part_plain w hpl (by simpa using h)
  rw [run_equalIn_array w (d + 1) _ _ Tryd.underlying75 hi, hc, ← eqB]
  have p0 := hpart w (qcs p) 0 _ rfl
  have p1 := hpart w (qcs p) 1 _ rfl
  have p2 := hpart w (qcs p) 2 _ rfl
  have p3 := hpart w (qcs p) 3 _ rfl
  have q0 := hpart w (qcs q) 0 _ rfl
  have q1 := hpart w (qcs q) 1 _ rfl
  have q2 := hpart w (qcs q) 2 _ rfl
  have q3 := hpart w (qcs q) 3 _ rfl
  have hr : List.range 4 = [0, 1, 2, 3] := rfl
  rw [hr]
  have ei := fun x y => run_equalIn_int (P := Tryd.prog) w d 3 .i64 .i64 x y Tryd.underlying3
  cases h0 : p.a == q.a <;> cases h1 : p.b == q.b <;> cases h2 : p.c == q.c <;> cases h3 : p.d == q.d <;> simp [Op.eqItems, p0, p1, p2, p3, q0, q1, q2, q3, ei, h0, h1, h2, h3, Result.andThen]
theorem eqlQ (w : World) (p q : Qd) : (binOp .eql 75 (.agg (qcs p).toArray) (.agg (qcs q).toArray)).run Tryd.prog w = .ok (.bool (decide (p = q))) w := by
  rw [run_eql_struct, eqQ w p q 9998]; rfl
theorem neqQ (w : World) (p q : Qd) : (binOp .neq 75 (.agg (qcs p).toArray) (.agg (qcs q).toArray)).run Tryd.prog w = .ok (.bool (!decide (p = q))) w := by
  rw [run_neq_struct, eqQ w p q 9998]; rfl
end Go.Proofs.YtgajpekolamjbaaDoor
