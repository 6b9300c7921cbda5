/- Slices of strings that a call makes itself. -/
import Derived.Test.YtjgcmnppiaikcaaDoorOwn
namespace Go.Tk
open Go Go.RowKit
def strV' (l : List UInt8) : Value := .string ⟨l.toArray⟩
/-- The slice value v owns the texts L. -/
def OwL (e : TypeId) (base : Nat) (w : World) (v : Value) (L : List (List UInt8)) : Prop := w.ownsRow base e 1 v L.length (L.map strV')
theorem OwL.nil (e base : Nat) (w : World) : OwL e base w (.slice none 0 0) [] := World.ownsRow_nil w base e 1
theorem OwL.drewN {e : TypeId} {base : Nat} {w : World} {v : Value} {L : List (List UInt8)} (h : OwL e base w v L) (n : Nat) : OwL e base (w.drewN n) v L := h
theorem OwL.alloc {e : TypeId} {base : Nat} {w : World} {v : Value} {L : List (List UInt8)} (h : OwL e base w v L) (o : Obj) : OwL e base (w.alloc o) v L := World.ownsRow.alloc h o
theorem OwL.lt {e : TypeId} {base : Nat} {w : World} {v : Value} {L : List (List UInt8)} (h : OwL e base w v L) : ∀ g, v.ownBlock = some g → base ≤ g ∧ g < w.heap.size := World.ownsRow.lt h
theorem OwL.mono {e : TypeId} {base base' : Nat} {w : World} {v : Value} {L : List (List UInt8)} (h : OwL e base w v L) (hb : base' ≤ base) : OwL e base' w v L := ownsRow_mono h hb
theorem OwL.keep {e : TypeId} {base B : Nat} {w w' : World} {v : Value} {L : List (List UInt8)} (h : OwL e base w v L) (hb : Below B w w') (hB : w.heap.size ≤ B) : OwL e base w' v L := by
  have hlt := h.lt
  refine ⟨h.1, ?_⟩
  rcases h.2 with hn | ⟨g, cap, cur, rfl, hbg, hgg, rest⟩
  · exact .inl hn
  · exact .inr ⟨g, cap, cur, rfl, hbg, (hb.block g (by have := (hlt g rfl).2; omega)).trans hgg, rest⟩
/-- What a value that owns texts is: a slice whose cells are they. -/
theorem OwL.sl {e : TypeId} {base : Nat} {w : World} {v : Value} {L : List (List UInt8)} (h : OwL e base w v L) :
    ∃ a c, v = .slice a L.length c ∧ L.length ≤ c ∧ c ≤ 9223372036854775807 ∧ ∀ i (hi : i < L.length), ∃ g, a = some ⟨g, 0, none⟩ ∧ w.cell? ⟨g, i, none⟩ = some (.string ⟨L[i].toArray⟩) := by
  rcases h.2 with ⟨rfl, h0⟩ | ⟨g, cap, cur, rfl, hbg, hgg, hnc, hcm, hsz, ht⟩
  · have : L = [] := List.eq_nil_of_length_eq_zero h0
    subst this
    exact ⟨none, 0, rfl, Nat.le_refl _, by omega, fun i hi => by simp at hi⟩
  · refine ⟨_, cap, rfl, hnc, by simpa [maxLen] using hcm, fun i hi => ⟨g, rfl, ?_⟩⟩
    rw [cell_of_row w g i cur e _ hgg]
    have h2 : (cur.toList.take (L.length * 1))[i]? = (L.map strV')[i]? := by rw [ht]
    rw [List.getElem?_take, if_pos (by omega)] at h2
    simp only [Array.getElem?_toList] at h2
    rw [h2]; simp [hi, strV']
/-- A block of texts that was just made: owned. -/
theorem OwL.new {e : TypeId} {base : Nat} {w : World} (L : List (List UInt8)) (hb : base ≤ w.heap.size) (hm : L.length ≤ 9223372036854775807) : OwL e base (w.alloc (.cells (L.map strV').toArray e)) (.slice (some ⟨w.heap.size, 0, none⟩) L.length L.length) L := by
  refine ⟨by simp, .inr ⟨w.heap.size, L.length, (L.map strV').toArray, rfl, hb, heap_alloc_new w _, Nat.le_refl _, by simpa [maxLen] using hm, by simp, ?_⟩⟩
  rw [List.take_of_length_le (by simp)]
/-- append(v, xs...), texts: v the call's own (nil too), xs in a block that was just made. -/
theorem wpList_appL {P : Program} {w : World} {ops : Array Oper} {rest : List Oper} {o : Oper} {a : Act} {Q : Exit → Act → World → Prop} (hgd : o.guard = none) (s x : Operand) (t : TypeId)
    (ho : o.op = .call { callee := .builtin .append, args := #[s, x], argTypes := #[t, t] })
    (base : Nat) (e : TypeId) (z : Value) (ht : P.underlying t = some (.slice e)) (hinfo : (P.info? e).map (fun i => (i.zero, i.size, i.bytes)) = some (some z, 1, 16)) (hzs : z.cells.size = 1)
    (v : Value) (L : List (List UInt8)) (hs : a.eval s = v) (hown : OwL e base w v L)
    (g n c : Nat) (N : List (List UInt8)) (hx : a.eval x = .slice (some ⟨g, 0, none⟩) n c) (hn : n = N.length) (fr : Nat × Nat) (hg : w.heap[g]? = some (.cells (N.map strV').toArray e fr))
    (hbytes : L.length + N.length ≤ 8796093022208) (hbase : base ≤ w.heap.size)
    (h : ∀ v' w', OwL e base w' v' (L ++ N) → w.grownBy w' v.ownBlock → OwnStep w v v' → wpList P ops Q rest (a.put o.dst v') w') : wpList P ops Q (o :: rest) a w := by
  obtain ⟨i, hi, hz0, hz1, hz2⟩ := info_parts hinfo
  subst hn
  refine wpList_app (w := w) hgd s x t ho base e i z 1 16 ht hi hz0 hz1 hz2 hzs (by decide) v L.length (L.map strV') hs hown ⟨g, 0, none⟩ N.length c (N.map strV') hx (by simp) ?_ ?_
      (by unfold maxLen; omega) (by omega) hbase (fun v' w' h1 h2 h3 => h v' w' ?_ h2 h3)
  · intro j u hu
    simp only [List.getElem?_map, Option.map_eq_some_iff] at hu
    obtain ⟨y, hy, rfl⟩ := hu
    obtain ⟨hl, hy'⟩ := List.getElem?_eq_some_iff.1 hy
    rw [Addr.add_lit, cell_of_row w g _ _ e fr hg]
    simp [hl, hy', strV']
  · intro u hu
    obtain ⟨y, _, rfl⟩ := List.mem_map.1 hu
    rfl
  · unfold OwL
    rw [List.length_append, List.map_append]
    exact h1
/-- The same, as the operation's run. -/
theorem run_appL {P : Program} {w : World} {o : Oper} {a : Act} (s x : Operand) (t : TypeId)
    (ho : o.op = .call { callee := .builtin .append, args := #[s, x], argTypes := #[t, t] })
    (base : Nat) (e : TypeId) (z : Value) (ht : P.underlying t = some (.slice e)) (hinfo : (P.info? e).map (fun i => (i.zero, i.size, i.bytes)) = some (some z, 1, 16)) (hzs : z.cells.size = 1)
    (v : Value) (L : List (List UInt8)) (hs : a.eval s = v) (hown : OwL e base w v L)
    (g n c : Nat) (N : List (List UInt8)) (hx : a.eval x = .slice (some ⟨g, 0, none⟩) n c) (hn : n = N.length) (fr : Nat × Nat) (hg : w.heap[g]? = some (.cells (N.map strV').toArray e fr))
    (hbytes : L.length + N.length ≤ 8796093022208) (hbase : base ≤ w.heap.size) :
    ∃ v' w', (execOp a.eval o).run P w = .ok (.value v') w' ∧ OwL e base w' v' (L ++ N) ∧ w.grownBy w' v.ownBlock := by
  obtain ⟨i, hi, hz0, hz1, hz2⟩ := info_parts hinfo
  subst hn
  obtain ⟨v', w', hr, h2, h3, _⟩ := run_app (P := P) w base t o.type e i z 1 16 ht hi hz0 hz1 hz2 hzs (by decide) v L.length (L.map strV') hown ⟨g, 0, none⟩ N.length c (N.map strV') (by simp) (by
    intro j u hu
    simp only [List.getElem?_map, Option.map_eq_some_iff] at hu
    obtain ⟨y, hy, rfl⟩ := hu
    obtain ⟨hl, hy'⟩ := List.getElem?_eq_some_iff.1 hy
    rw [Addr.add_lit, cell_of_row w g _ _ e fr hg]
    simp [hl, hy', strV']) (by
    intro u hu
    obtain ⟨y, _, rfl⟩ := List.mem_map.1 hu
    rfl) (by unfold maxLen; omega) (by omega) hbase
  refine ⟨v', w', ?_, ?_, h3⟩
  · simp [execOp, ho, resolve, invoke, builtin, hs, hx, hr, Result.andThen]
  · unfold OwL
    rw [List.length_append, List.map_append]
    exact h2
end Go.Tk
