/- Memory that a call makes itself: make, append, copy, stores into a row. -/
import Derived.Test.YtlhcejbimlilaaaGreatDoorVaP
import Derived.Laws.CopyOwn
import Derived.Laws.AppendOwnNone
set_option linter.unusedVariables false
set_option linter.unusedSimpArgs false
namespace Go.Tk
open Go Go.RowKit
/-- Block g of the world is a row of the numbers zs, nothing of it frozen. -/
def RowI (k : IntKind) (e : TypeId) (w : World) (g : Nat) (zs : List Int) : Prop := w.heap[g]? = some (.cells (zs.map (Value.int k)).toArray e (0, 0))
theorem RowI.lt {k : IntKind} {e : TypeId} {w : World} {g : Nat} {zs : List Int} (h : RowI k e w g zs) : g < w.heap.size := (Array.getElem?_eq_some_iff.1 h).1
theorem RowI.cell {k : IntKind} {e : TypeId} {w : World} {g : Nat} {zs : List Int} (h : RowI k e w g zs) (i : Nat) (hi : i < zs.length) : w.cell? ⟨g, i, none⟩ = some (.int k (zs.getD i 0)) := by
  rw [cell_of_row w g i _ e _ h]; simp [hi]
theorem RowI.frozen {k : IntKind} {e : TypeId} {w : World} {g : Nat} {zs : List Int} (h : RowI k e w g zs) (i : Nat) : w.frozen? ⟨g, i, none⟩ = false := frozen_of_row w g i _ e h
theorem RowI.set {k : IntKind} {e : TypeId} {w : World} {g : Nat} {zs : List Int} (h : RowI k e w g zs) (i : Nat) (x : Int) : RowI k e (w.setCell ⟨g, i, none⟩ (.int k x)) g (zs.set i x) := by
  unfold RowI; rw [heap_setCell_same w g i _ e _ h]; simp
theorem RowI.sl {k : IntKind} {e : TypeId} {w : World} {g : Nat} {zs : List Int} (h : RowI k e w g zs) (n c : Nat) (hn : n ≤ zs.length) (hc : zs.length = c) (hm : c ≤ 9223372036854775807) : SlI k w (some ⟨g, 0, none⟩) n c (zs.take n) :=
  ⟨by simp; omega, by omega, hm, fun i hi => ⟨g, 0, rfl, by
    rw [Nat.zero_add, h.cell i (by omega)]; simp [hi]⟩⟩
theorem RowI.drewN {k : IntKind} {e : TypeId} {w : World} {g : Nat} {zs : List Int} (h : RowI k e w g zs) (m : Nat) : RowI k e (w.drewN m) g zs := h
theorem RowI.below {k : IntKind} {e : TypeId} {w w' : World} {g B : Nat} {zs : List Int} (h : RowI k e w g zs) (hb : Below B w w') (hg : g < B) : RowI k e w' g zs := (hb.block g hg).trans h
theorem RowI.grown {k : IntKind} {e : TypeId} {w w' : World} {g : Nat} {zs : List Int} {row : Option Nat} (h : RowI k e w g zs) (hg : w.grownBy w' row) (hne : some g ≠ row) : RowI k e w' g zs := (hg.block g h.lt hne).trans h
/-- The slice value v owns the numbers zs: it is nil and there are none, or it lies at the head of a row of the call's own (from block 'base' on). -/
def Ow (k : IntKind) (e : TypeId) (base : Nat) (w : World) (v : Value) (zs : List Int) : Prop := w.ownsRow base e 1 v zs.length (zs.map (Value.int k))
theorem Ow.nil (k : IntKind) (e base : Nat) (w : World) : Ow k e base w (.slice none 0 0) [] := World.ownsRow_nil w base e 1
theorem Ow.alloc {k : IntKind} {e : TypeId} {base : Nat} {w : World} {v : Value} {zs : List Int} (h : Ow k e base w v zs) (o : Obj) : Ow k e base (w.alloc o) v zs := World.ownsRow.alloc h o
theorem Ow.drewN {k : IntKind} {e : TypeId} {base : Nat} {w : World} {v : Value} {zs : List Int} (h : Ow k e base w v zs) (n : Nat) : Ow k e base (w.drewN n) v zs := h
theorem Ow.lt {k : IntKind} {e : TypeId} {base : Nat} {w : World} {v : Value} {zs : List Int} (h : Ow k e base w v zs) : ∀ g, v.ownBlock = some g → base ≤ g ∧ g < w.heap.size := World.ownsRow.lt h
theorem Ow.below {k : IntKind} {e : TypeId} {base B : Nat} {w w' : World} {v : Value} {zs : List Int} (h : Ow k e base w v zs) (hb : Below B w w') (hv : ∀ g, v.ownBlock = some g → g < B) : Ow k e base w' v zs := by
  refine ⟨h.1, ?_⟩
  rcases h.2 with hn | ⟨g, cap, cur, rfl, hbg, hgg, rest⟩
  · exact .inl hn
  · exact .inr ⟨g, cap, cur, rfl, hbg, (hb.block g (hv g rfl)).trans hgg, rest⟩
theorem Ow.mono {k : IntKind} {e : TypeId} {base base' : Nat} {w : World} {v : Value} {zs : List Int} (h : Ow k e base w v zs) (hb : base' ≤ base) : Ow k e base' w v zs := by
  refine ⟨h.1, ?_⟩
  rcases h.2 with hn | ⟨g, cap, cur, rfl, hbg, rest⟩
  · exact .inl hn
  · exact .inr ⟨g, cap, cur, rfl, Nat.le_trans hb hbg, rest⟩
/-- What a value that owns numbers is: a slice that reads as them. -/
theorem Ow.sl {k : IntKind} {e : TypeId} {base : Nat} {w : World} {v : Value} {zs : List Int} (h : Ow k e base w v zs) :
    ∃ a c, v = .slice a zs.length c ∧ SlI k w a zs.length c zs ∧ (∀ x, a = some x → base ≤ x.block ∧ x.block < w.heap.size) := by
  have hl : zs.length = zs.length * 1 := by omega
  rcases h.2 with ⟨rfl, h0⟩ | ⟨g, cap, cur, rfl, hbg, hgg, hnc, hcm, hsz, ht⟩
  · have : zs = [] := List.eq_nil_of_length_eq_zero h0
    subst this
    exact ⟨none, 0, rfl, ⟨rfl, Nat.le_refl _, by omega, fun i hi => by simp at hi⟩, fun x hx => by cases hx⟩
  · refine ⟨_, cap, rfl, ⟨rfl, hnc, by simpa [maxLen] using hcm, fun i hi => ⟨g, 0, rfl, ?_⟩⟩, fun x hx => by cases hx; exact ⟨hbg, (Array.getElem?_eq_some_iff.1 hgg).1⟩⟩
    rw [Nat.zero_add, cell_of_row w g i cur e _ hgg]
    have h2 : (cur.toList.take (zs.length * 1))[i]? = (zs.map (Value.int k))[i]? := by rw [ht]
    rw [List.getElem?_take, if_pos (by omega)] at h2
    simp only [Array.getElem?_toList] at h2
    rw [h2]; simp [hi]
theorem SlI.one (k : IntKind) (e : TypeId) (w : World) (x : Int) : SlI k (w.alloc (.cells #[.int k x] e)) (some ⟨w.heap.size, 0, none⟩) 1 1 [x] :=
  ⟨rfl, Nat.le_refl _, by omega, fun i hi => ⟨w.heap.size, 0, rfl, by
    obtain rfl : i = 0 := by omega
    rw [Nat.zero_add, World.cell?_alloc_at _ _ _ _ rfl]; rfl⟩⟩
theorem ownsRow_mono {w : World} {base base' : Nat} {e : TypeId} {size : Nat} {v : Value} {n : Nat} {xs : List Value} (h : w.ownsRow base e size v n xs) (hb : base' ≤ base) : w.ownsRow base' e size v n xs := by
  refine ⟨h.1, ?_⟩
  rcases h.2 with hn | ⟨g, cap, cur, rfl, hbg, rest⟩
  · exact .inl hn
  · exact .inr ⟨g, cap, cur, rfl, Nat.le_trans hb hbg, rest⟩
/-- append, and where the answer lies: in the old row or in a new one. -/
theorem run_app {P : Program} (w : World) (base : Nat) (t ty e : TypeId) (i : TypeInfo) (z : Value) (size bytes : Nat) (ht : P.underlying t = some (.slice e)) (hi : P.info? e = some i) (hz : i.zero = some z)
    (hsize : i.size = size) (hby : i.bytes = bytes) (hzs : z.cells.size = size) (hsz : 0 < size)
    (v : Value) (n : Nat) (xs : List Value) (hown : w.ownsRow base e size v n xs)
    (a : Addr) (m c : Nat) (news : List Value) (hl : news.length = m * size) (hnews : ∀ j u, news[j]? = some u → w.cell? (a.add j) = some u) (h1 : ∀ u ∈ news, u.oneCell' = true)
    (h63 : n + m ≤ maxLen) (hbytes : (n + m) * bytes ≤ 140737488355328) (hbase : base ≤ w.heap.size) :
    ∃ v' w', (Builtin.append_ #[t, t] ty #[v, .slice (some a) m c]).run P w = .ok v' w' ∧ w'.ownsRow base e size v' (n + m) (xs ++ news) ∧ w.grownBy w' v.ownBlock ∧
      (v'.ownBlock = v.ownBlock ∨ ∃ g, v'.ownBlock = some g ∧ w.heap.size ≤ g) := by
  have hn63 : n + m ≤ 9223372036854775807 := by simpa [maxLen] using h63
  have hown' := hown
  rcases hown.2 with ⟨rfl, rfl⟩ | ⟨g, cap, cur, rfl, hbg, hg, hnc, hcm, hcs, htake⟩
  · have hxs : xs = [] := List.eq_nil_of_length_eq_zero (by have := hown.1; omega)
    subst hxs
    obtain ⟨v', w', hr, h2, h3, _⟩ := run_append_own (P := P) w w.heap.size t ty e i z size bytes ht hi hz hsize hby hzs hsz _ 0 [] (World.ownsRow_nil _ _ _ _) a m c news hl hnews h1 h63 hbytes (Nat.le_refl _)
    refine ⟨v', w', hr, ownsRow_mono h2 hbase, h3, ?_⟩
    cases hv : v'.ownBlock with
    | none => exact .inl rfl
    | some g => exact .inr ⟨g, rfl, (h2.lt g hv).1⟩
  · by_cases hroom : n + m ≤ cap
    · obtain ⟨w', hr, h2, h3⟩ := run_append_fits (P := P) w base t ty e i size ht hi hsize g n cap xs hown a m c news hl hnews h1 hroom
      exact ⟨_, w', hr, h2, h3, .inl rfl⟩
    · subst hsize
      subst hby
      have holds : ∀ j u, xs[j]? = some u → w.cell? ((⟨g, 0, none⟩ : Addr).add j) = some u := hown.cells (g := g) rfl
      have hr := run_append_grow (P := P) w t ty e i z ht hi hz ⟨g, 0, none⟩ n cap xs hown.1 holds a m c news hl hnews (by omega) (by omega) (growslice_fits (by omega) hbytes)
      have hge := grownCap_ge w (n + m) cap e
      refine ⟨_, _, hr, ⟨by rw [List.length_append, hown.1, hl, Nat.add_mul], .inr ⟨w.heap.size, _, _, rfl, hbase, heap_alloc_new w.drew _, hge, grownCap_le_maxLen w (n + m) cap e h63, ?_, ?_⟩⟩, ⟨rfl, rfl, rfl, by simp, fun kk hk _ => by show (w.heap.push _)[kk]? = _; rw [Array.getElem?_push, if_neg (by omega)]⟩, .inr ⟨_, rfl, Nat.le_refl _⟩⟩
      · simp only [Array.size_append, List.size_toArray, size_zeroCells, hzs, hown.1, hl, ← Nat.add_mul]
        congr 1
        omega
      · have hlen : (xs ++ news).length = (n + m) * i.size := by rw [List.length_append, hown.1, hl, Nat.add_mul]
        simp only [Array.toList_append, List.append_assoc]
        rw [← List.append_assoc, ← hlen]
        exact List.take_left
/-- Where a slice value lies behind a step: where it lay, or in a new block. -/
def OwnStep (w : World) (v v' : Value) : Prop := v'.ownBlock = v.ownBlock ∨ ∃ g, v'.ownBlock = some g ∧ w.heap.size ≤ g
theorem wpList_app {P : Program} {w : World} {ops : Array Oper} {rest : List Oper} {o : Oper} {a : Act} {Q : Exit → Act → World → Prop} (hgd : o.guard = none) (s x : Operand) (t : TypeId)
    (ho : o.op = .call { callee := .builtin .append, args := #[s, x], argTypes := #[t, t] })
    (base : Nat) (e : TypeId) (i : TypeInfo) (z : Value) (size bytes : Nat) (ht : P.underlying t = some (.slice e)) (hi : P.info? e = some i) (hz : i.zero = some z)
    (hsize : i.size = size) (hby : i.bytes = bytes) (hzs : z.cells.size = size) (hsz : 0 < size)
    (v : Value) (n : Nat) (xs : List Value) (hs : a.eval s = v) (hown : w.ownsRow base e size v n xs)
    (ad : Addr) (m c : Nat) (news : List Value) (hx : a.eval x = .slice (some ad) m c) (hl : news.length = m * size) (hnews : ∀ j u, news[j]? = some u → w.cell? (ad.add j) = some u) (h1 : ∀ u ∈ news, u.oneCell' = true)
    (h63 : n + m ≤ maxLen) (hbytes : (n + m) * bytes ≤ 140737488355328) (hbase : base ≤ w.heap.size)
    (h : ∀ v' w', w'.ownsRow base e size v' (n + m) (xs ++ news) → w.grownBy w' v.ownBlock → OwnStep w v v' → wpList P ops Q rest (a.put o.dst v') w') : wpList P ops Q (o :: rest) a w := by
  refine wpList_plain hgd fun K hK => ?_
  obtain ⟨v', w', hr, h2, h3, h4⟩ := run_app (P := P) w base t o.type e i z size bytes ht hi hz hsize hby hzs hsz v n xs hown ad m c news hl hnews h1 h63 hbytes hbase
  unfold Oper.wp
  simp [execOp, ho, resolve, invoke, builtin, hs, hx, hr, Result.andThen]
  exact hK _ _ (h v' w' h2 h3 h4)
/-- append(v, xs...), numbers: v the call's own (nil too), xs any slice that reads (nil too). -/
theorem wpList_appI {P : Program} {w : World} {ops : Array Oper} {rest : List Oper} {o : Oper} {a : Act} {Q : Exit → Act → World → Prop} (hgd : o.guard = none) (s x : Operand) (t : TypeId)
    (ho : o.op = .call { callee := .builtin .append, args := #[s, x], argTypes := #[t, t] })
    (k : IntKind) (base : Nat) (e : TypeId) (i : TypeInfo) (z : Value) (bytes : Nat) (ht : P.underlying t = some (.slice e)) (hi : P.info? e = some i) (hz : i.zero = some z)
    (hsize : i.size = 1) (hby : i.bytes = bytes) (hzs : z.cells.size = 1)
    (v : Value) (zs : List Int) (hs : a.eval s = v) (hown : Ow k e base w v zs)
    (ao : Option Addr) (m c : Nat) (ns : List Int) (hx : a.eval x = .slice ao m c) (hsl : SlI k w ao m c ns) (hnil : ao = none → c = 0)
    (h63 : zs.length + m ≤ 9223372036854775807) (hbytes : (zs.length + m) * bytes ≤ 140737488355328) (hbase : base ≤ w.heap.size)
    (h : ∀ v' w', Ow k e base w' v' (zs ++ ns) → w.grownBy w' v.ownBlock → OwnStep w v v' → wpList P ops Q rest (a.put o.dst v') w') : wpList P ops Q (o :: rest) a w := by
  have hm := hsl.len
  cases ao with
  | none =>
    obtain rfl := hnil rfl
    have hm0 : m = 0 := by have := hsl.le; omega
    subst hm0
    have hns : ns = [] := List.eq_nil_of_length_eq_zero hm
    subst hns
    exact wpList_append_own_none hgd s x t ho base e i 1 ht hi v zs.length _ hs hown hx (h v w (by simpa using hown) (World.grownBy.refl _ _) (.inl rfl))
  | some ad =>
    refine wpList_app (w := w) hgd s x t ho base e i z 1 bytes ht hi hz hsize hby hzs (by decide) v zs.length (zs.map (Value.int k)) hs hown ad m c (ns.map (Value.int k)) hx (by simp [hm]) ?_ (ints_oneCell _ _)
      (by simpa [maxLen] using h63) hbytes hbase (fun v' w' h1 h2 h3 => h v' w' ?_ h2 h3)
    · intro j u hu
      simp only [List.getElem?_map, Option.map_eq_some_iff] at hu
      obtain ⟨y, hy, rfl⟩ := hu
      obtain ⟨hl, hy'⟩ := List.getElem?_eq_some_iff.1 hy
      obtain ⟨b', o', e', hc⟩ := hsl.cell j (by omega)
      obtain rfl := Option.some.inj e'
      rw [Addr.add_lit, hc]
      simp [hl, hy']
    · unfold Ow
      rw [List.length_append, hm, List.map_append]
      exact h1
/-- An element of an owned row: its cell, that it may be written, what is owned behind the write. -/
theorem Ow.at {k : IntKind} {e : TypeId} {base : Nat} {w : World} {a : Option Addr} {n c : Nat} {zs : List Int} (h : Ow k e base w (.slice a n c) zs) (i : Nat) (hi : i < zs.length) :
    ∃ g, a = some ⟨g, 0, none⟩ ∧ base ≤ g ∧ g < w.heap.size ∧ w.cell? ⟨g, i, none⟩ = some (.int k (zs.getD i 0)) ∧ w.frozen? ⟨g, i, none⟩ = false ∧ ∀ x, Ow k e base (w.setCell ⟨g, i, none⟩ (.int k x)) (.slice a n c) (zs.set i x) := by
  have hn : n = zs.length := by
    rcases h.2 with ⟨hv, h0⟩ | ⟨g, cap, cur, hv, _⟩
    · simp at hv; omega
    · simp at hv; omega
  subst hn
  have h' : w.ownsRow base e 1 (.slice a zs.length c) zs.length (zs.map (Value.int k)) := h
  rcases h.2 with ⟨_, h0⟩ | ⟨g, cap, cur, hv, hb, hg, _⟩
  · omega
  · simp only [Value.slice.injEq, true_and] at hv
    obtain ⟨rfl, rfl⟩ := hv
    refine ⟨g, rfl, hb, (Array.getElem?_eq_some_iff.1 hg).1, ?_, World.ownsRow.frozenAt h' i, fun x => ?_⟩
    · rw [World.ownsRow.cellAt h' i (by omega)]; simp [hi]
    · have := (World.ownsRow.stored h' i (.int k x)).1
      unfold Ow
      simpa using this
theorem SlI.pre {k : IntKind} {w : World} {a : Option Addr} {n cap : Nat} {zs : List Int} (h : SlI k w a n cap zs) (m : Nat) (hm : m ≤ n) : SlI k w a m cap (zs.take m) :=
  ⟨by have := h.len; simp; omega, by have := h.le; omega, h.max, fun i hi => by
    obtain ⟨b, o, e, hc⟩ := h.cell i (by omega)
    refine ⟨b, o, e, ?_⟩
    rw [hc]; simp [List.getElem?_take, hi]⟩
theorem SlI.grown {k : IntKind} {w w' : World} {row : Option Nat} {a : Option Addr} {n cap : Nat} {zs : List Int} (h : SlI k w a n cap zs) (hg : w.grownBy w' row) (hne : ∀ x, a = some x → some x.block ≠ row) : SlI k w' a n cap zs :=
  ⟨h.len, h.le, h.max, fun i hi => by
    obtain ⟨b, o, rfl, hc⟩ := h.cell i hi
    exact ⟨b, o, rfl, hg.cell hc (hne ⟨b, o, none⟩ rfl)⟩⟩
theorem wpList_appJ {P : Program} {w : World} {ops : Array Oper} {rest : List Oper} {o : Oper} {a : Act} {Q : Exit → Act → World → Prop} (hgd : o.guard = none) (s x : Operand) (t : TypeId)
    (ho : o.op = .call { callee := .builtin .append, args := #[s, x], argTypes := #[t, t] })
    (k : IntKind) (base : Nat) (e : TypeId) (z : Value) (bytes : Nat) (ht : P.underlying t = some (.slice e)) (hinfo : (P.info? e).map (fun i => (i.zero, i.size, i.bytes)) = some (some z, 1, bytes)) (hzs : z.cells.size = 1)
    (v : Value) (zs : List Int) (hs : a.eval s = v) (hown : Ow k e base w v zs)
    (ao : Option Addr) (m c : Nat) (ns : List Int) (hx : a.eval x = .slice ao m c) (hsl : SlI k w ao m c ns) (hnil : ao = none → c = 0)
    (h63 : zs.length + m ≤ 9223372036854775807) (hbytes : (zs.length + m) * bytes ≤ 140737488355328) (hbase : base ≤ w.heap.size)
    (h : ∀ v' w', Ow k e base w' v' (zs ++ ns) → w.grownBy w' v.ownBlock → OwnStep w v v' → wpList P ops Q rest (a.put o.dst v') w') : wpList P ops Q (o :: rest) a w := by
  obtain ⟨i, hi, hz0, hz1, hz2⟩ := info_parts hinfo
  exact wpList_appI hgd s x t ho k base e i z bytes ht hi hz0 hz1 hz2 hzs v zs hs hown ao m c ns hx hsl hnil h63 hbytes hbase h
end Go.Tk
