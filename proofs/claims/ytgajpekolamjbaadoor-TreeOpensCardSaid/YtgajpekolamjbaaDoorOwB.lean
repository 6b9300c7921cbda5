/- Bools of the call's own. -/
import Derived.Test.YtgajpekolamjbaaDoorSlB
import Derived.Test.YtgajpekolamjbaaDoorCpK
import Derived.Test.YtgajpekolamjbaaDoorSlc
import Derived.Test.YtgajpekolamjbaaDoorTypes
set_option linter.unusedVariables false
set_option linter.unusedSimpArgs false
namespace Go.Tk
open Go Go.RowKit
/-- Bools of the call's own. -/
def OwB (e : TypeId) (base : Nat) (w : World) (v : Value) (l : List Bool) : Prop := w.ownsRow base e 1 v l.length (l.map Value.bool)
theorem bools_oneCell (l : List Bool) : ∀ u ∈ l.map Value.bool, u.oneCell' = true := by
  intro u hu
  obtain ⟨b, _, rfl⟩ := List.mem_map.1 hu
  rfl
theorem OwB.sl {e : TypeId} {base : Nat} {w : World} {v : Value} {l : List Bool} (h : OwB e base w v l) :
    ∃ a c, v = .slice a l.length c ∧ SlB w a l.length c l ∧ (a = none → c = 0) := by
  rcases h.2 with ⟨rfl, h0⟩ | ⟨g, cap, cur, rfl, hbg, hgg, hnc, hcm, hsz, ht⟩
  · have : l = [] := List.eq_nil_of_length_eq_zero h0
    subst this
    exact ⟨none, 0, rfl, ⟨rfl, Nat.le_refl _, by omega, fun i hi => by simp at hi⟩, fun _ => rfl⟩
  · refine ⟨_, cap, rfl, ⟨rfl, hnc, by simpa [maxLen] using hcm, fun i hi => ⟨g, 0, rfl, ?_⟩⟩, fun h => by cases h⟩
    rw [Nat.zero_add, cell_of_row w g i cur e _ hgg]
    have h2 : (cur.toList.take (l.length * 1))[i]? = (l.map Value.bool)[i]? := by rw [ht]
    rw [List.getElem?_take, if_pos (by omega)] at h2
    simp only [Array.getElem?_toList] at h2
    rw [h2]; simp [hi]
theorem OwB.empty (e : TypeId) (base : Nat) (w : World) (hb : base ≤ w.heap.size) : OwB e base (w.alloc (.cells #[] e)) (.slice (some ⟨w.heap.size, 0, none⟩) 0 0) [] :=
  ow_empty .u8 e base w hb
theorem wpList_appB {P : Program} {w : World} {ops : Array Oper} {rest : List Oper} {o : Oper} {a : Act} {Q : Exit → Act → World → Prop} (hgd : o.guard = none) (s x : Operand) (t : TypeId)
    (ho : o.op = .call { callee := .builtin .append, args := #[s, x], argTypes := #[t, t] })
    (base : Nat) (e : TypeId) (z : Value) (bytes : Nat) (ht : P.underlying t = some (.slice e)) (hinfo : (P.info? e).map (fun i => (i.zero, i.size, i.bytes)) = some (some z, 1, bytes)) (hzs : z.cells.size = 1)
    (v : Value) (l : List Bool) (hs : a.eval s = v) (hown : OwB e base w v l)
    (ao : Option Addr) (m c : Nat) (ns : List Bool) (hx : a.eval x = .slice ao m c) (hsl : SlB w ao m c ns) (hnil : ao = none → c = 0)
    (h63 : l.length + m ≤ 9223372036854775807) (hbytes : (l.length + m) * bytes ≤ 140737488355328) (hbase : base ≤ w.heap.size)
    (h : ∀ v' w', OwB e base w' v' (l ++ ns) → w.grownBy w' v.ownBlock → OwnStep w v v' → wpList P ops Q rest (a.put o.dst v') w') : wpList P ops Q (o :: rest) a w := by
  obtain ⟨i, hi, hz, hsize, hby⟩ := info_parts hinfo
  have hm := hsl.len
  cases ao with
  | none =>
    obtain rfl := hnil rfl
    have hm0 : m = 0 := by have := hsl.le; omega
    subst hm0
    have hns : ns = [] := List.eq_nil_of_length_eq_zero hm
    subst hns
    exact wpList_append_own_none hgd s x t ho base e i 1 ht hi v l.length _ hs hown hx (h v w (by simpa using hown) (World.grownBy.refl _ _) (.inl rfl))
  | some ad =>
    refine wpList_app (w := w) hgd s x t ho base e i z 1 bytes ht hi hz hsize hby hzs (by decide) v l.length (l.map Value.bool) hs hown ad m c (ns.map Value.bool) hx (by simp [hm]) ?_ (bools_oneCell _)
      (by simpa [maxLen] using h63) hbytes hbase (fun v' w' h1 h2 h3 => h v' w' ?_ h2 h3)
    · intro j u hu
      simp only [List.getElem?_map, Option.map_eq_some_iff] at hu
      obtain ⟨y, hy, rfl⟩ := hu
      obtain ⟨hl, hy'⟩ := List.getElem?_eq_some_iff.1 hy
      obtain ⟨b', o', e', hc⟩ := hsl.cell j (by omega)
      obtain rfl := Option.some.inj e'
      rw [Addr.add_lit, hc]
      simp [hl, hy']
    · unfold OwB
      rw [List.length_append, hm, List.map_append]
      exact h1
end Go.Tk
namespace Go.Proofs.YtgajpekolamjbaaDoor
theorem infoB : (Tryd.prog.info? 4).map (fun i => (i.zero, i.size, i.bytes)) = some (some (.bool false), 1, 1) := by kernel_rfl
end Go.Proofs.YtgajpekolamjbaaDoor
