/- A clipped row: append makes a new one. -/
import Derived.Test.YtgajpekolamjbaaKept
set_option linter.unusedVariables false
set_option linter.unusedSimpArgs false
namespace Go.Tk
open Go Go.RowKit
/-- A slice without room, at the head of a row of the call's own. -/
def OwC (k : IntKind) (e : TypeId) (base : Nat) (w : World) (v : Value) (zs : List Int) : Prop := ∃ a c, v = .slice a zs.length zs.length ∧ Ow k e base w (.slice a zs.length c) zs
theorem OwC.kept2 {S : Nat → Prop} {k : IntKind} {e : TypeId} {base : Nat} {w w' : World} {v : Value} {zs : List Int} (h : OwC k e base w v zs) (hk : Kept S w w') (hv : ∀ g, v.ownBlock = some g → ¬ S g) : OwC k e base w' v zs := by
  obtain ⟨a, c, rfl, h⟩ := h
  exact ⟨a, c, rfl, h.kept2 hk (by cases a with
    | none => simp [Value.ownBlock]
    | some a => exact hv)⟩
theorem OwC.lt {k : IntKind} {e : TypeId} {base : Nat} {w : World} {v : Value} {zs : List Int} (h : OwC k e base w v zs) : ∀ g, v.ownBlock = some g → base ≤ g ∧ g < w.heap.size := by
  obtain ⟨a, c, rfl, h⟩ := h
  cases a with
  | none => simp [Value.ownBlock]
  | some a => exact h.lt
theorem Ow.max {k : IntKind} {e : TypeId} {base : Nat} {w : World} {a : Option Addr} {n c : Nat} {zs : List Int} (h : Ow k e base w (.slice a n c) zs) : n = zs.length ∧ n ≤ c ∧ c ≤ 9223372036854775807 := by
  rcases h.2 with ⟨hv, h0⟩ | ⟨g, cap, cur, hv, _, _, h1, h2, _⟩
  · simp at hv; omega
  · simp at hv
    have : cap ≤ 9223372036854775807 := by simpa [maxLen] using h2
    omega
theorem OwC.sl {k : IntKind} {e : TypeId} {base : Nat} {w : World} {v : Value} {zs : List Int} (h : OwC k e base w v zs) : ∃ a, v = .slice a zs.length zs.length ∧ SlI k w a zs.length zs.length zs := by
  obtain ⟨a, c, rfl, h⟩ := h
  have hm := h.max
  obtain ⟨a', c', he, hs, _⟩ := h.sl
  simp at he
  obtain ⟨rfl, rfl⟩ := he
  exact ⟨a, rfl, hs.len, Nat.le_refl _, by omega, hs.cell⟩
theorem wpList_appC {P : Program} {w : World} {ops : Array Oper} {rest : List Oper} {o : Oper} {a : Act} {Q : Exit → Act → World → Prop} (hgd : o.guard = none) (s x : Operand) (t : TypeId)
    (ho : o.op = .call { callee := .builtin .append, args := #[s, x], argTypes := #[t, t] })
    (k : IntKind) (base : Nat) (e : TypeId) (z : Value) (bytes : Nat) (ht : P.underlying t = some (.slice e)) (hinfo : (P.info? e).map (fun i => (i.zero, i.size, i.bytes)) = some (some z, 1, bytes)) (hzs : z.cells.size = 1)
    (v : Value) (zs : List Int) (hs : a.eval s = v) (hown : OwC k e base w v zs)
    (ad : Addr) (m c : Nat) (ns : List Int) (hx : a.eval x = .slice (some ad) m c) (hsl : SlI k w (some ad) m c ns) (hm1 : 1 ≤ m)
    (h63 : zs.length + m ≤ 9223372036854775807) (hbytes : (zs.length + m) * bytes ≤ 140737488355328)
    (h : ∀ v' w', Ow k e w.heap.size w' v' (zs ++ ns) → w.grownBy w' none → wpList P ops Q rest (a.put o.dst v') w') : wpList P ops Q (o :: rest) a w := by
  obtain ⟨i, hi, hz0, hz1, hz2⟩ := info_parts hinfo
  obtain ⟨va, vc, rfl, how⟩ := hown
  have hm := hsl.len
  cases va with
  | none =>
    have hn : vc = 0 := how.nil_cap
    have hl : zs.length = 0 := by have := how.max; omega
    have hz : zs = [] := List.length_eq_zero_iff.1 hl
    subst hz
    subst hn
    exact wpList_appI hgd s x t ho k w.heap.size e i z bytes ht hi hz0 hz1 hz2 hzs _ [] hs (Ow.nil _ _ _ _) _ m c ns hx hsl (by simp) h63 hbytes (Nat.le_refl _) (fun v' w' h1 h2 _ => h v' w' h1 h2)
  | some va =>
    obtain ⟨va', vc', he, hso, _⟩ := how.sl
    simp at he
    obtain ⟨rfl, rfl⟩ := he
    have cells : ∀ {ad : Addr} {n cc : Nat} {ys : List Int}, SlI k w (some ad) n cc ys → ∀ j u, (ys.map (Value.int k))[j]? = some u → w.cell? (ad.add j) = some u := by
      intro ad n cc ys hy j u hu
      simp only [List.getElem?_map, Option.map_eq_some_iff] at hu
      obtain ⟨y, hyj, rfl⟩ := hu
      obtain ⟨hl, hy'⟩ := List.getElem?_eq_some_iff.1 hyj
      have hlen := hy.len
      obtain ⟨b', o', e', hc⟩ := hy.cell j (by omega)
      obtain rfl := Option.some.inj e'
      rw [Addr.add_lit, hc]
      simp [hl, hy']
    refine wpList_plain hgd fun K hK => ?_
    have hr := run_append_grow (P := P) w t o.type e i z ht hi hz0 va zs.length zs.length (zs.map (Value.int k)) (by simp [hz1]) (cells hso) ad m c (ns.map (Value.int k)) (by simp [hm, hz1]) (cells hsl) (by omega) (by omega) (growslice_fits (by omega) (by rw [hz2]; exact hbytes))
    have hge := grownCap_ge w (zs.length + m) zs.length e
    unfold Oper.wp
    simp [execOp, ho, resolve, invoke, builtin, hs, hx, hr, Result.andThen]
    refine hK _ _ (h _ _ ?_ ⟨rfl, rfl, rfl, by simp, fun kk hk _ => by show (w.heap.push _)[kk]? = _; rw [Array.getElem?_push, if_neg (by omega)]⟩)
    refine ⟨by simp, .inr ⟨w.heap.size, grownCap w (zs.length + m) zs.length e, _, by simp [hm], Nat.le_refl _, heap_alloc_new w.drew _, by simp [hm]; exact hge, grownCap_le_maxLen w (zs.length + m) zs.length e (by simpa [maxLen] using h63), ?_, ?_⟩⟩
    · simp [size_zeroCells, hzs, hm]
      omega
    · simp only [Array.toList_append, List.append_assoc, List.toList_toArray, Array.toList_map]
      rw [← List.append_assoc, ← List.map_append, List.take_left' (by simp)]
end Go.Tk
