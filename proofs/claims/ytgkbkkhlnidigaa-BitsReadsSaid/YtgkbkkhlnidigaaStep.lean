/- append at a step of a region that draws its order. -/
import Derived.Test.YtgkbkkhlnidigaaOwn
import Derived.Deep.AppendLies
namespace Go.Tk
open Go Go.RowKit
/-- append(v, xs...), numbers, v the call's own: at a step of a region that draws. -/
theorem step_appJ {P : Program} {w : World} {ops : Array Oper} {o : Oper} {a : Act} {K : Act → World → Prop} {Q : Exit → Act → World → Prop} {E : Prop} (hgd : Region.wanted o (yielded ops a.tmps) = true) (s x : Operand) (t : TypeId)
    (ho : o.op = .call { callee := .builtin .append, args := #[s, x], argTypes := #[t, t] })
    (k : IntKind) (base : Nat) (e : TypeId) (z : Value) (bytes : Nat) (ht : P.underlying t = some (.slice e)) (hinfo : (P.info? e).map (fun i => (i.zero, i.size, i.bytes)) = some (some z, 1, bytes)) (hzs : z.cells.size = 1)
    (v : Value) (zs : List Int) (hs : a.eval s = v) (hown : Ow k e base w v zs)
    (ad : Addr) (m c : Nat) (ns : List Int) (hx : a.eval x = .slice (some ad) m c) (hsl : SlI k w (some ad) m c ns)
    (h63 : zs.length + m ≤ 9223372036854775807) (hbytes : (zs.length + m) * bytes ≤ 140737488355328) (hbase : base ≤ w.heap.size)
    (h : ∀ v' w', Ow k e base w' v' (zs ++ ns) → w.grownBy w' v.ownBlock → OwnStep w v v' → K (a.put o.dst v') w') : if Region.wanted o (yielded ops a.tmps) = true then Oper.wp P o a w K Q else E := by
  rw [if_pos hgd]
  obtain ⟨i, hi, hz0, hz1, hz2⟩ := info_parts hinfo
  have hm := hsl.len
  obtain ⟨v', w', hr, h2, h3, h4⟩ := run_app (P := P) w base t o.type e i z 1 bytes ht hi hz0 hz1 hz2 hzs (by decide) v zs.length (zs.map (Value.int k)) hown ad m c (ns.map (Value.int k)) (by simp [hm]) (fun j u hu => by
    simp only [List.getElem?_map, Option.map_eq_some_iff] at hu
    obtain ⟨y, hy, rfl⟩ := hu
    obtain ⟨hl, hy'⟩ := List.getElem?_eq_some_iff.1 hy
    obtain ⟨b', o', e', hc⟩ := hsl.cell j (by omega)
    obtain rfl := Option.some.inj e'
    rw [Addr.add_lit, hc]
    simp [hl, hy']) (ints_oneCell _ _) (by simpa [maxLen] using h63) hbytes hbase
  unfold Oper.wp
  simp [execOp, ho, resolve, invoke, builtin, hs, hx, hr, Result.andThen]
  refine h v' w' ?_ h3 h4
  unfold Ow
  rw [List.length_append, hm, List.map_append]
  exact h2
end Go.Tk
