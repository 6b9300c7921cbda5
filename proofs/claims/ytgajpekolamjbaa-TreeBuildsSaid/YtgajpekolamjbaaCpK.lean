/- copy into an owned row: all other blocks stay. -/
import Derived.Test.YtgajpekolamjbaaKept
import Derived.Laws.CopyOwn
set_option linter.unusedVariables false
set_option linter.unusedSimpArgs false
namespace Go.Tk
open Go Go.RowKit
theorem wpList_copyK {P : Program} {w : World} {ops : Array Oper} {rest : List Oper} {o : Oper} {a : Act} {Q : Exit → Act → World → Prop} (hgd : o.guard = none) (d s : Operand) (dT sT : TypeId)
    (ho : o.op = .call { callee := .builtin .copy, args := #[d, s], argTypes := #[dT, sT] }) (elem : TypeId) (hu : P.underlying dT = some (.slice elem)) (hsz : (P.info? elem).map (·.size) = some 1)
    (dp sp : Option Addr) (dLen dCap sLen sCap : Nat) (hd : a.eval d = .slice dp dLen dCap) (hs : a.eval s = .slice sp sLen sCap)
    (k : IntKind) (g off : Nat) (zs : List Int) (t : TypeId) (hg : RowI k t w g zs) (cs : List Int) (hn : cs.length = Nat.min sLen dLen) (hdp : 0 < cs.length → dp = some ⟨g, off, none⟩) (hsl : SlI k w sp sLen sCap cs)
    (hfit : off + cs.length ≤ zs.length)
    (h : ∀ w', RowI k t w' g (zs.take off ++ (cs ++ zs.drop (off + cs.length))) → Kept (fun j => j = g) w w' → wpList P ops Q rest (a.put o.dst (goInt cs.length)) w') :
    wpList P ops Q (o :: rest) a w := by
  by_cases h0 : cs.length = 0
  · obtain rfl : cs = [] := List.eq_nil_of_length_eq_zero h0
    refine wpList_copy_nothing hgd d s dT sT ho elem hu hsz dp sp dLen dCap sLen sCap hd hs (by simpa using hn.symm) ?_
    exact h w (by simpa using hg) (Kept.refl _ _)
  · obtain rfl := hdp (by omega)
    have hl := hsl.len
    obtain ⟨b, o', rfl, _⟩ := hsl.cell 0 (by omega)
    refine wpList_copy_own hgd d s dT sT ho elem hu hsz g off dLen dCap ⟨b, o', none⟩ sLen sCap hd hs _ t hg (cs.map (Value.int k)) (by simpa using hn) ?_ (by simpa using hfit) (ints_oneCell _ _) ?_
    · intro j v hj
      simp only [List.getElem?_map, Option.map_eq_some_iff] at hj
      obtain ⟨x, hx, rfl⟩ := hj
      obtain ⟨hjl, hx'⟩ := List.getElem?_eq_some_iff.1 hx
      obtain ⟨b2, o2, e, hc⟩ := hsl.cell j (by omega)
      obtain ⟨rfl, rfl⟩ : b = b2 ∧ o' = o2 := by simpa using e
      rw [Addr.add_lit, hc]
      simp [hjl, hx']
    · have hk : ∀ cells : Array Value, Kept (fun j => j = g) w (w.setRow g cells) := fun cells => ⟨rfl, rfl, rfl, by simp, fun j hj hne => setRow_other w g j _ hne⟩
      have hr : RowI k t (w.setRow g ((zs.take off ++ (cs ++ zs.drop (off + cs.length))).map (Value.int k)).toArray) g (zs.take off ++ (cs ++ zs.drop (off + cs.length))) := setRow_heap w g _ _ t _ hg
      have := h _ hr (hk _)
      simpa [List.map_take, List.map_drop] using this
end Go.Tk
