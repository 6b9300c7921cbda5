/- What lies where in RankBuilds. -/
import Derived.Test.YtpphjiialgmidaaRkX
set_option linter.unusedVariables false
set_option linter.unusedSimpArgs false
namespace Go.Proofs.Ytpphjiialgmidaa
open Go.RowKit Go.Tk
theorem own_sl {w : World} {g n : Nat} {z : List Int} (h : RowI .u8 5 w g (z ++ [171, 172])) (hn : z.length = n) (hb : n ≤ 140737488351232) : SlI .u8 w (some ⟨g, 0, none⟩) n (n + 2) z := by
  have := h.sl n (n + 2) (by simp; omega) (by simp; omega) (by omega)
  have e : (z ++ [171, 172]).take n = z := by subst hn; simp
  rw [e] at this
  exact this
theorem row_sl {w : World} {g n : Nat} {z : List Int} (h : RowI .u8 5 w g z) (hn : z.length = n) (hb : n ≤ 140737488351232) : SlI .u8 w (some ⟨g, 0, none⟩) n n z := by
  have := h.sl n n (by omega) hn (by omega)
  subst hn
  rw [List.take_length] at this
  exact this
theorem row_kept {k : IntKind} {e : TypeId} {w w' : World} {g ga : Nat} {zs : List Int} (h : RowI k e w g zs) (hk : Kept (fun j => j = ga) w w') (hne : g ≠ ga) : RowI k e w' g zs := (hk.block g h.lt hne).trans h
theorem nil_sl (k : IntKind) (w : World) : SlI k w none 0 0 [] := ⟨rfl, Nat.le_refl _, by omega, fun i hi => by omega⟩
/-- The lent bytes, the second vector, the document's. -/
structure BS2 (w0 : World) (g0 ga gb : Nat) (vw : Value) (zo zb : List Int) (wx : World) : Prop where
  o : RowI .u8 5 wx g0 zo
  b : RowI .u8 5 wx gb zb
  c : Ow .u8 5 (gb + 1) wx vw zb
  bel : Below w0.heap.size w0 wx
  h1 : w0.heap.size ≤ g0
  h2 : g0 < ga
  h3 : ga < gb
theorem BS2.drewN {w0 g0 ga gb vw zo zb wx} (h : BS2 w0 g0 ga gb vw zo zb wx) (k : Nat) : BS2 w0 g0 ga gb vw zo zb (wx.drewN k) := ⟨h.o, h.b, h.c.drewN k, below_drewN h.bel k, h.h1, h.h2, h.h3⟩
theorem BS2.kept {w0 g0 ga gb vw zo zb wx wy} (h : BS2 w0 g0 ga gb vw zo zb wx) (hk : Kept (fun j => j = ga) wx wy) : BS2 w0 g0 ga gb vw zo zb wy :=
  ⟨row_kept h.o hk (by have := h.h2; omega), row_kept h.b hk (by have := h.h3; omega), h.c.kept2 hk (fun g hg e => by have := (h.c.lt g hg).1; have := h.h3; omega), h.bel.trans (hk.below h.bel.size (fun j e => by have := h.h1; have := h.h2; omega)), h.h1, h.h2, h.h3⟩
theorem BS2.setO {w0 g0 ga gb vw zo zb wx} (h : BS2 w0 g0 ga gb vw zo zb wx) (i : Nat) (x : Int) : BS2 w0 g0 ga gb vw (zo.set i x) zb (wx.setCell ⟨g0, i, none⟩ (.int .u8 x)) :=
  have hk := kept_set (Kept.refl (fun j => j = g0) wx) i (.int .u8 x)
  ⟨h.o.set i x, row_kept h.b hk (by have := h.h2; have := h.h3; omega), h.c.kept2 hk (fun g hg e => by have := (h.c.lt g hg).1; have := h.h3; have := h.h2; omega), h.bel.trans (hk.below h.bel.size (fun j e => by have := h.h1; omega)), h.h1, h.h2, h.h3⟩
theorem same_self (w : World) (a1 : Option Addr) (n1 c1 : Nat) (a2 : Option Addr) (n2 c2 : Nat) (z : List Int) (h1 : SlI .u8 w a1 n1 c1 z) (h2 : SlI .u8 w a2 n2 c2 z) :
    Calls Try.prog 17 #[.slice a1 n1 c1, .slice a2 n2 c2] w fun e w' => e = .returned (.bool true) ∧ ∃ m, w' = w.drewN m := by
  have := sameB2_calls w a1 n1 c1 z a2 n2 c2 z h1 h2
  rw [sameB_yes rfl] at this
  exact this
theorem drewN_add (w : World) (a b : Nat) : (w.drewN a).drewN b = w.drewN (a + b) := by simp [World.drewN, Nat.add_assoc]
end Go.Proofs.Ytpphjiialgmidaa
