/- Opening a []Op: each element's five cells, and the bytes that its fourth field leads to. -/
import Derived.Test.YtgkbkkhlnidigaaOpen
import Derived.Test.YtgkbkkhlnidigaaProg
import Derived.Deep.Slices
import Derived.Deep.Strs
set_option linter.unusedVariables false
set_option linter.unusedSimpArgs false
namespace Go.Proofs.Ytgkbkkhlnidigaa
open Go.RowKit Go.Tk Go.ChangeShapes Go.WideShapes Go.ChangeAt
/-- One call. -/
structure OpV where
  kind : Int
  n : Int
  k : Int
  ba : Option Addr
  bl : Nat
  bc : Nat
  bz : List Int
  two : Bool
deriving Inhabited
/-- What is known of one call in memory. -/
structure OpOk (w : World) (b o : Nat) (v : OpV) : Prop where
  c0 : w.cell? ⟨b, o, none⟩ = some (.int .i64 v.kind)
  c1 : w.cell? ⟨b, o + 1, none⟩ = some (.int .u64 v.n)
  c2 : w.cell? ⟨b, o + 2, none⟩ = some (.int .i64 v.k)
  c3 : w.cell? ⟨b, o + 3, none⟩ = some (.slice v.ba v.bl v.bc)
  c4 : w.cell? ⟨b, o + 4, none⟩ = some (.bool v.two)
  kr : -9223372036854775808 ≤ v.kind ∧ v.kind ≤ 9223372036854775807
  nr : 0 ≤ v.n ∧ v.n < 18446744073709551616
  kkr : -9223372036854775808 ≤ v.k ∧ v.k ≤ 9223372036854775807
  sl : SlI .u8 w v.ba v.bl v.bc v.bz
  nil : v.ba = none → v.bc = 0
  u8 : ∀ x ∈ v.bz, 0 ≤ x ∧ x < 256
/-- The slice reads as so many calls. -/
structure OpsAt (w : World) (a : Option Addr) (n cap : Nat) (ops : Nat → OpV) : Prop where
  le : n ≤ cap
  max : cap ≤ 9223372036854775807
  at_ : ∀ i, i < n → ∃ b o, a = some ⟨b, o, none⟩ ∧ OpOk w b (o + i * 5) (ops i)
theorem OpOk.below {w w' : World} {b o : Nat} {v : OpV} (h : OpOk w b o v) (hb : Below w.heap.size w w') : OpOk w' b o v := by
  have hl := block_lt_of_cell h.c0
  refine ⟨?_, ?_, ?_, ?_, ?_, h.kr, h.nr, h.kkr, h.sl.keep hb, h.nil, h.u8⟩
  · exact (hb.cell (p := ⟨b, o, none⟩) hl).trans h.c0
  · exact (hb.cell (p := ⟨b, o + 1, none⟩) hl).trans h.c1
  · exact (hb.cell (p := ⟨b, o + 2, none⟩) hl).trans h.c2
  · exact (hb.cell (p := ⟨b, o + 3, none⟩) hl).trans h.c3
  · exact (hb.cell (p := ⟨b, o + 4, none⟩) hl).trans h.c4
theorem OpsAt.below {w w' : World} {a : Option Addr} {n cap : Nat} {ops : Nat → OpV} (h : OpsAt w a n cap ops) (hb : Below w.heap.size w w') : OpsAt w' a n cap ops :=
  ⟨h.le, h.max, fun i hi => by obtain ⟨b, o, e, k⟩ := h.at_ i hi; exact ⟨b, o, e, k.below hb⟩⟩
theorem spot_of {w : World} {a : Addr} {i : Nat} {v : Value} (h : w.cell? (a.add i) = some v) (h0 : i = 0) : a = ⟨a.block, a.off, none⟩ := by
  subst h0
  have : a.spot = none := by simpa [Addr.add] using World.cell?_spot h
  cases a; simp_all
/-- What the reading of a []Op looks like as data: its length, and the room of each element's bytes. -/
def OpsData {H : Type} (d : DataW H) (len : Nat) (ops : Nat → OpV) : Prop :=
  (d = .nil ∧ len = 0) ∨ ∃ el sp, d = .slice el sp ∧ el.length = len ∧ ∀ i, i < len → ∃ x0 x1 x2 x3 x4, el[i]? = some (.agg [x0, x1, x2, x3, x4]) ∧ (x3 = .nil ∧ (ops i).bc = 0 ∨ ∃ e4 s4, x3 = .slice e4 s4 ∧ e4.length + s4.length = (ops i).bc)
theorem take_drop_one {l : List Value} {i : Nat} (h : i < l.length) : (l.drop i).take 1 = [l[i]] := by
  rw [List.drop_eq_getElem_cons h]; rfl
theorem bytes_of {H : Type} {enc : TypeId × Value → H} {W : World} {n : Nat} {cs : List Value} {x : DataW H × List MemPlace} (h : DataW.trod enc Try.prog W 0 (fun _ => true) true n 22 cs = some x) :
    ∃ ba bl bc bz, cs = [.slice ba bl bc] ∧ SlI .u8 W ba bl bc bz ∧ (ba = none → bc = 0) ∧ (∀ y ∈ bz, 0 ≤ y ∧ y < 256) ∧ (x.1 = .nil ∧ bc = 0 ∨ ∃ e4 s4, x.1 = .slice e4 s4 ∧ e4.length + s4.length = bc) := by
  rcases open_ints Try.underlying22 Try.underlying5 (by kernel_rfl) h with ⟨rfl, rfl⟩ | ⟨y, l, c, zs, rfl, _, hl, hm, hz, hx, hcell, hwz⟩
  · exact ⟨none, 0, 0, [], rfl, ⟨rfl, Nat.le_refl _, by omega, fun i hi => by omega⟩, fun _ => rfl, fun y hy => by simp at hy, .inl ⟨rfl, rfl⟩⟩
  · have hz' : zs.length = c := by simpa using hz
    have hr : IsRow .u8 W (some y) l c zs := .inr ⟨y, rfl, hl, hm, hz', hcell, hwz⟩
    have hs := IsRow.sl hr
    refine ⟨some y, l, c, zs.take l, rfl, hs.1, hs.2.1, fun z hzz => wf_u8 (hs.2.2 z hzz), .inr ⟨_, _, by rw [hx], ?_⟩⟩
    simp [lits]; omega
theorem five {α : Type} {l : List α} (h : l.length = 5) : ∃ a b c d e, l = [a, b, c, d, e] := by
  match l, h with
  | [a, b, c, d, e], _ => exact ⟨a, b, c, d, e, rfl⟩
theorem open_ops {H : Type} {enc : TypeId × Value → H} {W : World} {a : Option Addr} {len cap : Nat} {d : DataW H} {p : List MemPlace}
    (h : DataW.Trod enc Try.prog W 0 (fun _ => true) true 45 (.slice a len cap) d p) :
    ∃ ops, OpsAt W a len cap ops ∧ (a = none → cap = 0) ∧ OpsData d len ops := by
  obtain ⟨fuel, hf⟩ := h
  rcases Deep.open_slice Try.underlying45 hf with ⟨hcs, hx⟩ | ⟨x, l, c, m, n, D, Pl, hcs, _, hl, hm, hmm, hx, hel⟩
  · simp [Value.cells] at hcs
    obtain ⟨rfl, rfl, rfl⟩ := hcs
    simp only [Prod.mk.injEq] at hx
    exact ⟨fun _ => default, ⟨Nat.le_refl _, by omega, fun i hi => by omega⟩, (fun _ => rfl), .inl ⟨hx.1, rfl⟩⟩
  · simp [Value.cells] at hcs
    obtain ⟨rfl, rfl, rfl⟩ := hcs
    simp only [if_true] at hmm
    subst hmm
    simp only [Prod.mk.injEq] at hx
    have hc5 : Try.prog.cellsOf 53 = 5 := by kernel_rfl
    have h1 : Try.prog.cellsOf 3 = 1 := by kernel_rfl
    have h2 : Try.prog.cellsOf 35 = 1 := by kernel_rfl
    have h3 : Try.prog.cellsOf 22 = 1 := by kernel_rfl
    have h4 : Try.prog.cellsOf 4 = 1 := by kernel_rfl
    have hel' : ∀ i, i < m → ∃ cs', W.cells? 0 (x.add (i * 5)) 5 = some cs' ∧ DataW.trod enc Try.prog W 0 (fun _ => true) true n 53 cs' = some (D i, Pl i) := by rw [hc5] at hel; exact hel
    clear hel
    have one : ∀ i, i < len → ∃ v : OpV, (∃ b o, x = ⟨b, o, none⟩ ∧ OpOk W b (o + i * 5) v) ∧
        ∃ x0 x1 x2 x3 x4, D i = .agg [x0, x1, x2, x3, x4] ∧ (x3 = .nil ∧ v.bc = 0 ∨ ∃ e4 s4, x3 = .slice e4 s4 ∧ e4.length + s4.length = v.bc) := by
      intro i hi
      obtain ⟨cs', hcs', htr⟩ := hel' i (by omega)
      obtain ⟨_, hlen, hcell⟩ := World.cells?_some hcs'
      obtain ⟨xs, n', _, hxx, _, hxl, hfs⟩ := DataW.trod_struct Try.underlying53 htr
      obtain ⟨v0, v1, v2, v3, v4, rfl⟩ := five hlen
      obtain ⟨y0, y1, y2, y3, y4, rfl⟩ := five (l := xs) (by simpa using hxl)
      have f0 : DataW.trod enc Try.prog W 0 (fun _ => true) true n' 3 (([v0, v1, v2, v3, v4].drop 0).take (Try.prog.cellsOf 3)) = some y0 := hfs 0 _ rfl
      have f1 : DataW.trod enc Try.prog W 0 (fun _ => true) true n' 35 (([v0, v1, v2, v3, v4].drop 1).take (Try.prog.cellsOf 35)) = some y1 := hfs 1 _ rfl
      have f2 : DataW.trod enc Try.prog W 0 (fun _ => true) true n' 3 (([v0, v1, v2, v3, v4].drop 2).take (Try.prog.cellsOf 3)) = some y2 := hfs 2 _ rfl
      have f3 : DataW.trod enc Try.prog W 0 (fun _ => true) true n' 22 (([v0, v1, v2, v3, v4].drop 3).take (Try.prog.cellsOf 22)) = some y3 := hfs 3 _ rfl
      have f4 : DataW.trod enc Try.prog W 0 (fun _ => true) true n' 4 (([v0, v1, v2, v3, v4].drop 4).take (Try.prog.cellsOf 4)) = some y4 := hfs 4 _ rfl
      rw [h1] at f0 f2
      rw [h2] at f1
      rw [h3] at f3
      rw [h4] at f4
      obtain ⟨k0, e0, _, w0⟩ := DataW.trod_int Try.underlying3 (x := y0) f0
      obtain ⟨k1, e1, _, w1⟩ := DataW.trod_int Try.underlying35 (x := y1) f1
      obtain ⟨k2, e2, _, w2⟩ := DataW.trod_int Try.underlying3 (x := y2) f2
      obtain ⟨ba, bl, bc, bz, e3, hs, hn, hu, hd⟩ := bytes_of (x := y3) f3
      obtain ⟨k4, e4, _⟩ := DataW.trod_bool Try.underlying4 (x := y4) f4
      simp at e0 e1 e2 e3 e4
      subst e0 e1 e2 e3 e4
      have c0 := hcell 0 (by omega)
      have c1 := hcell 1 (by omega)
      have c2 := hcell 2 (by omega)
      have c3 := hcell 3 (by omega)
      have c4 := hcell 4 (by omega)
      rw [Deep.add_add] at c0 c1 c2 c3 c4
      obtain ⟨b, o, spot⟩ := x
      have hsp : spot = none := by
        obtain ⟨cs0, hcs0, _⟩ := hel' 0 (by omega)
        obtain ⟨_, hl0, hc0⟩ := World.cells?_some hcs0
        have := hc0 0 (by omega)
        obtain ⟨u, hu⟩ : ∃ u, cs0[0]? = some u := ⟨cs0[0], by simp [hl0]⟩
        rw [hu] at this
        simpa [Addr.add] using World.cell?_spot this
      subst hsp
      rw [Addr.add_lit] at c0 c1 c2 c3 c4
      refine ⟨⟨k0, k1, k2, ba, bl, bc, bz, k4⟩, ⟨b, o, rfl, ?_⟩, y0.1, y1.1, y2.1, y3.1, y4.1, ?_, hd⟩
      · exact ⟨by simpa using c0, by simpa [Nat.add_assoc] using c1, by simpa [Nat.add_assoc] using c2, by simpa [Nat.add_assoc] using c3, by simpa [Nat.add_assoc] using c4, wf_i64 w0, wf_u64 w1, wf_i64 w2, hs, hn, hu⟩
      · have := congrArg (fun q : DataW H × List MemPlace => q.1) hxx
        simpa using this
    obtain ⟨ops, hops⟩ := Deep.choose_lt (α := OpV) one
    refine ⟨ops, ⟨hl, hm, fun i hi => ?_⟩, (fun e => by cases e), .inr ⟨_, _, hx.1, by simp, fun i hi => ?_⟩⟩
    · obtain ⟨⟨b, o, rfl, hk⟩, _⟩ := hops i hi
      exact ⟨b, o, rfl, hk⟩
    · obtain ⟨_, x0, x1, x2, x3, x4, hD, hd⟩ := hops i hi
      exact ⟨x0, x1, x2, x3, x4, by simp [hi, hD], hd⟩
end Go.Proofs.Ytgkbkkhlnidigaa
