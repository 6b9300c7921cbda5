/- DaA DictAnswers, laid as one. -/
import Derived.Test.YtjgcmnppiaikcaaDlW
import Derived.Test.YtjgcmnppiaikcaaDlP
import Derived.Test.YtjgcmnppiaikcaaDlZ
import Derived.Test.YtjgcmnppiaikcaaDkZ
import Derived.Test.YtjgcmnppiaikcaaSlB
import Derived.Test.YtjgcmnppiaikcaaDkR
import Derived.Test.YtjgcmnppiaikcaaHe
set_option linter.unusedVariables false
set_option linter.unusedSimpArgs false
/- DictAnswers: the arrays of the statement's own, the dictionaries that they hold. -/
namespace Go.Proofs.Ytjgcmnppiaikcaa
open Go.RowKit Go.Tk
/-- No cell of a row is a byte. -/
def NoU8 (x : Array Value) : Prop := ∀ (o : Nat) (k : Int), x[o]? ≠ some (.int .u8 k)
theorem NoU8.set {x : Array Value} (h : NoU8 x) (i : Nat) {v : Value} (hv : ∀ k, v ≠ .int .u8 k) : NoU8 (x.setIfInBounds i v) := by
  intro o k e
  rw [Array.getElem?_setIfInBounds] at e
  split at e
  · split at e
    · exact hv k (Option.some.inj e)
    · cases e
  · exact h o k e
theorem noU8_two {u v : Value} (hu : ∀ k, u ≠ .int .u8 k) (hv : ∀ k, v ≠ .int .u8 k) : NoU8 #[u, v] := by
  intro o k e
  match o, e with
  | 0, e => exact hu k (Option.some.inj e)
  | 1, e => exact hv k (Option.some.inj e)
  | o + 2, e => simp at e
/-- The five arrays of the statement's own. -/
structure AR (w0 W : World) (b : Nat) (x9 x10 x11 x12 x13 : Array Value) : Prop where
  r9 : W.heap[b]? = some (.cells x9 37 (0, 0))
  r10 : W.heap[b + 1]? = some (.cells x10 39 (0, 0))
  r11 : W.heap[b + 2]? = some (.cells x11 39 (0, 0))
  r12 : W.heap[b + 3]? = some (.cells x12 40 (0, 0))
  r13 : W.heap[b + 4]? = some (.cells x13 40 (0, 0))
  n10 : NoU8 x10
  n11 : NoU8 x11
  n12 : NoU8 x12
  n13 : NoU8 x13
  bl : Below w0.heap.size w0 W
  bb : w0.heap.size ≤ b
theorem AR.below {w0 W W' b x9 x10 x11 x12 x13} (h : AR w0 W b x9 x10 x11 x12 x13) (hb : Below W.heap.size W W') : AR w0 W' b x9 x10 x11 x12 x13 :=
  ⟨(hb.block _ (lt_of_block h.r9)).trans h.r9, (hb.block _ (lt_of_block h.r10)).trans h.r10, (hb.block _ (lt_of_block h.r11)).trans h.r11, (hb.block _ (lt_of_block h.r12)).trans h.r12, (hb.block _ (lt_of_block h.r13)).trans h.r13, h.n10, h.n11, h.n12, h.n13, h.bl.trans (hb.mono h.bl.size), h.bb⟩
theorem AR.s13 {w0 W b x9 x10 x11 x12 x13} (h : AR w0 W b x9 x10 x11 x12 x13) (i : Nat) {v : Value} (hv : ∀ k, v ≠ .int .u8 k) : AR w0 (W.setCell ⟨b + 4, i, none⟩ v) b x9 x10 x11 x12 (x13.setIfInBounds i v) :=
  ⟨(heap_setCell_other _ _ _ _ (by simp)).trans h.r9, (heap_setCell_other _ _ _ _ (by simp)).trans h.r10, (heap_setCell_other _ _ _ _ (by simp)).trans h.r11, (heap_setCell_other _ _ _ _ (by simp)).trans h.r12, heap_setCell_same W _ i _ _ _ h.r13, h.n10, h.n11, h.n12, h.n13.set i hv, h.bl.setCell (p := ⟨b + 4, i, none⟩) (by have := h.bb; simp only; omega) v, h.bb⟩
theorem AR.s12 {w0 W b x9 x10 x11 x12 x13} (h : AR w0 W b x9 x10 x11 x12 x13) (i : Nat) {v : Value} (hv : ∀ k, v ≠ .int .u8 k) : AR w0 (W.setCell ⟨b + 3, i, none⟩ v) b x9 x10 x11 (x12.setIfInBounds i v) x13 :=
  ⟨(heap_setCell_other _ _ _ _ (by simp)).trans h.r9, (heap_setCell_other _ _ _ _ (by simp)).trans h.r10, (heap_setCell_other _ _ _ _ (by simp)).trans h.r11, heap_setCell_same W _ i _ _ _ h.r12, (heap_setCell_other _ _ _ _ (by simp)).trans h.r13, h.n10, h.n11, h.n12.set i hv, h.n13, h.bl.setCell (p := ⟨b + 3, i, none⟩) (by have := h.bb; simp only; omega) v, h.bb⟩
theorem AR.s10 {w0 W b x9 x10 x11 x12 x13} (h : AR w0 W b x9 x10 x11 x12 x13) (i : Nat) {v : Value} (hv : ∀ k, v ≠ .int .u8 k) : AR w0 (W.setCell ⟨b + 1, i, none⟩ v) b x9 (x10.setIfInBounds i v) x11 x12 x13 :=
  ⟨(heap_setCell_other _ _ _ _ (by simp)).trans h.r9, heap_setCell_same W _ i _ _ _ h.r10, (heap_setCell_other _ _ _ _ (by simp)).trans h.r11, (heap_setCell_other _ _ _ _ (by simp)).trans h.r12, (heap_setCell_other _ _ _ _ (by simp)).trans h.r13, h.n10.set i hv, h.n11, h.n12, h.n13, h.bl.setCell (p := ⟨b + 1, i, none⟩) (by have := h.bb; simp only; omega) v, h.bb⟩
theorem AR.s11 {w0 W b x9 x10 x11 x12 x13} (h : AR w0 W b x9 x10 x11 x12 x13) (i : Nat) {v : Value} (hv : ∀ k, v ≠ .int .u8 k) : AR w0 (W.setCell ⟨b + 2, i, none⟩ v) b x9 x10 (x11.setIfInBounds i v) x12 x13 :=
  ⟨(heap_setCell_other _ _ _ _ (by simp)).trans h.r9, (heap_setCell_other _ _ _ _ (by simp)).trans h.r10, heap_setCell_same W _ i _ _ _ h.r11, (heap_setCell_other _ _ _ _ (by simp)).trans h.r12, (heap_setCell_other _ _ _ _ (by simp)).trans h.r13, h.n10, h.n11.set i hv, h.n12, h.n13, h.bl.setCell (p := ⟨b + 2, i, none⟩) (by have := h.bb; simp only; omega) v, h.bb⟩
theorem sl_keptT {S : Nat → Prop} {w w' : World} {a : Option Addr} {n c : Nat} {zs : List Int} (h : SlI .u8 w a n c zs) (hk : Kept S w w') (hS : ∀ j, S j → ∀ (o : Nat) (k : Int), w.cell? ⟨j, o, none⟩ ≠ some (.int .u8 k)) : SlI .u8 w' a n c zs :=
  ⟨h.len, h.le, h.max, fun i hi => by
    obtain ⟨b, o, e, hc⟩ := h.cell i hi
    exact ⟨b, o, e, hk.cell hc (fun hs => hS b hs _ _ hc)⟩⟩
theorem DictM.keptT {S : Nat → Prop} {w w' : World} {gd n wd : Nat} {pa : Option Addr} {pc : Nat} {pz : List Int} {ea : Option Addr} {ec : Nat} {ez : List Int} (h : DictM w gd n wd pa pc pz ea ec ez) (hk : Kept S w w') (hgd : ¬ S gd) (hS : ∀ j, S j → ∀ (o : Nat) (k : Int), w.cell? ⟨j, o, none⟩ ≠ some (.int .u8 k)) : DictM w' gd n wd pa pc pz ea ec ez :=
  ⟨(hk.block gd (lt_of_block h.row) hgd).trans h.row, sl_keptT h.ps hk hS, sl_keptT h.es hk hS, h.en, (fun x hx => Nat.lt_of_lt_of_le (h.ebk x hx) hk.size), h.pu, h.eu, h.nN, h.eN, h.wN, h.pN⟩
/-- One dictionary, opened and seen. -/
structure VD (b : Nat) (W : World) (R : List (List UInt8)) (bs : List UInt8) (go gv gs : Nat) (aw : Option Addr) (cw : Nat) : Prop where
  vo : ∃ pa pc ea ec, DictM W gv R.length (widthD R).toNat pa pc (packD R) ea ec (nums (hdE bs))
  vs : ∃ pa pc ea ec, DictM W gs R.length (widthD R).toNat pa pc (packD R) ea ec (nums (hdE bs))
  ro : RowI .u8 5 W go (nums bs ++ [171, 172])
  sw : SlI .u8 W aw bs.length cw (nums bs)
  o1 : b + 5 ≤ go
  o2 : b + 5 ≤ gv
  o3 : b + 5 ≤ gs
theorem row_keptS {S : Nat → Prop} {k : IntKind} {e : TypeId} {w w' : World} {g : Nat} {zs : List Int} (h : RowI k e w g zs) (hk : Kept S w w') (hne : ¬ S g) : RowI k e w' g zs := (hk.block g h.lt hne).trans h
theorem VD.kept {S : Nat → Prop} {b W W' R bs go gv gs aw cw} (h : VD b W R bs go gv gs aw cw) (hk : Kept S W W') (hS : ∀ j, S j → j < b + 5 ∧ ∀ (o : Nat) (k : Int), W.cell? ⟨j, o, none⟩ ≠ some (.int .u8 k)) : VD b W' R bs go gv gs aw cw := by
  obtain ⟨pa, pc, ea, ec, ho⟩ := h.vo
  obtain ⟨pa', pc', ea', ec', hs⟩ := h.vs
  have hS2 := fun j hj => (hS j hj).2
  exact ⟨⟨pa, pc, ea, ec, ho.keptT hk (fun e => by have := (hS _ e).1; have := h.o2; omega) hS2⟩, ⟨pa', pc', ea', ec', hs.keptT hk (fun e => by have := (hS _ e).1; have := h.o3; omega) hS2⟩, row_keptS h.ro hk (fun e => by have := (hS _ e).1; have := h.o1; omega), sl_keptT h.sw hk hS2, h.o1, h.o2, h.o3⟩
theorem VD.below {b W W' R bs go gv gs aw cw} (h : VD b W R bs go gv gs aw cw) (hb : Below W.heap.size W W') : VD b W' R bs go gv gs aw cw := h.kept (Kept.none_of_below hb) (fun _ e => False.elim e)
theorem kept_setA {w : World} (g i : Nat) (v : Value) : Kept (fun j => j = g) w (w.setCell ⟨g, i, none⟩ v) := Kept.setCell (Kept.refl (fun j => j = g) w) (p := ⟨g, i, none⟩) (.inl rfl) v
theorem row_noU8 {W : World} {g : Nat} {x : Array Value} {t : TypeId} (h : W.heap[g]? = some (.cells x t (0, 0))) (hx : NoU8 x) (o : Nat) (k : Int) : W.cell? ⟨g, o, none⟩ ≠ some (.int .u8 k) := by
  rw [cell_of_row W g o _ _ _ h]; exact hx o k
theorem VD.set1 {w0 b W x9 x10 x11 x12 x13 R bs go gv gs aw cw} (h : VD b W R bs go gv gs aw cw) (ha : AR w0 W b x9 x10 x11 x12 x13) (i : Nat) (v : Value) : VD b (W.setCell ⟨b + 1, i, none⟩ v) R bs go gv gs aw cw :=
  h.kept (kept_setA (b + 1) i v) (fun j e => ⟨by omega, by rw [e]; exact row_noU8 ha.r10 ha.n10⟩)
theorem VD.set2 {w0 b W x9 x10 x11 x12 x13 R bs go gv gs aw cw} (h : VD b W R bs go gv gs aw cw) (ha : AR w0 W b x9 x10 x11 x12 x13) (i : Nat) (v : Value) : VD b (W.setCell ⟨b + 2, i, none⟩ v) R bs go gv gs aw cw :=
  h.kept (kept_setA (b + 2) i v) (fun j e => ⟨by omega, by rw [e]; exact row_noU8 ha.r11 ha.n11⟩)
theorem VD.set3 {w0 b W x9 x10 x11 x12 x13 R bs go gv gs aw cw} (h : VD b W R bs go gv gs aw cw) (ha : AR w0 W b x9 x10 x11 x12 x13) (i : Nat) (v : Value) : VD b (W.setCell ⟨b + 3, i, none⟩ v) R bs go gv gs aw cw :=
  h.kept (kept_setA (b + 3) i v) (fun j e => ⟨by omega, by rw [e]; exact row_noU8 ha.r12 ha.n12⟩)
theorem VD.set4 {w0 b W x9 x10 x11 x12 x13 R bs go gv gs aw cw} (h : VD b W R bs go gv gs aw cw) (ha : AR w0 W b x9 x10 x11 x12 x13) (i : Nat) (v : Value) : VD b (W.setCell ⟨b + 4, i, none⟩ v) R bs go gv gs aw cw :=
  h.kept (kept_setA (b + 4) i v) (fun j e => ⟨by omega, by rw [e]; exact row_noU8 ha.r13 ha.n13⟩)
theorem fz_row {W : World} {g i : Nat} {x : Array Value} {t : TypeId} (h : W.heap[g]? = some (.cells x t (0, 0))) : W.frozen? ⟨g, i, none⟩ = false := frozen_of_row W g i _ _ h
theorem own_slA {w : World} {g n : Nat} {z : List Int} (h : RowI .u8 5 w g (z ++ [171, 172])) (hn : z.length = n) (hb : n ≤ 140737488351232) : SlI .u8 w (some ⟨g, 0, none⟩) n (n + 2) z := by
  have := h.sl n (n + 2) (by simp; omega) (by simp; omega) (by omega)
  have e : (z ++ [171, 172]).take n = z := by subst hn; simp
  rw [e] at this
  exact this
/-- Open and View of what Build made. -/
theorem open_good (W : World) (a : Option Addr) (c : Nat) (R : List (List UInt8)) (hG : Good R) (bs : List UInt8) (hb : nums bs = dictB R) (hs : SlI .u8 W a bs.length c (nums bs)) (hn : a = none → c = 0) (ha : ∀ x, a = some x → x.block < W.heap.size) :
    Calls Try.prog 18 #[.slice a bs.length c] W fun e w' => ∃ gv, e = .returned (.tuple #[.pointer (some ⟨gv, 0, none⟩), .nilIface]) ∧ W.heap.size ≤ gv ∧ (∃ pa pc ea ec, DictM w' gv R.length (widthD R).toNat pa pc (packD R) ea ec (nums (hdE bs))) ∧ Below W.heap.size W w' := by
  have ho := open_built hG hb
  have := open_yes W a c bs hs hn ha (by rw [ho.1])
  refine this.mono ?_
  rintro e w' ⟨hb1, h⟩
  rw [ho.2.1] at h
  rcases h with ⟨h0, _⟩ | ⟨_, gd, pa, pc, ea, ec, h1, h2, h3⟩
  · exact absurd rfl h0
  · rw [ho.2.2.1, ho.2.2.2.1, ho.2.2.2.2.1] at h3
    exact ⟨gd, h2, h1, ⟨pa, pc, ea, ec, h3⟩, hb1⟩
theorem view_good (W : World) (a : Option Addr) (c : Nat) (R : List (List UInt8)) (hG : Good R) (bs : List UInt8) (hb : nums bs = dictB R) (hs : SlI .u8 W a bs.length c (nums bs)) (hn : a = none → c = 0) (ha : ∀ x, a = some x → x.block < W.heap.size) :
    Calls Try.prog 19 #[.slice a bs.length c] W fun e w' => ∃ gv, e = .returned (.tuple #[.pointer (some ⟨gv, 0, none⟩), .nilIface]) ∧ W.heap.size ≤ gv ∧ (∃ pa pc ea ec, DictM w' gv R.length (widthD R).toNat pa pc (packD R) ea ec (nums (hdE bs))) ∧ Below W.heap.size W w' := by
  have ho := open_built hG hb
  have := view_calls W a c bs hs hn ha
  refine this.mono ?_
  rintro e w' ⟨hb1, h⟩
  rw [ho.1] at h
  rcases h with ⟨h0, _⟩ | ⟨_, gd, pa, pc, ea, ec, h1, h2, h3⟩
  · exact absurd rfl h0
  · rw [ho.2.2.1, ho.2.2.2.1, ho.2.2.2.2.1] at h3
    exact ⟨gd, h2, h1, ⟨pa, pc, ea, ec, h3⟩, hb1⟩
end Go.Proofs.Ytjgcmnppiaikcaa
/- DictAnswers: every answer of two dictionaries, by Open and by View. -/
namespace Go.Proofs.Ytjgcmnppiaikcaa
open Go.RowKit Go.Tk
theorem txt_good {R : List (List UInt8)} (hG : Good R) : TxtOk R := fun s hs => by
  obtain ⟨i, hi, rfl⟩ := List.mem_iff_getElem.1 hs
  have := hG.sz i hi
  simp only [List.getD_eq_getElem?_getD, List.getElem?_eq_getElem hi, Option.getD_some] at this
  omega
/-- The document's Build of texts that rise. -/
theorem rbuild_good (W : World) (a : Option Addr) (c : Nat) (R : List (List UInt8)) (hG : Good R) (h : SlS W a R.length c R) (bs : List UInt8) (hb : nums bs = dictB R) :
    Calls Try.prog 12 #[.slice a R.length c, .int .i64 67108864] W fun e w' => ∃ aw cw, e = .returned (.tuple #[.slice aw bs.length cw, .int .i64 0]) ∧ SlI .u8 w' aw bs.length cw (nums bs) ∧ (∀ x, aw = some x → W.heap.size ≤ x.block) ∧ Below W.heap.size W w' := by
  have := rbuild_calls W a R.length c R h (txt_good hG) hG.tt 67108864 ⟨by decide, by decide⟩
  rw [(build_good hG).1, (build_good hG).2] at this
  refine this.mono ?_
  rintro e w' ⟨v, rfl, how, hbw⟩
  obtain ⟨aw, cw, rfl, hs, hl⟩ := how.sl
  rw [← hb, nums_len] at hs ⊢
  exact ⟨aw, cw, rfl, hs, fun x hx => (hl x hx).1, hbw⟩
set_option maxRecDepth 100000 in
set_option maxHeartbeats 16000000 in
theorem danswers_go (w : World) (a0 : Option Addr) (n0 c0 : Nat) (L0 : List (List UInt8)) (h0 : SlS w a0 n0 c0 L0) (t0 : TxtOk L0) (a1 : Option Addr) (n1 c1 : Nat) (L1 : List (List UInt8)) (h1 : SlS w a1 n1 c1 L1) (t1 : TxtOk L1)
    (a2 : Option Addr) (n2 c2 : Nat) (asks : Nat → AskV) (h2 : AsksAt w a2 n2 c2 asks) (a3 : Option Addr) (n3 c3 : Nat) (l3 : List Bool) (h3 : SlB w a3 n3 c3 l3) :
    Calls Try.prog 4 #[.slice a0 n0 c0, .slice a1 n1 c1, .slice a2 n2 c2, .slice a3 n3 c3] w fun e w' => e = .returned (.bool true) ∧ Below w.heap.size w w' := by
  have H0 := Lib.hid h0
  have H1 := Lib.hid h1
  have H2 := Lib.hid h2
  have H3 := Lib.hid h3
  have HT0 := Lib.hid t0
  have HT1 := Lib.hid t1
  have HL0 := Lib.hid h0.len
  have HL1 := Lib.hid h1.len
  clear h0 h1 h2 h3 t0 t1
  cases hf0 : fewB L0 with
  | false =>
    have HF0 := Lib.hid hf0
    clear hf0
    go_enter Try.func4, Try.ntmps4
    go_wp2_with (go_at_call 10; (with_reducible refine (few_calls _ _ _ _ _ H0.out HT0.out).mono ?_); rintro e w2 ⟨rfl, hw2⟩; subst w2; rw [HF0.out])
    go_ret
    exact ⟨rfl, Below.refl _ _⟩
  | true =>
  cases hf1 : fewB L1 with
  | false =>
    have HF0 := Lib.hid hf0
    have HF1 := Lib.hid hf1
    clear hf0 hf1
    go_enter Try.func4, Try.ntmps4
    go_wp2_with (first
      | (go_at_call 10; (with_reducible refine (few_calls w a0 _ _ _ H0.out HT0.out).mono ?_); rintro e w2 ⟨rfl, hw2⟩; subst w2; rw [HF0.out])
      | (go_at_call 10; (with_reducible refine (few_calls w a1 _ _ _ H1.out HT1.out).mono ?_); rintro e w2 ⟨rfl, hw2⟩; subst w2; rw [HF1.out]))
    go_ret
    exact ⟨rfl, Below.refl _ _⟩
  | true =>
  have hG0 : Good (risN L0 n0) := by rw [← HL0.out]; exact ris_Good (of_decide_eq_true hf0)
  have hG1 : Good (risN L1 n1) := by rw [← HL1.out]; exact ris_Good (of_decide_eq_true hf1)
  have hn0 : n0 ≤ 2000000 := by rw [← HL0.out]; have := tot_len L0; have : tot L0 ≤ 2000000 := of_decide_eq_true hf0; omega
  have hn1 : n1 ≤ 2000000 := by rw [← HL1.out]; have := tot_len L1; have : tot L1 ≤ 2000000 := of_decide_eq_true hf1; omega
  have HRI0 := Lib.hid (rising_calls w a0 n0 c0 L0 H0.out HT0.out hn0)
  have HRI1 := Lib.hid (fun W (hb : Below w.heap.size w W) => rising_calls W a1 n1 c1 L1 (H1.out.keep hb) HT1.out hn1)
  obtain ⟨R0, hR0⟩ : ∃ R, R = risN L0 n0 := ⟨_, rfl⟩
  obtain ⟨R1, hR1⟩ : ∃ R, R = risN L1 n1 := ⟨_, rfl⟩
  rw [← hR0] at hG0 HRI0
  rw [← hR1] at hG1
  simp only [← hR1] at HRI1
  have HG0 := Lib.hid hG0
  have HG1 := Lib.hid hG1
  have HF0 := Lib.hid hf0
  have HF1 := Lib.hid hf1
  clear hG0 hG1 hf0 hf1 hR0 hR1
  go_enter Try.func4, Try.ntmps4
  go_upto_region 3 with (first
    | (go_at_call 10; (with_reducible refine (few_calls w a0 _ _ _ H0.out HT0.out).mono ?_); rintro e wz ⟨rfl, hwz⟩; subst wz; rw [HF0.out])
    | (go_at_call 10; (with_reducible refine (few_calls w a1 _ _ _ H1.out HT1.out).mono ?_); rintro e wz ⟨rfl, hwz⟩; subst wz; rw [HF1.out]))
  go_wp2_with (first
    | (go_at_call 16; (with_reducible refine HRI0.out.mono ?_); rintro e w1 ⟨v0, rfl, how, hb1⟩; obtain ⟨ra0, rc0, rfl, hrs⟩ := OwL.toS how; (have HRS0 := Lib.hid hrs); (have HB1 := Lib.hid hb1); clear how hrs hb1)
    | (go_at_call 16; (with_reducible refine (HRI1.out w1 HB1.out).mono ?_); rintro e w2 ⟨v1, rfl, how, hb2⟩; obtain ⟨ra1, rc1, rfl, hrs⟩ := OwL.toS how; (have HRS1 := Lib.hid hrs); (have HRS0' := Lib.hid (HRS0.out.keep hb2)); (have HB2 := Lib.hid (HB1.out.trans (hb2.mono HB1.out.size))); clear how hrs hb2))
  have ha : AR w2 (((((w2.alloc (.cells #[.slice ra0 R0.length rc0, .slice ra1 R1.length rc1] 37)).alloc (.cells #[.pointer none, .pointer none] 39)).alloc (.cells #[.pointer none, .pointer none] 39)).alloc (.cells #[.slice none 0 0, .slice none 0 0] 40)).alloc (.cells #[.slice none 0 0, .slice none 0 0] 40)) w2.heap.size #[.slice ra0 R0.length rc0, .slice ra1 R1.length rc1] #[.pointer none, .pointer none] #[.pointer none, .pointer none] #[.slice none 0 0, .slice none 0 0] #[.slice none 0 0, .slice none 0 0] := by
    refine ⟨?_, ?_, ?_, ?_, ?_, noU8_two (fun k e => by cases e) (fun k e => by cases e), noU8_two (fun k e => by cases e) (fun k e => by cases e), noU8_two (fun k e => by cases e) (fun k e => by cases e), noU8_two (fun k e => by cases e) (fun k e => by cases e), ?_, Nat.le_refl _⟩
    · exact (Below.heap_alloc _ _ _ (by simp <;> omega)).trans ((Below.heap_alloc _ _ _ (by simp <;> omega)).trans ((Below.heap_alloc _ _ _ (by simp <;> omega)).trans ((Below.heap_alloc _ _ _ (by simp <;> omega)).trans (heap_alloc_new _ _))))
    · refine (Below.heap_alloc _ _ _ (by simp <;> omega)).trans ((Below.heap_alloc _ _ _ (by simp <;> omega)).trans ((Below.heap_alloc _ _ _ (by simp <;> omega)).trans ?_))
      have := heap_alloc_new (w2.alloc (.cells #[.slice ra0 R0.length rc0, .slice ra1 R1.length rc1] 37)) (.cells #[.pointer none, .pointer none] 39)
      simpa using this
    · refine (Below.heap_alloc _ _ _ (by simp <;> omega)).trans ((Below.heap_alloc _ _ _ (by simp <;> omega)).trans ?_)
      have := heap_alloc_new ((w2.alloc (.cells #[.slice ra0 R0.length rc0, .slice ra1 R1.length rc1] 37)).alloc (.cells #[.pointer none, .pointer none] 39)) (.cells #[.pointer none, .pointer none] 39)
      simpa [Nat.add_assoc] using this
    · refine (Below.heap_alloc _ _ _ (by simp <;> omega)).trans ?_
      have := heap_alloc_new (((w2.alloc (.cells #[.slice ra0 R0.length rc0, .slice ra1 R1.length rc1] 37)).alloc (.cells #[.pointer none, .pointer none] 39)).alloc (.cells #[.pointer none, .pointer none] 39)) (.cells #[.slice none 0 0, .slice none 0 0] 40)
      simpa [Nat.add_assoc] using this
    · have := heap_alloc_new ((((w2.alloc (.cells #[.slice ra0 R0.length rc0, .slice ra1 R1.length rc1] 37)).alloc (.cells #[.pointer none, .pointer none] 39)).alloc (.cells #[.pointer none, .pointer none] 39)).alloc (.cells #[.slice none 0 0, .slice none 0 0] 40)) (.cells #[.slice none 0 0, .slice none 0 0] 40)
      simpa [Nat.add_assoc] using this
    · exact (((((Below.refl _ w2).alloc (Nat.le_refl _) _).alloc (by simp) _).alloc (by simp; omega) _).alloc (by simp; omega) _).alloc (by simp; omega) _
  have hwl : (((((w2.alloc (.cells #[.slice ra0 R0.length rc0, .slice ra1 R1.length rc1] 37)).alloc (.cells #[.pointer none, .pointer none] 39)).alloc (.cells #[.pointer none, .pointer none] 39)).alloc (.cells #[.slice none 0 0, .slice none 0 0] 40)).alloc (.cells #[.slice none 0 0, .slice none 0 0] 40)).heap.size = w2.heap.size + 5 := by simp
  simp only [Nat.add_assoc, Nat.reduceAdd]
  generalize (((((w2.alloc (.cells #[.slice ra0 R0.length rc0, .slice ra1 R1.length rc1] 37)).alloc (.cells #[.pointer none, .pointer none] 39)).alloc (.cells #[.pointer none, .pointer none] 39)).alloc (.cells #[.slice none 0 0, .slice none 0 0] 40)).alloc (.cells #[.slice none 0 0, .slice none 0 0] 40)) = V0 at ha hwl ⊢
  generalize hb9 : w2.heap.size = b at ha hwl ⊢
  have HB9 := Lib.hid hb9
  clear hb9
  have HA0 := Lib.hid ha
  have hsz0 : b + 5 ≤ V0.heap.size := by omega
  have hl0 : R0.length ≤ 2000000 := Nat.le_trans (tot_len R0) HG0.out.tt
  have hl1 : R1.length ≤ 2000000 := Nat.le_trans (tot_len R1) HG1.out.tt
  obtain ⟨bs0, hbs0⟩ := bytes_of (dictB_u8 HG0.out)
  obtain ⟨bs1, hbs1⟩ := bytes_of (dictB_u8 HG1.out)
  have hbl0 : bs0.length ≤ 67108864 := by have := dictB_len HG0.out; rw [← hbs0, nums_len] at this; exact this
  have hbl1 : bs1.length ≤ 67108864 := by have := dictB_len HG1.out; rw [← hbs1, nums_len] at this; exact this
  have HBS0 := Lib.hid hbs0
  have HBS1 := Lib.hid hbs1
  clear ha hwl HRI0 HRI1 HRS0 HB1 hbs0 hbs1
  refine wp_loop_rounds 3 ?_
  rw [rounds_succ]
  have k90 : V0.cell? ⟨b, 0, none⟩ = some (.slice ra0 R0.length rc0) := cell_of_row V0 b 0 _ _ _ HA0.out.r9
  have HRB0 := Lib.hid (rbuild_good V0 ra0 rc0 R0 HG0.out (HRS0'.out.keep HA0.out.bl) bs0 HBS0.out)
  go_upto_region 12 with (go_at_call 12; (with_reducible refine HRB0.out.mono ?_); rintro e Ww0 ⟨aw0, cw0, rfl, hsw, hown, hb⟩; (have HSW0 := Lib.hid hsw); (have HOW0 := Lib.hid hown); (have HBB0 := Lib.hid hb); clear hsw hown hb)
  have haw0 : AR w2 Ww0 b (#[.slice ra0 R0.length rc0, .slice ra1 R1.length rc1]) (#[.pointer none, .pointer none]) (#[.pointer none, .pointer none]) (#[.slice none 0 0, .slice none 0 0]) (#[.slice none 0 0, .slice none 0 0]) := HA0.out.below HBB0.out
  have k130 := cell_of_row Ww0 (b + 4) 0 _ _ _ haw0.r13
  have f130 := fz_row (i := 0) haw0.r13
  have HAW0 := Lib.hid haw0
  have hzw0 := HBB0.out.size
  
  clear haw0 k90
  go_upto_region 13 with fail
  have hd0 : AR w2 (Ww0.setCell ⟨b + 4, 0, none⟩ (.slice aw0 bs0.length cw0)) b (#[.slice ra0 R0.length rc0, .slice ra1 R1.length rc1]) (#[.pointer none, .pointer none]) (#[.pointer none, .pointer none]) (#[.slice none 0 0, .slice none 0 0]) (#[.slice aw0 bs0.length cw0, .slice none 0 0]) := HAW0.out.s13 0 (fun k e => by cases e)
  have hsd0 := sl_keptT HSW0.out (kept_setA (w := Ww0) (b + 4) 0 (.slice aw0 bs0.length cw0)) (fun j e => by rw [e]; exact row_noU8 HAW0.out.r13 HAW0.out.n13)
  have hszd0 : b + 5 ≤ (Ww0.setCell ⟨b + 4, 0, none⟩ (.slice aw0 bs0.length cw0)).heap.size := by simp; omega
  
  generalize Ww0.setCell ⟨b + 4, 0, none⟩ (.slice aw0 bs0.length cw0) = Wd0 at hd0 hsd0 hszd0  ⊢
  have HD0 := Lib.hid hd0
  have HSD0 := Lib.hid hsd0
  
  have HLT0 := Lib.hid (lentD_calls Wd0 aw0 bs0.length cw0 (nums bs0) hsd0 (by omega))
  clear k130 f130 HAW0 HSW0 HOW0 HBB0 HRB0 hd0 hsd0 
  go_upto_region 14 with (go_at_call 17; (with_reducible refine HLT0.out.mono ?_); rintro e Wl0 ⟨rfl, hf⟩; (have HF0 := Lib.hid hf); (have HL0' := Lib.hid (HD0.out.below hf.below)); (have k120 := cell_of_row Wl0 (b + 3) 0 _ _ _ HL0'.out.r12); (have f120 := fz_row (i := 0) HL0'.out.r12); (have HSL0 := Lib.hid (HSD0.out.keep hf.below)); clear hf)
  have hvl0 : AR w2 (Wl0.setCell ⟨b + 3, 0, none⟩ (.slice (some ⟨Wd0.heap.size, 0, none⟩) bs0.length (bs0.length + 2))) b (#[.slice ra0 R0.length rc0, .slice ra1 R1.length rc1]) (#[.pointer none, .pointer none]) (#[.pointer none, .pointer none]) (#[.slice (some ⟨Wd0.heap.size, 0, none⟩) bs0.length (bs0.length + 2), .slice none 0 0]) (#[.slice aw0 bs0.length cw0, .slice none 0 0]) := HL0'.out.s12 0 (fun k e => by cases e)
  have hno0 : ∀ j, j = b + 3 → ∀ (o : Nat) (k : Int), Wl0.cell? ⟨j, o, none⟩ ≠ some (.int .u8 k) := fun j e => by rw [e]; exact row_noU8 HL0'.out.r12 HL0'.out.n12
  have hro0 := row_keptS HF0.out.row (kept_setA (w := Wl0) (b + 3) 0 (.slice (some ⟨Wd0.heap.size, 0, none⟩) bs0.length (bs0.length + 2))) (by omega)
  have hso0 := sl_keptT HSL0.out (kept_setA (w := Wl0) (b + 3) 0 (.slice (some ⟨Wd0.heap.size, 0, none⟩) bs0.length (bs0.length + 2))) hno0
  
  clear HF0 HL0' k120 f120 HLT0 HD0 HSD0 HSL0 hno0 
  generalize Wl0.setCell ⟨b + 3, 0, none⟩ (.slice (some ⟨Wd0.heap.size, 0, none⟩) bs0.length (bs0.length + 2)) = Wo0 at hvl0 hro0 hso0  ⊢
  generalize Wd0.heap.size = go0 at hvl0 hro0 hszd0  ⊢
  have HVL0 := Lib.hid hvl0
  have HRO0 := Lib.hid hro0
  have HSO0 := Lib.hid hso0
  
  have hown0 := own_slA hro0 (nums_len bs0) (by omega)
  have k120 : Wo0.cell? ⟨b + 3, 0, none⟩ = some (.slice (some ⟨go0, 0, none⟩) bs0.length (bs0.length + 2)) := cell_of_row Wo0 (b + 3) 0 _ _ _ hvl0.r12
  have HOP0 := Lib.hid (open_good Wo0 (some ⟨go0, 0, none⟩) (bs0.length + 2) R0 HG0.out bs0 HBS0.out hown0 (fun e => by cases e) (fun x hx => by cases hx; exact hro0.lt))
  have HOWN0 := Lib.hid hown0
  have hszo0 := HRO0.out.lt
  clear hvl0 hro0 hso0 hown0 
  go_upto_region 15 with (go_at_call 18; (with_reducible refine HOP0.out.mono ?_); rintro e Wq0 ⟨gv0, rfl, hgv0, hvq, hb⟩; (have HQ0 := Lib.hid hvq); (have HBQ0 := Lib.hid hb); clear hvq hb)
  have haq0 := HVL0.out.below HBQ0.out
  have hownq0 := HOWN0.out.keep HBQ0.out
  clear k120
  have k120 : Wq0.cell? ⟨b + 3, 0, none⟩ = some (.slice (some ⟨go0, 0, none⟩) bs0.length (bs0.length + 2)) := cell_of_row Wq0 (b + 3) 0 _ _ _ haq0.r12
  have HAQ0 := Lib.hid haq0
  have hszq0 := HBQ0.out.size
  have HVW0 := Lib.hid (view_good Wq0 (some ⟨go0, 0, none⟩) (bs0.length + 2) R0 HG0.out bs0 HBS0.out hownq0 (fun e => by cases e) (fun x hx => by cases hx; show go0 < _; omega))
  clear haq0 hownq0
  go_upto_region 18 with (go_at_call 19; (with_reducible refine HVW0.out.mono ?_); rintro e Ws0 ⟨gs0, rfl, hgs0, hvs, hb⟩; (have HSS0 := Lib.hid hvs); (have HBS20 := Lib.hid hb); clear hvs hb)
  have has0 := HAQ0.out.below HBS20.out
  have hvr0 : VD b Ws0 R0 bs0 go0 gv0 gs0 aw0 cw0 := ⟨by obtain ⟨pa, pc, ea, ec, h⟩ := HQ0.out; exact ⟨pa, pc, ea, ec, h.keep HBS20.out⟩, HSS0.out, (HRO0.out.below HBQ0.out HRO0.out.lt).below HBS20.out (HRO0.out.below HBQ0.out HRO0.out.lt).lt, (HSO0.out.keep HBQ0.out).keep HBS20.out, hszd0, by omega, by omega⟩
  
  clear k120 HAQ0 HOWN0 HOP0 HVW0 HQ0 HSS0 HRO0 HSO0 HBQ0 HBS20 HVL0 
  have k100 := cell_of_row Ws0 (b + 1) 0 _ _ _ has0.r10
  have f100 := fz_row (i := 0) has0.r10
  have HAS0 := Lib.hid has0
  have HVR0 := Lib.hid hvr0
  
  clear has0 hvr0 
  go_upto_region 19 with fail
  have hat0 : AR w2 (Ws0.setCell ⟨b + 1, 0, none⟩ (.pointer (some ⟨gv0, 0, none⟩))) b (#[.slice ra0 R0.length rc0, .slice ra1 R1.length rc1]) (#[.pointer (some ⟨gv0, 0, none⟩), .pointer none]) (#[.pointer none, .pointer none]) (#[.slice (some ⟨go0, 0, none⟩) bs0.length (bs0.length + 2), .slice none 0 0]) (#[.slice aw0 bs0.length cw0, .slice none 0 0]) := HAS0.out.s10 0 (fun k e => by cases e)
  have hvt0 := HVR0.out.set1 HAS0.out 0 (.pointer (some ⟨gv0, 0, none⟩))
  clear k100 f100 HAS0 HVR0 
  generalize Ws0.setCell ⟨b + 1, 0, none⟩ (.pointer (some ⟨gv0, 0, none⟩)) = Wt0 at hat0 hvt0  ⊢
  have k110 := cell_of_row Wt0 (b + 2) 0 _ _ _ hat0.r11
  have f110 := fz_row (i := 0) hat0.r11
  have HAT0 := Lib.hid hat0
  have HVT0 := Lib.hid hvt0
  
  clear hat0 hvt0 
  go_wp2_with fail
  have hae0 : AR w2 (Wt0.setCell ⟨b + 2, 0, none⟩ (.pointer (some ⟨gs0, 0, none⟩))) b (#[.slice ra0 R0.length rc0, .slice ra1 R1.length rc1]) (#[.pointer (some ⟨gv0, 0, none⟩), .pointer none]) (#[.pointer (some ⟨gs0, 0, none⟩), .pointer none]) (#[.slice (some ⟨go0, 0, none⟩) bs0.length (bs0.length + 2), .slice none 0 0]) (#[.slice aw0 bs0.length cw0, .slice none 0 0]) := HAT0.out.s11 0 (fun k e => by cases e)
  have hve0 := HVT0.out.set2 HAT0.out 0 (.pointer (some ⟨gs0, 0, none⟩))
  clear k110 f110 HAT0 HVT0 
  generalize Wt0.setCell ⟨b + 2, 0, none⟩ (.pointer (some ⟨gs0, 0, none⟩)) = V1 at hae0 hve0  ⊢
  have HA1 := Lib.hid hae0
  have HV0 := Lib.hid hve0
  
  have hsz1 : b + 5 ≤ V1.heap.size := by have := HV0.out.ro.lt; have := HV0.out.o1; omega
  clear hae0 hve0 
  rw [rounds_succ]
  have k91 : V1.cell? ⟨b, 1, none⟩ = some (.slice ra1 R1.length rc1) := cell_of_row V1 b 1 _ _ _ HA1.out.r9
  have HRB1 := Lib.hid (rbuild_good V1 ra1 rc1 R1 HG1.out (HRS1.out.keep HA1.out.bl) bs1 HBS1.out)
  go_upto_region 12 with (go_at_call 12; (with_reducible refine HRB1.out.mono ?_); rintro e Ww1 ⟨aw1, cw1, rfl, hsw, hown, hb⟩; (have HSW1 := Lib.hid hsw); (have HOW1 := Lib.hid hown); (have HBB1 := Lib.hid hb); clear hsw hown hb)
  have haw1 : AR w2 Ww1 b (#[.slice ra0 R0.length rc0, .slice ra1 R1.length rc1]) (#[.pointer (some ⟨gv0, 0, none⟩), .pointer none]) (#[.pointer (some ⟨gs0, 0, none⟩), .pointer none]) (#[.slice (some ⟨go0, 0, none⟩) bs0.length (bs0.length + 2), .slice none 0 0]) (#[.slice aw0 bs0.length cw0, .slice none 0 0]) := HA1.out.below HBB1.out
  have k131 := cell_of_row Ww1 (b + 4) 1 _ _ _ haw1.r13
  have f131 := fz_row (i := 1) haw1.r13
  have HAW1 := Lib.hid haw1
  have hzw1 := HBB1.out.size
  have HVW := Lib.hid (HV0.out.below HBB1.out)
  clear haw1 k91
  go_upto_region 13 with fail
  have hd1 : AR w2 (Ww1.setCell ⟨b + 4, 1, none⟩ (.slice aw1 bs1.length cw1)) b (#[.slice ra0 R0.length rc0, .slice ra1 R1.length rc1]) (#[.pointer (some ⟨gv0, 0, none⟩), .pointer none]) (#[.pointer (some ⟨gs0, 0, none⟩), .pointer none]) (#[.slice (some ⟨go0, 0, none⟩) bs0.length (bs0.length + 2), .slice none 0 0]) (#[.slice aw0 bs0.length cw0, .slice aw1 bs1.length cw1]) := HAW1.out.s13 1 (fun k e => by cases e)
  have hsd1 := sl_keptT HSW1.out (kept_setA (w := Ww1) (b + 4) 1 (.slice aw1 bs1.length cw1)) (fun j e => by rw [e]; exact row_noU8 HAW1.out.r13 HAW1.out.n13)
  have hszd1 : b + 5 ≤ (Ww1.setCell ⟨b + 4, 1, none⟩ (.slice aw1 bs1.length cw1)).heap.size := by simp; omega
  have hvd := HVW.out.set4 HAW1.out 1 (.slice aw1 bs1.length cw1)
  generalize Ww1.setCell ⟨b + 4, 1, none⟩ (.slice aw1 bs1.length cw1) = Wd1 at hd1 hsd1 hszd1 hvd ⊢
  have HD1 := Lib.hid hd1
  have HSD1 := Lib.hid hsd1
  have HVD := Lib.hid hvd
  have HLT1 := Lib.hid (lentD_calls Wd1 aw1 bs1.length cw1 (nums bs1) hsd1 (by omega))
  clear k131 f131 HAW1 HSW1 HOW1 HBB1 HRB1 hd1 hsd1 HVW hvd
  go_upto_region 14 with (go_at_call 17; (with_reducible refine HLT1.out.mono ?_); rintro e Wl1 ⟨rfl, hf⟩; (have HF1 := Lib.hid hf); (have HL1' := Lib.hid (HD1.out.below hf.below)); (have k121 := cell_of_row Wl1 (b + 3) 1 _ _ _ HL1'.out.r12); (have f121 := fz_row (i := 1) HL1'.out.r12); (have HSL1 := Lib.hid (HSD1.out.keep hf.below)); clear hf)
  have hvl1 : AR w2 (Wl1.setCell ⟨b + 3, 1, none⟩ (.slice (some ⟨Wd1.heap.size, 0, none⟩) bs1.length (bs1.length + 2))) b (#[.slice ra0 R0.length rc0, .slice ra1 R1.length rc1]) (#[.pointer (some ⟨gv0, 0, none⟩), .pointer none]) (#[.pointer (some ⟨gs0, 0, none⟩), .pointer none]) (#[.slice (some ⟨go0, 0, none⟩) bs0.length (bs0.length + 2), .slice (some ⟨Wd1.heap.size, 0, none⟩) bs1.length (bs1.length + 2)]) (#[.slice aw0 bs0.length cw0, .slice aw1 bs1.length cw1]) := HL1'.out.s12 1 (fun k e => by cases e)
  have hno1 : ∀ j, j = b + 3 → ∀ (o : Nat) (k : Int), Wl1.cell? ⟨j, o, none⟩ ≠ some (.int .u8 k) := fun j e => by rw [e]; exact row_noU8 HL1'.out.r12 HL1'.out.n12
  have hro1 := row_keptS HF1.out.row (kept_setA (w := Wl1) (b + 3) 1 (.slice (some ⟨Wd1.heap.size, 0, none⟩) bs1.length (bs1.length + 2))) (by omega)
  have hso1 := sl_keptT HSL1.out (kept_setA (w := Wl1) (b + 3) 1 (.slice (some ⟨Wd1.heap.size, 0, none⟩) bs1.length (bs1.length + 2))) hno1
  have hvo := (HVD.out.below HF1.out.below).set3 HL1'.out 1 (.slice (some ⟨Wd1.heap.size, 0, none⟩) bs1.length (bs1.length + 2))
  clear HF1 HL1' k121 f121 HLT1 HD1 HSD1 HSL1 hno1 HVD
  generalize Wl1.setCell ⟨b + 3, 1, none⟩ (.slice (some ⟨Wd1.heap.size, 0, none⟩) bs1.length (bs1.length + 2)) = Wo1 at hvl1 hro1 hso1 hvo ⊢
  generalize Wd1.heap.size = go1 at hvl1 hro1 hszd1 hvo ⊢
  have HVL1 := Lib.hid hvl1
  have HRO1 := Lib.hid hro1
  have HSO1 := Lib.hid hso1
  have HVO := Lib.hid hvo
  have hown1 := own_slA hro1 (nums_len bs1) (by omega)
  have k121 : Wo1.cell? ⟨b + 3, 1, none⟩ = some (.slice (some ⟨go1, 0, none⟩) bs1.length (bs1.length + 2)) := cell_of_row Wo1 (b + 3) 1 _ _ _ hvl1.r12
  have HOP1 := Lib.hid (open_good Wo1 (some ⟨go1, 0, none⟩) (bs1.length + 2) R1 HG1.out bs1 HBS1.out hown1 (fun e => by cases e) (fun x hx => by cases hx; exact hro1.lt))
  have HOWN1 := Lib.hid hown1
  have hszo1 := HRO1.out.lt
  clear hvl1 hro1 hso1 hown1 hvo
  go_upto_region 15 with (go_at_call 18; (with_reducible refine HOP1.out.mono ?_); rintro e Wq1 ⟨gv1, rfl, hgv1, hvq, hb⟩; (have HQ1 := Lib.hid hvq); (have HBQ1 := Lib.hid hb); clear hvq hb)
  have haq1 := HVL1.out.below HBQ1.out
  have hownq1 := HOWN1.out.keep HBQ1.out
  clear k121
  have k121 : Wq1.cell? ⟨b + 3, 1, none⟩ = some (.slice (some ⟨go1, 0, none⟩) bs1.length (bs1.length + 2)) := cell_of_row Wq1 (b + 3) 1 _ _ _ haq1.r12
  have HAQ1 := Lib.hid haq1
  have hszq1 := HBQ1.out.size
  have HVW1 := Lib.hid (view_good Wq1 (some ⟨go1, 0, none⟩) (bs1.length + 2) R1 HG1.out bs1 HBS1.out hownq1 (fun e => by cases e) (fun x hx => by cases hx; show go1 < _; omega))
  clear haq1 hownq1
  go_upto_region 18 with (go_at_call 19; (with_reducible refine HVW1.out.mono ?_); rintro e Ws1 ⟨gs1, rfl, hgs1, hvs, hb⟩; (have HSS1 := Lib.hid hvs); (have HBS21 := Lib.hid hb); clear hvs hb)
  have has1 := HAQ1.out.below HBS21.out
  have hvr1 : VD b Ws1 R1 bs1 go1 gv1 gs1 aw1 cw1 := ⟨by obtain ⟨pa, pc, ea, ec, h⟩ := HQ1.out; exact ⟨pa, pc, ea, ec, h.keep HBS21.out⟩, HSS1.out, (HRO1.out.below HBQ1.out HRO1.out.lt).below HBS21.out (HRO1.out.below HBQ1.out HRO1.out.lt).lt, (HSO1.out.keep HBQ1.out).keep HBS21.out, hszd1, by omega, by omega⟩
  have hvr0 := (HVO.out.below HBQ1.out).below HBS21.out
  clear k121 HAQ1 HOWN1 HOP1 HVW1 HQ1 HSS1 HRO1 HSO1 HBQ1 HBS21 HVL1 HVO
  have k101 := cell_of_row Ws1 (b + 1) 1 _ _ _ has1.r10
  have f101 := fz_row (i := 1) has1.r10
  have HAS1 := Lib.hid has1
  have HVR1 := Lib.hid hvr1
  have HVRA := Lib.hid hvr0
  clear has1 hvr1 hvr0
  go_upto_region 19 with fail
  have hat1 : AR w2 (Ws1.setCell ⟨b + 1, 1, none⟩ (.pointer (some ⟨gv1, 0, none⟩))) b (#[.slice ra0 R0.length rc0, .slice ra1 R1.length rc1]) (#[.pointer (some ⟨gv0, 0, none⟩), .pointer (some ⟨gv1, 0, none⟩)]) (#[.pointer (some ⟨gs0, 0, none⟩), .pointer none]) (#[.slice (some ⟨go0, 0, none⟩) bs0.length (bs0.length + 2), .slice (some ⟨go1, 0, none⟩) bs1.length (bs1.length + 2)]) (#[.slice aw0 bs0.length cw0, .slice aw1 bs1.length cw1]) := HAS1.out.s10 1 (fun k e => by cases e)
  have hvt1 := HVR1.out.set1 HAS1.out 1 (.pointer (some ⟨gv1, 0, none⟩))
  have hvt0 := HVRA.out.set1 HAS1.out 1 (.pointer (some ⟨gv1, 0, none⟩))
  clear k101 f101 HAS1 HVR1 HVRA
  generalize Ws1.setCell ⟨b + 1, 1, none⟩ (.pointer (some ⟨gv1, 0, none⟩)) = Wt1 at hat1 hvt1 hvt0 ⊢
  have k111 := cell_of_row Wt1 (b + 2) 1 _ _ _ hat1.r11
  have f111 := fz_row (i := 1) hat1.r11
  have HAT1 := Lib.hid hat1
  have HVT1 := Lib.hid hvt1
  have HVTA := Lib.hid hvt0
  clear hat1 hvt1 hvt0
  go_wp2_with fail
  have hae1 : AR w2 (Wt1.setCell ⟨b + 2, 1, none⟩ (.pointer (some ⟨gs1, 0, none⟩))) b (#[.slice ra0 R0.length rc0, .slice ra1 R1.length rc1]) (#[.pointer (some ⟨gv0, 0, none⟩), .pointer (some ⟨gv1, 0, none⟩)]) (#[.pointer (some ⟨gs0, 0, none⟩), .pointer (some ⟨gs1, 0, none⟩)]) (#[.slice (some ⟨go0, 0, none⟩) bs0.length (bs0.length + 2), .slice (some ⟨go1, 0, none⟩) bs1.length (bs1.length + 2)]) (#[.slice aw0 bs0.length cw0, .slice aw1 bs1.length cw1]) := HAT1.out.s11 1 (fun k e => by cases e)
  have hve1 := HVT1.out.set2 HAT1.out 1 (.pointer (some ⟨gs1, 0, none⟩))
  have hve0 := HVTA.out.set2 HAT1.out 1 (.pointer (some ⟨gs1, 0, none⟩))
  clear k111 f111 HAT1 HVT1 HVTA
  generalize Wt1.setCell ⟨b + 2, 1, none⟩ (.pointer (some ⟨gs1, 0, none⟩)) = V2 at hae1 hve1 hve0 ⊢
  have HA2 := Lib.hid hae1
  have HV1 := Lib.hid hve1
  have HVZ := Lib.hid hve0
  have hsz2 : b + 5 ≤ V2.heap.size := by have := HV1.out.ro.lt; have := HV1.out.o1; omega
  clear hae1 hve1 hve0
  rw [rounds_succ]
  go_wp2_with fail
  have HVF0 := HVZ
  have HVF1 := HV1
  have HBL := Lib.hid (HB2.out.trans (HA2.out.bl.mono HB2.out.size))
  clear HVZ HV1 HA0 HA1
  go_loopw [21] (fun iv wr => ∃ i : Nat, iv = .int .i64 (i : Nat) ∧ i ≤ n2 ∧ Below V2.heap.size V2 wr) (fun iv _ => n2 - (intOf iv).toNat)
  case atStart => exact ⟨0, rfl, Nat.zero_le _, Below.refl _ _⟩
  case round =>
    obtain ⟨i, rfl, hi, hbr⟩ := hrel
    have HBR := Lib.hid hbr
    clear hbr
    have hl2b := H2.out.le
    have hm2b := H2.out.max
    by_cases hin : i < n2
    · by_cases hi3 : i < n3
      · obtain ⟨b3, o3, rfl, hc3⟩ := (H3.out.keep (HBL.out.trans (HBR.out.mono HBL.out.size))).cell i hi3
        have hl3 := H3.out.le
        obtain ⟨B, hB⟩ : ∃ B, B = l3.getD i false := ⟨_, rfl⟩
        rw [← hB] at hc3
        clear hB
        cases B with
        | true =>
          have ha : AR w2 wr b (#[.slice ra0 R0.length rc0, .slice ra1 R1.length rc1]) (#[.pointer (some ⟨gv0, 0, none⟩), .pointer (some ⟨gv1, 0, none⟩)]) (#[.pointer (some ⟨gs0, 0, none⟩), .pointer (some ⟨gs1, 0, none⟩)]) (#[.slice (some ⟨go0, 0, none⟩) bs0.length (bs0.length + 2), .slice (some ⟨go1, 0, none⟩) bs1.length (bs1.length + 2)]) (#[.slice aw0 bs0.length cw0, .slice aw1 bs1.length cw1]) := HA2.out.below HBR.out
          have hv : VD b wr R1 bs1 go1 gv1 gs1 aw1 cw1 := HVF1.out.below HBR.out
          have hk := (H2.out.below (HBL.out.trans (HBR.out.mono HBL.out.size))).at_ i hin
          have hl2 := (H2.out).le
          have hm2 := (H2.out).max
          obtain ⟨bq, oq, rfl, hok⟩ := hk
          obtain ⟨q, hq⟩ : ∃ q, q = asks i := ⟨_, rfl⟩
          rw [← hq] at hok
          clear hq
          obtain ⟨kd, qn, qs, qm⟩ := q
          have hqn : -9223372036854775808 ≤ qn ∧ qn ≤ 9223372036854775807 := hok.nr
          have hqm : -9223372036854775808 ≤ qm ∧ qm ≤ 9223372036854775807 := hok.mr
          have hqs : qs.size ≤ 9223372036854775807 := hok.sr
          have hsr := HRS1.out.keep ha.bl
          have k9 : wr.cell? ⟨b, 1, none⟩ = some (.slice ra1 R1.length rc1) := cell_of_row wr b 1 _ _ _ ha.r9
          have k10 : wr.cell? ⟨b + 1, 1, none⟩ = some (.pointer (some ⟨gv1, 0, none⟩)) := cell_of_row wr (b + 1) 1 _ _ _ ha.r10
          have j0 : wr.cell? ⟨bq, oq + i * 4, none⟩ = some (.int .i64 kd) := hok.c0
          have j1 : wr.cell? ⟨bq, oq + i * 4 + 1, none⟩ = some (.int .i64 qn) := hok.c1
          have j2 : wr.cell? ⟨bq, oq + i * 4 + 2, none⟩ = some (.string qs) := hok.c2
          have j3 : wr.cell? ⟨bq, oq + i * 4 + 3, none⟩ = some (.int .i64 qm) := hok.c3
          have HAR := Lib.hid ha
          have HVR := Lib.hid hv
          have HOK := Lib.hid hok
          have HSR := Lib.hid hsr
          clear ha hv hok hsr
          go_upto_region 26 with fail
          refine wp_region_quiet_tail (fun w' => ∃ n, w' = wr.drewN n) 10 (by kernel_rfl) (by kernel_rfl) ⟨1, rfl⟩ ?_
          simp only [List.take_succ_cons, List.take_zero, List.drop_succ_cons, List.drop_zero]
          repeat (go_big_quiet_step (fail))
          refine wpQuiet_nil ?_
          rintro _ ⟨d1, rfl⟩
          clear k9 k10 j0 j1 j2 j3
          have HAS1 := Lib.hid (show Calls Try.prog 20 #[.pointer (some ⟨gv1, 0, none⟩), .slice ra1 R1.length rc1, .agg #[.int .i64 kd, .int .i64 qn, .string qs, .int .i64 qm]] (wr.drewN d1) (fun e w' => e = .returned (.bool true) ∧ Below (wr.drewN d1).heap.size (wr.drewN d1) w') by
            obtain ⟨pa, pc, ea, ec, h⟩ := HVR.out.vo
            exact asked16_calls (wr.drewN d1) gv1 pa pc ea ec (hdE bs1) R1 HG1.out (open_built HG1.out HBS1.out).2.2.2.2.2 (h.keep (below_drewN (Below.refl _ _) d1)) ra1 rc1 (HSR.out.keep (below_drewN (Below.refl _ _) d1)) kd qn qs qm hqn hqm hqs)
          go_upto_region 27 with (go_at_call 20; (with_reducible refine HAS1.out.mono ?_); rintro e w5 ⟨rfl, hb5⟩; (have HB5 := Lib.hid ((below_drewN (Below.refl wr.heap.size wr) d1).trans (hb5.mono (below_drewN (Below.refl wr.heap.size wr) d1).size))); clear hb5)
          clear HAS1
          have ha4 := HAR.out.below HB5.out
          have hok4 := HOK.out.below HB5.out
          have k9 : w5.cell? ⟨b, 1, none⟩ = some (.slice ra1 R1.length rc1) := cell_of_row w5 b 1 _ _ _ ha4.r9
          have k10 : w5.cell? ⟨b + 2, 1, none⟩ = some (.pointer (some ⟨gs1, 0, none⟩)) := cell_of_row w5 (b + 2) 1 _ _ _ ha4.r11
          have j0 : w5.cell? ⟨bq, oq + i * 4, none⟩ = some (.int .i64 kd) := hok4.c0
          have j1 : w5.cell? ⟨bq, oq + i * 4 + 1, none⟩ = some (.int .i64 qn) := hok4.c1
          have j2 : w5.cell? ⟨bq, oq + i * 4 + 2, none⟩ = some (.string qs) := hok4.c2
          have j3 : w5.cell? ⟨bq, oq + i * 4 + 3, none⟩ = some (.int .i64 qm) := hok4.c3
          clear ha4 hok4
          refine wp_region_quiet_tail (fun w' => ∃ n, w' = w5.drewN n) 10 (by kernel_rfl) (by kernel_rfl) ⟨1, rfl⟩ ?_
          simp only [List.take_succ_cons, List.take_zero, List.drop_succ_cons, List.drop_zero]
          repeat (go_big_quiet_step (fail))
          refine wpQuiet_nil ?_
          rintro _ ⟨d2, rfl⟩
          clear k9 k10 j0 j1 j2 j3
          have HAS2 := Lib.hid (show Calls Try.prog 20 #[.pointer (some ⟨gs1, 0, none⟩), .slice ra1 R1.length rc1, .agg #[.int .i64 kd, .int .i64 qn, .string qs, .int .i64 qm]] (w5.drewN d2) (fun e w' => e = .returned (.bool true) ∧ Below (w5.drewN d2).heap.size (w5.drewN d2) w') by
            obtain ⟨pa, pc, ea, ec, h⟩ := (HVR.out.below HB5.out).vs
            exact asked16_calls (w5.drewN d2) gs1 pa pc ea ec (hdE bs1) R1 HG1.out (open_built HG1.out HBS1.out).2.2.2.2.2 (h.keep (below_drewN (Below.refl _ _) d2)) ra1 rc1 ((HSR.out.keep HB5.out).keep (below_drewN (Below.refl _ _) d2)) kd qn qs qm hqn hqm hqs)
          go_wp2_with (go_at_call 20; (with_reducible refine HAS2.out.mono ?_); rintro e w6 ⟨rfl, hb6⟩; (have HB6 := Lib.hid ((below_drewN HB5.out d2).trans (hb6.mono (below_drewN HB5.out d2).size))); clear hb6)
          go_roundw
          case rel => exact ⟨i + 1, by go_num, by omega, HBR.out.trans (HB6.out.mono HBR.out.size)⟩
          case measure => simp [intOf]; omega
        | false =>
          have ha : AR w2 wr b (#[.slice ra0 R0.length rc0, .slice ra1 R1.length rc1]) (#[.pointer (some ⟨gv0, 0, none⟩), .pointer (some ⟨gv1, 0, none⟩)]) (#[.pointer (some ⟨gs0, 0, none⟩), .pointer (some ⟨gs1, 0, none⟩)]) (#[.slice (some ⟨go0, 0, none⟩) bs0.length (bs0.length + 2), .slice (some ⟨go1, 0, none⟩) bs1.length (bs1.length + 2)]) (#[.slice aw0 bs0.length cw0, .slice aw1 bs1.length cw1]) := HA2.out.below HBR.out
          have hv : VD b wr R0 bs0 go0 gv0 gs0 aw0 cw0 := HVF0.out.below HBR.out
          have hk := (H2.out.below (HBL.out.trans (HBR.out.mono HBL.out.size))).at_ i hin
          have hl2 := (H2.out).le
          have hm2 := (H2.out).max
          obtain ⟨bq, oq, rfl, hok⟩ := hk
          obtain ⟨q, hq⟩ : ∃ q, q = asks i := ⟨_, rfl⟩
          rw [← hq] at hok
          clear hq
          obtain ⟨kd, qn, qs, qm⟩ := q
          have hqn : -9223372036854775808 ≤ qn ∧ qn ≤ 9223372036854775807 := hok.nr
          have hqm : -9223372036854775808 ≤ qm ∧ qm ≤ 9223372036854775807 := hok.mr
          have hqs : qs.size ≤ 9223372036854775807 := hok.sr
          have hsr := HRS0'.out.keep ha.bl
          have k9 : wr.cell? ⟨b, 0, none⟩ = some (.slice ra0 R0.length rc0) := cell_of_row wr b 0 _ _ _ ha.r9
          have k10 : wr.cell? ⟨b + 1, 0, none⟩ = some (.pointer (some ⟨gv0, 0, none⟩)) := cell_of_row wr (b + 1) 0 _ _ _ ha.r10
          have j0 : wr.cell? ⟨bq, oq + i * 4, none⟩ = some (.int .i64 kd) := hok.c0
          have j1 : wr.cell? ⟨bq, oq + i * 4 + 1, none⟩ = some (.int .i64 qn) := hok.c1
          have j2 : wr.cell? ⟨bq, oq + i * 4 + 2, none⟩ = some (.string qs) := hok.c2
          have j3 : wr.cell? ⟨bq, oq + i * 4 + 3, none⟩ = some (.int .i64 qm) := hok.c3
          have HAR := Lib.hid ha
          have HVR := Lib.hid hv
          have HOK := Lib.hid hok
          have HSR := Lib.hid hsr
          clear ha hv hok hsr
          go_upto_region 26 with fail
          refine wp_region_quiet_tail (fun w' => ∃ n, w' = wr.drewN n) 10 (by kernel_rfl) (by kernel_rfl) ⟨1, rfl⟩ ?_
          simp only [List.take_succ_cons, List.take_zero, List.drop_succ_cons, List.drop_zero]
          repeat (go_big_quiet_step (fail))
          refine wpQuiet_nil ?_
          rintro _ ⟨d1, rfl⟩
          clear k9 k10 j0 j1 j2 j3
          have HAS1 := Lib.hid (show Calls Try.prog 20 #[.pointer (some ⟨gv0, 0, none⟩), .slice ra0 R0.length rc0, .agg #[.int .i64 kd, .int .i64 qn, .string qs, .int .i64 qm]] (wr.drewN d1) (fun e w' => e = .returned (.bool true) ∧ Below (wr.drewN d1).heap.size (wr.drewN d1) w') by
            obtain ⟨pa, pc, ea, ec, h⟩ := HVR.out.vo
            exact asked16_calls (wr.drewN d1) gv0 pa pc ea ec (hdE bs0) R0 HG0.out (open_built HG0.out HBS0.out).2.2.2.2.2 (h.keep (below_drewN (Below.refl _ _) d1)) ra0 rc0 (HSR.out.keep (below_drewN (Below.refl _ _) d1)) kd qn qs qm hqn hqm hqs)
          go_upto_region 27 with (go_at_call 20; (with_reducible refine HAS1.out.mono ?_); rintro e w5 ⟨rfl, hb5⟩; (have HB5 := Lib.hid ((below_drewN (Below.refl wr.heap.size wr) d1).trans (hb5.mono (below_drewN (Below.refl wr.heap.size wr) d1).size))); clear hb5)
          clear HAS1
          have ha4 := HAR.out.below HB5.out
          have hok4 := HOK.out.below HB5.out
          have k9 : w5.cell? ⟨b, 0, none⟩ = some (.slice ra0 R0.length rc0) := cell_of_row w5 b 0 _ _ _ ha4.r9
          have k10 : w5.cell? ⟨b + 2, 0, none⟩ = some (.pointer (some ⟨gs0, 0, none⟩)) := cell_of_row w5 (b + 2) 0 _ _ _ ha4.r11
          have j0 : w5.cell? ⟨bq, oq + i * 4, none⟩ = some (.int .i64 kd) := hok4.c0
          have j1 : w5.cell? ⟨bq, oq + i * 4 + 1, none⟩ = some (.int .i64 qn) := hok4.c1
          have j2 : w5.cell? ⟨bq, oq + i * 4 + 2, none⟩ = some (.string qs) := hok4.c2
          have j3 : w5.cell? ⟨bq, oq + i * 4 + 3, none⟩ = some (.int .i64 qm) := hok4.c3
          clear ha4 hok4
          refine wp_region_quiet_tail (fun w' => ∃ n, w' = w5.drewN n) 10 (by kernel_rfl) (by kernel_rfl) ⟨1, rfl⟩ ?_
          simp only [List.take_succ_cons, List.take_zero, List.drop_succ_cons, List.drop_zero]
          repeat (go_big_quiet_step (fail))
          refine wpQuiet_nil ?_
          rintro _ ⟨d2, rfl⟩
          clear k9 k10 j0 j1 j2 j3
          have HAS2 := Lib.hid (show Calls Try.prog 20 #[.pointer (some ⟨gs0, 0, none⟩), .slice ra0 R0.length rc0, .agg #[.int .i64 kd, .int .i64 qn, .string qs, .int .i64 qm]] (w5.drewN d2) (fun e w' => e = .returned (.bool true) ∧ Below (w5.drewN d2).heap.size (w5.drewN d2) w') by
            obtain ⟨pa, pc, ea, ec, h⟩ := (HVR.out.below HB5.out).vs
            exact asked16_calls (w5.drewN d2) gs0 pa pc ea ec (hdE bs0) R0 HG0.out (open_built HG0.out HBS0.out).2.2.2.2.2 (h.keep (below_drewN (Below.refl _ _) d2)) ra0 rc0 ((HSR.out.keep HB5.out).keep (below_drewN (Below.refl _ _) d2)) kd qn qs qm hqn hqm hqs)
          go_wp2_with (go_at_call 20; (with_reducible refine HAS2.out.mono ?_); rintro e w6 ⟨rfl, hb6⟩; (have HB6 := Lib.hid ((below_drewN HB5.out d2).trans (hb6.mono (below_drewN HB5.out d2).size))); clear hb6)
          go_roundw
          case rel => exact ⟨i + 1, by go_num, by omega, HBR.out.trans (HB6.out.mono HBR.out.size)⟩
          case measure => simp [intOf]; omega
      · have ha : AR w2 wr b (#[.slice ra0 R0.length rc0, .slice ra1 R1.length rc1]) (#[.pointer (some ⟨gv0, 0, none⟩), .pointer (some ⟨gv1, 0, none⟩)]) (#[.pointer (some ⟨gs0, 0, none⟩), .pointer (some ⟨gs1, 0, none⟩)]) (#[.slice (some ⟨go0, 0, none⟩) bs0.length (bs0.length + 2), .slice (some ⟨go1, 0, none⟩) bs1.length (bs1.length + 2)]) (#[.slice aw0 bs0.length cw0, .slice aw1 bs1.length cw1]) := HA2.out.below HBR.out
        have hv : VD b wr R0 bs0 go0 gv0 gs0 aw0 cw0 := HVF0.out.below HBR.out
        have hk := (H2.out.below (HBL.out.trans (HBR.out.mono HBL.out.size))).at_ i hin
        have hl2 := (H2.out).le
        have hm2 := (H2.out).max
        obtain ⟨bq, oq, rfl, hok⟩ := hk
        obtain ⟨q, hq⟩ : ∃ q, q = asks i := ⟨_, rfl⟩
        rw [← hq] at hok
        clear hq
        obtain ⟨kd, qn, qs, qm⟩ := q
        have hqn : -9223372036854775808 ≤ qn ∧ qn ≤ 9223372036854775807 := hok.nr
        have hqm : -9223372036854775808 ≤ qm ∧ qm ≤ 9223372036854775807 := hok.mr
        have hqs : qs.size ≤ 9223372036854775807 := hok.sr
        have hsr := HRS0'.out.keep ha.bl
        have k9 : wr.cell? ⟨b, 0, none⟩ = some (.slice ra0 R0.length rc0) := cell_of_row wr b 0 _ _ _ ha.r9
        have k10 : wr.cell? ⟨b + 1, 0, none⟩ = some (.pointer (some ⟨gv0, 0, none⟩)) := cell_of_row wr (b + 1) 0 _ _ _ ha.r10
        have j0 : wr.cell? ⟨bq, oq + i * 4, none⟩ = some (.int .i64 kd) := hok.c0
        have j1 : wr.cell? ⟨bq, oq + i * 4 + 1, none⟩ = some (.int .i64 qn) := hok.c1
        have j2 : wr.cell? ⟨bq, oq + i * 4 + 2, none⟩ = some (.string qs) := hok.c2
        have j3 : wr.cell? ⟨bq, oq + i * 4 + 3, none⟩ = some (.int .i64 qm) := hok.c3
        have HAR := Lib.hid ha
        have HVR := Lib.hid hv
        have HOK := Lib.hid hok
        have HSR := Lib.hid hsr
        clear ha hv hok hsr
        go_upto_region 26 with fail
        refine wp_region_quiet_tail (fun w' => ∃ n, w' = wr.drewN n) 10 (by kernel_rfl) (by kernel_rfl) ⟨1, rfl⟩ ?_
        simp only [List.take_succ_cons, List.take_zero, List.drop_succ_cons, List.drop_zero]
        repeat (go_big_quiet_step (fail))
        refine wpQuiet_nil ?_
        rintro _ ⟨d1, rfl⟩
        clear k9 k10 j0 j1 j2 j3
        have HAS1 := Lib.hid (show Calls Try.prog 20 #[.pointer (some ⟨gv0, 0, none⟩), .slice ra0 R0.length rc0, .agg #[.int .i64 kd, .int .i64 qn, .string qs, .int .i64 qm]] (wr.drewN d1) (fun e w' => e = .returned (.bool true) ∧ Below (wr.drewN d1).heap.size (wr.drewN d1) w') by
          obtain ⟨pa, pc, ea, ec, h⟩ := HVR.out.vo
          exact asked16_calls (wr.drewN d1) gv0 pa pc ea ec (hdE bs0) R0 HG0.out (open_built HG0.out HBS0.out).2.2.2.2.2 (h.keep (below_drewN (Below.refl _ _) d1)) ra0 rc0 (HSR.out.keep (below_drewN (Below.refl _ _) d1)) kd qn qs qm hqn hqm hqs)
        go_upto_region 27 with (go_at_call 20; (with_reducible refine HAS1.out.mono ?_); rintro e w5 ⟨rfl, hb5⟩; (have HB5 := Lib.hid ((below_drewN (Below.refl wr.heap.size wr) d1).trans (hb5.mono (below_drewN (Below.refl wr.heap.size wr) d1).size))); clear hb5)
        clear HAS1
        have ha4 := HAR.out.below HB5.out
        have hok4 := HOK.out.below HB5.out
        have k9 : w5.cell? ⟨b, 0, none⟩ = some (.slice ra0 R0.length rc0) := cell_of_row w5 b 0 _ _ _ ha4.r9
        have k10 : w5.cell? ⟨b + 2, 0, none⟩ = some (.pointer (some ⟨gs0, 0, none⟩)) := cell_of_row w5 (b + 2) 0 _ _ _ ha4.r11
        have j0 : w5.cell? ⟨bq, oq + i * 4, none⟩ = some (.int .i64 kd) := hok4.c0
        have j1 : w5.cell? ⟨bq, oq + i * 4 + 1, none⟩ = some (.int .i64 qn) := hok4.c1
        have j2 : w5.cell? ⟨bq, oq + i * 4 + 2, none⟩ = some (.string qs) := hok4.c2
        have j3 : w5.cell? ⟨bq, oq + i * 4 + 3, none⟩ = some (.int .i64 qm) := hok4.c3
        clear ha4 hok4
        refine wp_region_quiet_tail (fun w' => ∃ n, w' = w5.drewN n) 10 (by kernel_rfl) (by kernel_rfl) ⟨1, rfl⟩ ?_
        simp only [List.take_succ_cons, List.take_zero, List.drop_succ_cons, List.drop_zero]
        repeat (go_big_quiet_step (fail))
        refine wpQuiet_nil ?_
        rintro _ ⟨d2, rfl⟩
        clear k9 k10 j0 j1 j2 j3
        have HAS2 := Lib.hid (show Calls Try.prog 20 #[.pointer (some ⟨gs0, 0, none⟩), .slice ra0 R0.length rc0, .agg #[.int .i64 kd, .int .i64 qn, .string qs, .int .i64 qm]] (w5.drewN d2) (fun e w' => e = .returned (.bool true) ∧ Below (w5.drewN d2).heap.size (w5.drewN d2) w') by
          obtain ⟨pa, pc, ea, ec, h⟩ := (HVR.out.below HB5.out).vs
          exact asked16_calls (w5.drewN d2) gs0 pa pc ea ec (hdE bs0) R0 HG0.out (open_built HG0.out HBS0.out).2.2.2.2.2 (h.keep (below_drewN (Below.refl _ _) d2)) ra0 rc0 ((HSR.out.keep HB5.out).keep (below_drewN (Below.refl _ _) d2)) kd qn qs qm hqn hqm hqs)
        go_wp2_with (go_at_call 20; (with_reducible refine HAS2.out.mono ?_); rintro e w6 ⟨rfl, hb6⟩; (have HB6 := Lib.hid ((below_drewN HB5.out d2).trans (hb6.mono (below_drewN HB5.out d2).size))); clear hb6)
        go_roundw
        case rel => exact ⟨i + 1, by go_num, by omega, HBR.out.trans (HB6.out.mono HBR.out.size)⟩
        case measure => simp [intOf]; omega
    · obtain rfl : i = n2 := by omega
      have ha : AR w2 wr b (#[.slice ra0 R0.length rc0, .slice ra1 R1.length rc1]) (#[.pointer (some ⟨gv0, 0, none⟩), .pointer (some ⟨gv1, 0, none⟩)]) (#[.pointer (some ⟨gs0, 0, none⟩), .pointer (some ⟨gs1, 0, none⟩)]) (#[.slice (some ⟨go0, 0, none⟩) bs0.length (bs0.length + 2), .slice (some ⟨go1, 0, none⟩) bs1.length (bs1.length + 2)]) (#[.slice aw0 bs0.length cw0, .slice aw1 bs1.length cw1]) := HA2.out.below HBR.out
      have hv0 := HVF0.out.below HBR.out
      have hv1 := HVF1.out.below HBR.out
      have k12a : wr.cell? ⟨b + 3, 0, none⟩ = some (.slice (some ⟨go0, 0, none⟩) bs0.length (bs0.length + 2)) := cell_of_row wr (b + 3) 0 _ _ _ ha.r12
      have k12b : wr.cell? ⟨b + 3, 1, none⟩ = some (.slice (some ⟨go1, 0, none⟩) bs1.length (bs1.length + 2)) := cell_of_row wr (b + 3) 1 _ _ _ ha.r12
      have k13a : wr.cell? ⟨b + 4, 0, none⟩ = some (.slice aw0 bs0.length cw0) := cell_of_row wr (b + 4) 0 _ _ _ ha.r13
      have k13b : wr.cell? ⟨b + 4, 1, none⟩ = some (.slice aw1 bs1.length cw1) := cell_of_row wr (b + 4) 1 _ _ _ ha.r13
      have HBA := Lib.hid (backD_calls wr go0 aw0 bs0.length cw0 (nums bs0) hv0.ro hv0.sw (by omega))
      have HBB := Lib.hid (fun m => backD_calls (wr.drewN m) go1 aw1 bs1.length cw1 (nums bs1) hv1.ro (hv1.sw.keep (below_drewN (Below.refl _ _) m)) (by omega))
      have HBZ := Lib.hid (HB2.out.trans (ha.bl.mono HB2.out.size))
      clear ha hv0 hv1
      go_wp2_with (first
        | (go_at_call 21; (with_reducible refine HBA.out.mono ?_); rintro e wz ⟨rfl, mz, rfl⟩; (have j12b : (wr.drewN mz).cell? ⟨b + 3, 1, none⟩ = some (.slice (some ⟨go1, 0, none⟩) bs1.length (bs1.length + 2)) := k12b); (have j13b : (wr.drewN mz).cell? ⟨b + 4, 1, none⟩ = some (.slice aw1 bs1.length cw1) := k13b))
        | (go_at_call 21; (with_reducible refine (HBB.out _).mono ?_); rintro e wy ⟨rfl, my, rfl⟩))
      go_ret
      exact ⟨rfl, below_drewN HBZ.out _⟩

theorem danswers_in (w : World) (a0 : Option Addr) (n0 c0 : Nat) (L0 : List (List UInt8)) (h0 : SlS w a0 n0 c0 L0) (hn0 : a0 = none → c0 = 0) (t0 : TxtOk L0) (hc0 : c0 ≤ 8796093022208) (a1 : Option Addr) (n1 c1 : Nat) (L1 : List (List UInt8)) (h1 : SlS w a1 n1 c1 L1) (hn1 : a1 = none → c1 = 0) (t1 : TxtOk L1) (hc1 : c1 ≤ 8796093022208)
    (a2 : Option Addr) (n2 c2 : Nat) (asks : Nat → AskV) (h2 : AsksAt w a2 n2 c2 asks) (a3 : Option Addr) (n3 c3 : Nat) (l3 : List Bool) (h3 : SlB w a3 n3 c3 l3) (hk3 : c3 ≤ 140737488351232) :
    Calls Try.prog 4 #[.slice a0 n0 c0, .slice a1 n1 c1, .slice a2 n2 c2, .slice a3 n3 c3] w fun e w' => e = .returned (.bool true) ∧ Below w.heap.size w w' :=
  danswers_go w a0 n0 c0 L0 h0 t0 a1 n1 c1 L1 h1 t1 a2 n2 c2 asks h2 a3 n3 c3 l3 h3
end Go.Proofs.Ytjgcmnppiaikcaa
