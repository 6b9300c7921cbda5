/- shape and View of any bytes. -/
import Derived.Test.YtjgcmnppiaikcaaDoorDkV
import Derived.Test.YtjgcmnppiaikcaaDoorQu
import Derived.Test.YtjgcmnppiaikcaaDoorHe
import Derived.LoopN
set_option linter.unusedVariables false
set_option linter.unusedSimpArgs false
namespace Go.Proofs.YtjgcmnppiaikcaaDoor
open Go.RowKit Go.Tk
/-- An error value that tells the place x and the number y (0, 0: none). -/
def EV (w : World) (v : Value) (x y : Int) : Prop := (v = .nilIface ∧ x = 0 ∧ y = 0) ∨ ∃ b, y ≠ 0 ∧ v = .iface 64 (.pointer (some ⟨b, 0, none⟩)) ∧ w.heap[b]? = some (.cells #[.int .i64 x, .iface 45 (.int .i64 y)] 68 (0, 0))
theorem EV.nil (w : World) : EV w .nilIface 0 0 := .inl ⟨rfl, rfl, rfl⟩
theorem EV.below {w w' : World} {v : Value} {x y : Int} (h : EV w v x y) (hb : Below w.heap.size w w') : EV w' v x y := by
  rcases h with h | ⟨b, h0, h1, h2⟩
  · exact .inl h
  · exact .inr ⟨b, h0, h1, (hb.block b (lt_of_block h2)).trans h2⟩
theorem EV.some {w : World} {v : Value} {x y : Int} (hy : y ≠ 0) (h : EV w v x y) : ∃ i, v = .iface 64 (.pointer (some ⟨i, 0, none⟩)) := by
  rcases h with ⟨_, _, h⟩ | ⟨b, _, h, _⟩
  · exact absurd h hy
  · exact ⟨b, h⟩
theorem EV.none {w : World} {v : Value} {x : Int} (h : EV w v x 0) : v = .nilIface := by
  rcases h with ⟨h, _⟩ | ⟨b, h, _⟩
  · exact h
  · exact absurd rfl h
theorem wrong_calls (x y : Int) (w : World) : Calls Tryd.prog 14 #[.int .i64 x, .int .i64 y] w fun e w' => ∃ b, e = .returned (.iface 64 (.pointer (some ⟨b, 0, none⟩))) ∧ w.heap.size ≤ b ∧ w'.heap[b]? = some (.cells #[.int .i64 x, .iface 45 (.int .i64 y)] 68 (0, 0)) ∧ Below w.heap.size w w' := by
  go_enter Tryd.func14, Tryd.ntmps14
  go_wp2
  go_ret
  exact ⟨_, rfl, Nat.le_refl _, heap_alloc_new _ _, (Below.refl _ _).alloc (Nat.le_refl _) _⟩
/-- What shape hands back. -/
def ShapeR (w : World) (a : Option Addr) (c : Nat) (b : List UInt8) (e : Ending) (w' : World) : Prop :=
  Below w.heap.size w w' ∧ (((shE b).1 ≠ 0 ∧ ∃ v, e = .returned (.tuple #[.pointer none, .int .i64 0, .int .i64 0, v]) ∧ EV w' v (shE b).2 (shE b).1) ∨
    ((shE b).1 = 0 ∧ ∃ gd pa pc ea ec, w.heap.size ≤ gd ∧ e = .returned (.tuple #[.pointer (some ⟨gd, 0, none⟩), .int .i64 (hd3 b : Nat), .int .i64 (hd4 b : Nat), .nilIface]) ∧ DictM w' gd (hdN b) (hdW b) pa pc (nums (hdP b)) ea ec (nums (hdE b))))
theorem results_tmp4D {fn : Func} {t u v x : Tmp} (h : fn.results = #[.tmp t, .tmp u, .tmp v, .tmp x]) (tmps : Array Value) (P : Program) (w : World) :
    (results fn tmps).run P w = .ok (.tuple #[tmps.getD t undef, tmps.getD u undef, tmps.getD v undef, tmps.getD x undef]) w := by
  simp [results, h, go_sem]
/-- The state of shape's walk: the cursor, the head's two numbers. -/
structure ShS (w W : World) (g B : Nat) (a : Option Addr) (c : Nat) (z : List Int) (i : Nat) (e v0 v1 : Int) : Prop where
  bl : Below w.heap.size w W
  cu : CurC W g a c z i e
  ar : W.heap[B]? = some (.cells #[.int .i64 v0, .int .i64 v1] 72 (0, 0))
  gw : w.heap.size ≤ g
  bw : w.heap.size ≤ B
  ne : B ≠ g
  ab : ∀ x, a = some x → x.block < w.heap.size
section
variable {w W W' : World} {g B : Nat} {a : Option Addr} {c : Nat} {z : List Int} {i i' : Nat} {e e' v0 v1 : Int}
theorem ShS.step (h : ShS w W g B a c z i e v0 v1) (hC : CurC W' g a c z i' e') (hk : Kept (fun k => k = g) W W') : ShS w W' g B a c z i' e' v0 v1 :=
  ⟨h.bl.trans (Kept.to_below hk h.bl.size (fun k hk => by subst hk; exact h.gw)), hC, (hk.block B (Array.getElem?_eq_some_iff.1 h.ar).1 h.ne).trans h.ar, h.gw, h.bw, h.ne, h.ab⟩
theorem ShS.set0 (h : ShS w W g B a c z i e v0 v1) (u : Int) : ShS w (W.setCell ⟨B, 0, none⟩ (.int .i64 u)) g B a c z i e u v1 :=
  ⟨h.bl.setCell (p := ⟨B, 0, none⟩) h.bw _, h.cu.kept ((Kept.refl (fun k => k = B) W).setCell (p := ⟨B, 0, none⟩) (.inl rfl) _) h.ne.symm (fun x hx => by have := h.ab x hx; have := h.bw; omega), heap_setCell_same _ _ 0 _ _ _ h.ar, h.gw, h.bw, h.ne, h.ab⟩
theorem ShS.set1 (h : ShS w W g B a c z i e v0 v1) (u : Int) : ShS w (W.setCell ⟨B, 1, none⟩ (.int .i64 u)) g B a c z i e v0 u :=
  ⟨h.bl.setCell (p := ⟨B, 1, none⟩) h.bw _, h.cu.kept ((Kept.refl (fun k => k = B) W).setCell (p := ⟨B, 1, none⟩) (.inl rfl) _) h.ne.symm (fun x hx => by have := h.ab x hx; have := h.bw; omega), heap_setCell_same _ _ 1 _ _ _ h.ar, h.gw, h.bw, h.ne, h.ab⟩
theorem ShS.new (h : ShS w W g B a c z i e v0 v1) (m : Nat) (o : Obj) : ShS w ((W.drewN m).alloc o) g B a c z i e v0 v1 :=
  ⟨(below_drewN h.bl m).alloc h.bl.size _, h.cu.kept (((Kept.refl (fun _ => False) W).drewN m).alloc _) (fun h => h) (fun _ _ h => h), (Below.heap_alloc _ _ _ (Array.getElem?_eq_some_iff.1 h.ar).1).trans h.ar, h.gw, h.bw, h.ne, h.ab⟩
theorem ShS.dr (h : ShS w W g B a c z i e v0 v1) (m : Nat) : ShS w (W.drewN m) g B a c z i e v0 v1 := ⟨below_drewN h.bl m, h.cu.drewN m, h.ar, h.gw, h.bw, h.ne, h.ab⟩
theorem ShS.c0 (h : ShS w W g B a c z i e v0 v1) : W.cell? ⟨B, 0, none⟩ = some (.int .i64 v0) := cell_of_row W B 0 _ _ _ h.ar
theorem ShS.c1 (h : ShS w W g B a c z i e v0 v1) : W.cell? ⟨B, 1, none⟩ = some (.int .i64 v1) := cell_of_row W B 1 _ _ _ h.ar
theorem ShS.f (h : ShS w W g B a c z i e v0 v1) (k : Nat) : W.frozen? ⟨B, k, none⟩ = false := frozen_of_row W B k _ _ h.ar
end
theorem wrap64_id {m : Nat} (h : m ≤ 1000000) : wrap64 (m : Int) = (m : Int) := by unfold wrap64; omega
theorem wrap64_add {a b c : Nat} (h : a + b = c) (hc : c ≤ 1000000) : wrap64 ((a : Int) + (b : Int)) = (c : Int) := by unfold wrap64; omega
theorem wrap64_add2 {a b c : Nat} (h : a + b = c) (ha : a ≤ 1000000) (hb : b ≤ 67108864) : wrap64 ((a : Int) + (b : Int)) = (c : Int) := by unfold wrap64; omega
theorem blocksQ (w : World) (n : Nat) (hn : n ≤ 4194304) : Calls Tryd.prog 13 #[.int .i64 (n : Nat)] w fun e w' => e = .returned (.int .i64 (((n + 15) / 16 : Nat) : Int)) ∧ w = w' := by
  have e1 : ((n : Int) + 15) / 16 = (((n + 15) / 16 : Nat) : Int) := by omega
  go_enter Tryd.func13, Tryd.ntmps13
  go_wp2
  go_ret
  exact ⟨by go_num, rfl⟩
set_option maxRecDepth 100000 in
set_option maxHeartbeats 2000000 in
theorem shape_calls (w : World) (a : Option Addr) (c : Nat) (b : List UInt8) (hs : SlI .u8 w a b.length c (nums b)) (hn : a = none → c = 0) (ha : ∀ x, a = some x → x.block < w.heap.size) :
    Calls Tryd.prog 11 #[.slice a b.length c] w (ShapeR w a c b) := by
  have hlc := hs.le
  have hcm := hs.max
  have hA := hdA_rg b
  have hB := hdB_rg b
  have hu := nums_u8 b
  obtain ⟨A, hAe⟩ : ∃ A, A = hdA b := ⟨_, rfl⟩
  obtain ⟨B, hBe⟩ : ∃ B, B = hdB b := ⟨_, rfl⟩
  have hc1 : ∀ W g, CurC W g a c (nums b) 0 0 → Calls Tryd.prog 29 #[.pointer (some ⟨g, 0, none⟩)] W fun e' w' => e' = .returned (.int .u64 A.1) ∧ CurC w' g a c (nums b) A.2.1 A.2.2 ∧ Kept (fun k => k = g) W w' := fun W g hC => by
    have := cvarint_calls W g a c (nums b) 0 0 hC hu
    rw [hAe]; exact this
  have hc2 : ∀ W g, CurC W g a c (nums b) A.2.1 0 → Calls Tryd.prog 29 #[.pointer (some ⟨g, 0, none⟩)] W fun e' w' => e' = .returned (.int .u64 B.1) ∧ CurC w' g a c (nums b) B.2.1 B.2.2 ∧ Kept (fun k => k = g) W w' := fun W g hC => by
    have := cvarint_calls W g a c (nums b) A.2.1 0 hC hu
    rw [hBe]; unfold hdB; rw [← hAe]; exact this
  rw [← hAe] at hA hB
  rw [← hBe] at hB
  have HAE := Lib.hid hAe
  have HBE := Lib.hid hBe
  have H1 := Lib.hid hc1
  have H2 := Lib.hid hc2
  have hrd := rdC_calls w a b.length c (nums b) hs hn ha
  have HRD := Lib.hid hrd
  have HS := Lib.hid hs
  have HN := Lib.hid hn
  have HAB := Lib.hid ha
  clear hAe hBe hc1 hc2 hrd hs hn ha
  obtain ⟨x, i1, e1⟩ := A
  obtain ⟨y, i2, e2⟩ := B
  simp only at hA hB
  have ix0 : ∀ W, (Instr.index 73 (.agg #[.int .u64 4194304, .int .u64 67108864]) (.int .i64 0)).run Tryd.prog W = .ok (.int .u64 4194304) W := fun W => by kernel_rfl
  have ix1 : ∀ W, (Instr.index 73 (.agg #[.int .u64 4194304, .int .u64 67108864]) (.int .i64 1)).run Tryd.prog W = .ok (.int .u64 67108864) W := fun W => by kernel_rfl
  go_enter Tryd.func11, Tryd.ntmps11
  go_upto_region 3 with (go_at_call 27; go_loud (refine HRD.out.mono ?_; rintro e w1 ⟨rfl, hC, k1⟩; (have HC1 := Lib.hid hC); (have B1 := Lib.hid (Kept.to_below k1 (Nat.le_refl w.heap.size) (fun _ h => h.elim))); (have z1 := k1.size); clear hC k1))
  have hC2 : CurC (w1.alloc (.cells #[.int .i64 0, .int .i64 0] 72)) w.heap.size a c (nums b) 0 0 := HC1.out.kept ((Kept.refl (fun _ => False) w1).alloc _) (fun h => h) (fun _ _ h => h)
  have hS0 : ShS w (w1.alloc (.cells #[.int .i64 0, .int .i64 0] 72)) w.heap.size w1.heap.size a c (nums b) 0 0 0 0 := ⟨B1.out.alloc z1 _, hC2, heap_alloc_new _ _, Nat.le_refl _, z1, (by have := (Array.getElem?_eq_some_iff.1 HC1.out.blk).1; omega), HAB.out⟩
  clear hC2 HC1 B1
  generalize (w1.alloc (.cells #[.int .i64 0, .int .i64 0] 72)) = W0 at hS0 ⊢
  generalize w1.heap.size = gB at hS0 ⊢
  have S0 := Lib.hid hS0
  have hgw := hS0.gw
  clear hS0 z1
  generalize w.heap.size = gC at S0 ⊢
  go_wp2
  refine wp_loop_rounds 3 ?_
  rw [rounds_succ]
  go_upto_region 8 with (first | (go_at_call 28; (refine (at_calls _ _ _ _ _ _ _ S0.out.cu).mono ?_); rintro e wa ⟨rfl, rfl⟩) | (go_at_call 29; (refine (H1.out _ _ S0.out.cu).mono ?_); rintro e W1 ⟨rfl, hC, hk⟩; (have S1 := Lib.hid (S0.out.step hC hk)); clear hC hk))
  by_cases he1 : e1 = 0
  rotate_left
  · have ee : (e1 != 0) = true := by simp [he1]
    have hv : shE b = (e1, 0) := by
      unfold shE; rw [← HAE.out]; simp only; rw [if_pos he1]
    have HV := Lib.hid hv
    have hne : e1 ≠ 0 := he1
    clear hv he1
    go_wp2_with (first | (go_at_call 30; (refine (err_calls _ _ _ _ _ _ _ S1.out.cu).mono ?_); rintro e wa ⟨rfl, rfl⟩) | (go_at_call 14; (with_reducible refine (wrong_calls _ _ _).mono ?_); rintro e w9 ⟨b9, rfl, hb9, hr9, hbe9⟩; (have HR9 := Lib.hid hr9); (have HBE9 := Lib.hid hbe9); clear hr9 hbe9))
    ((try simp only [Exit.inBlock, Exit.then]); refine bodyPost_ret (results_tmp4D rfl _ _ _) rfl ?_)
    exact ⟨S1.out.bl.trans (HBE9.out.mono S1.out.bl.size), .inl ⟨by rw [HV.out]; exact hne, _, rfl, by rw [HV.out]; exact .inr ⟨_, hne, rfl, HR9.out⟩⟩⟩
  subst he1
  by_cases hx : 4194304 < x
  · have ee : decide ((4194304 : Int) < x) = true := decide_eq_true hx
    have hv : shE b = (2, 0) := by
      unfold shE; rw [← HAE.out]; simp only; rw [if_neg (by simp), if_pos hx]
    have HV := Lib.hid hv
    have hne : (2 : Int) ≠ 0 := by decide
    clear hv hx
    go_wp2_with (first | (go_at_call 30; (refine (err_calls _ _ _ _ _ _ _ S1.out.cu).mono ?_); rintro e wa ⟨rfl, rfl⟩) | (go_at_call 14; (with_reducible refine (wrong_calls _ _ _).mono ?_); rintro e w9 ⟨b9, rfl, hb9, hr9, hbe9⟩; (have HR9 := Lib.hid hr9); (have HBE9 := Lib.hid hbe9); clear hr9 hbe9))
    ((try simp only [Exit.inBlock, Exit.then]); refine bodyPost_ret (results_tmp4D rfl _ _ _) rfl ?_)
    exact ⟨S1.out.bl.trans (HBE9.out.mono S1.out.bl.size), .inl ⟨by rw [HV.out]; exact hne, _, rfl, by rw [HV.out]; exact .inr ⟨_, hne, rfl, HR9.out⟩⟩⟩
  have ex : decide ((4194304 : Int) < x) = false := decide_eq_false hx
  obtain ⟨n, hn⟩ : ∃ n : Nat, x = (n : Int) := ⟨x.toNat, by omega⟩
  subst hn
  have f0 := S1.out.f 0
  have k0 := S1.out.c0
  have hwn : wrap64 (n : Int) = (n : Int) := by unfold wrap64; omega
  have hnN : n ≤ 4194304 := by omega
  have HNN := Lib.hid hnN
  clear hnN
  have hHN : hdN b = n := by unfold hdN; rw [← HAE.out]; rfl
  have HHN := Lib.hid hHN
  clear hHN
  go_wp2_with (first | (go_at_call 30; (refine (err_calls _ _ _ _ _ _ _ S1.out.cu).mono ?_); rintro e wa ⟨rfl, rfl⟩))
  have hS2 := S1.out.set0 (n : Int)
  generalize W1.setCell ⟨gB, 0, none⟩ (.int .i64 (n : Nat)) = W2 at hS2 ⊢
  have S2 := Lib.hid hS2
  clear hS2 f0 k0 ex S1
  rw [rounds_succ]
  go_upto_region 8 with (first | (go_at_call 28; (refine (at_calls _ _ _ _ _ _ _ S2.out.cu).mono ?_); rintro e wa ⟨rfl, rfl⟩) | (go_at_call 29; (refine (H2.out _ _ S2.out.cu).mono ?_); rintro e W3 ⟨rfl, hC, hk⟩; (have S3 := Lib.hid (S2.out.step hC hk)); clear hC hk))
  have hvB : shE b = if e2 ≠ 0 then (e2, i1) else if 67108864 < y then (2, i1) else if b.length < hd4 b + hdS b then (10, b.length) else if hd4 b + hdS b < b.length then (13, hd4 b + hdS b) else (0, 0) := by
    unfold shE; rw [← HAE.out, ← HBE.out]; simp only; rw [if_neg (by simp), if_neg (by omega)]
  by_cases he2 : e2 = 0
  rotate_left
  · have ee : (e2 != 0) = true := by simp [he2]
    have hv : shE b = (e2, i1) := by rw [hvB, if_pos he2]
    have HV := Lib.hid hv
    have hne : e2 ≠ 0 := he2
    clear hv he2 hvB
    go_wp2_with (first | (go_at_call 30; (refine (err_calls _ _ _ _ _ _ _ S3.out.cu).mono ?_); rintro e wa ⟨rfl, rfl⟩) | (go_at_call 14; (with_reducible refine (wrong_calls _ _ _).mono ?_); rintro e w9 ⟨b9, rfl, hb9, hr9, hbe9⟩; (have HR9 := Lib.hid hr9); (have HBE9 := Lib.hid hbe9); clear hr9 hbe9))
    ((try simp only [Exit.inBlock, Exit.then]); refine bodyPost_ret (results_tmp4D rfl _ _ _) rfl ?_)
    exact ⟨S3.out.bl.trans (HBE9.out.mono S3.out.bl.size), .inl ⟨by rw [HV.out]; exact hne, _, rfl, by rw [HV.out]; exact .inr ⟨_, hne, rfl, HR9.out⟩⟩⟩
  subst he2
  by_cases hy : 67108864 < y
  · have ee : decide ((67108864 : Int) < y) = true := decide_eq_true hy
    have hv : shE b = (2, i1) := by rw [hvB, if_neg (by simp), if_pos hy]
    have HV := Lib.hid hv
    have hne : (2 : Int) ≠ 0 := by decide
    clear hv hy hvB
    go_wp2_with (first | (go_at_call 30; (refine (err_calls _ _ _ _ _ _ _ S3.out.cu).mono ?_); rintro e wa ⟨rfl, rfl⟩) | (go_at_call 14; (with_reducible refine (wrong_calls _ _ _).mono ?_); rintro e w9 ⟨b9, rfl, hb9, hr9, hbe9⟩; (have HR9 := Lib.hid hr9); (have HBE9 := Lib.hid hbe9); clear hr9 hbe9))
    ((try simp only [Exit.inBlock, Exit.then]); refine bodyPost_ret (results_tmp4D rfl _ _ _) rfl ?_)
    exact ⟨S3.out.bl.trans (HBE9.out.mono S3.out.bl.size), .inl ⟨by rw [HV.out]; exact hne, _, rfl, by rw [HV.out]; exact .inr ⟨_, hne, rfl, HR9.out⟩⟩⟩
  have ey : decide ((67108864 : Int) < y) = false := decide_eq_false hy
  obtain ⟨sz, hsz⟩ : ∃ n : Nat, y = (n : Int) := ⟨y.toNat, by omega⟩
  subst hsz
  have f0 := S3.out.f 1
  have k0 := S3.out.c1
  have hszb : sz ≤ 67108864 := by omega
  have HSZ := Lib.hid hszb
  clear hszb
  have hwz : wrap64 (sz : Int) = (sz : Int) := by unfold wrap64; omega
  have hHS : hdS b = sz := by unfold hdS; rw [← HBE.out]; rfl
  have hH3 : hd3 b = i2 := by unfold hd3; rw [← HBE.out]
  have hW := hdW_rg (b := b) (by rw [← HBE.out]; simp only; omega)
  rw [← HBE.out] at hW
  simp only at hW
  have hHW := hW.1
  have hWN := hW.2
  obtain ⟨wd, hwd⟩ : ∃ wd, wd = hdW b := ⟨_, rfl⟩
  rw [← hwd] at hHW hWN
  have hv4 : hd4 b = i2 + ((n + 15) / 16 * wd + 7) / 8 := by unfold hd4; rw [hH3, HHN.out, ← hwd]
  rw [if_neg (by simp), if_neg hy, hv4, hHS] at hvB
  have HWD := Lib.hid hwd
  have HV4 := Lib.hid hv4
  have HHS := Lib.hid hHS
  have HH3 := Lib.hid hH3
  have HVB := Lib.hid hvB
  clear hW hwd hv4 hHS hH3 hvB hy
  go_wp2_with (first | (go_at_call 30; (refine (err_calls _ _ _ _ _ _ _ S3.out.cu).mono ?_); rintro e wa ⟨rfl, rfl⟩))
  have hS4 := S3.out.set1 (sz : Int)
  generalize W3.setCell ⟨gB, 1, none⟩ (.int .i64 (sz : Nat)) = W4 at hS4 ⊢
  have S4 := Lib.hid hS4
  clear hS4 f0 k0 ey S3 S2 S0
  rw [rounds_succ]
  go_upto_region 15 with fail
  have k0 := S4.out.c0
  have k1 := S4.out.c1
  have hwu : IntKind.u64.wrap (sz : Int) = (sz : Int) := by rw [IntKind.wrap_u64]; omega
  have hwc : ∀ W, Calls Tryd.prog 31 #[.int .u64 (sz : Nat)] W fun e w' => e = .returned (.int .i64 (wd : Nat)) ∧ W = w' := fun W => by
    have := width_calls (sz : Nat) W (by omega) (by omega)
    rw [hHW] at this; exact this
  have HWC := Lib.hid hwc
  clear hwc
  refine wp_region_quiet_tail (fun w' => ∃ n, w' = World.drewN _ n) 7 (by kernel_rfl) (by kernel_rfl) ⟨1, rfl⟩ ?_
  simp only [List.take_succ_cons, List.take_zero, List.drop_succ_cons, List.drop_zero]
  repeat (go_big_quiet_step ((go_at_call 31; exact quiet_eq (HWC.out _))))
  refine wpQuiet_nil ?_
  rintro _ ⟨n1, rfl⟩
  clear k0 k1
  go_upto_region 16 with fail
  have hd5 : ((W4.drewN n1).alloc (.cells #[.int .i64 (n : Nat), .int .i64 (wd : Nat), .slice none 0 0, .slice none 0 0] 49)).heap[W4.heap.size]? = some (.cells #[.int .i64 (n : Nat), .int .i64 (wd : Nat), .slice none 0 0, .slice none 0 0] 49 (0, 0)) := heap_alloc_new (W4.drewN n1) _
  have hS5 : ShS w ((W4.drewN n1).alloc (.cells #[.int .i64 (n : Nat), .int .i64 (wd : Nat), .slice none 0 0, .slice none 0 0] 49)) gC gB a c (nums b) i2 0 (n : Nat) (sz : Nat) := S4.out.new n1 _
  have hgd1 : gC < W4.heap.size := (Array.getElem?_eq_some_iff.1 S4.out.cu.blk).1
  have hgd2 : gB < W4.heap.size := (Array.getElem?_eq_some_iff.1 S4.out.ar).1
  have hgd3 : w.heap.size ≤ W4.heap.size := S4.out.bl.size
  clear S4
  generalize ((W4.drewN n1).alloc (.cells #[.int .i64 (n : Nat), .int .i64 (wd : Nat), .slice none 0 0, .slice none 0 0] 49)) = W5 at hd5 hS5 ⊢
  generalize W4.heap.size = gd at hd5 hgd1 hgd2 hgd3 ⊢
  have S5 := Lib.hid hS5
  have HD5 := Lib.hid hd5
  clear hS5 hd5
  go_upto_region 17 with (first | (go_at_call 28; (refine (at_calls _ _ _ _ _ _ _ S5.out.cu).mono ?_); rintro e wa ⟨rfl, rfl⟩))
  have k0 : W5.cell? ⟨gd, 0, none⟩ = some (.int .i64 (n : Nat)) := cell_of_row W5 gd 0 _ _ _ HD5.out
  have k1 : W5.cell? ⟨gd, 1, none⟩ = some (.int .i64 (wd : Nat)) := cell_of_row W5 gd 1 _ _ _ HD5.out
  obtain ⟨R, hR⟩ : ∃ R, R = (n + 15) / 16 := ⟨_, rfl⟩
  have hRb : R ≤ 262144 := by omega
  obtain ⟨P, hP⟩ : ∃ P, P = R * wd := ⟨_, rfl⟩
  have hPb : P ≤ 262144 * 27 := by rw [hP]; exact Nat.mul_le_mul hRb hWN
  have hPi : (R : Int) * (wd : Int) = (P : Int) := by rw [hP, Int.natCast_mul]
  obtain ⟨Q, hQ⟩ : ∃ Q, Q = P + 7 := ⟨_, rfl⟩
  obtain ⟨Tq, hTq⟩ : ∃ Tq, Tq = Q / 8 := ⟨_, rfl⟩
  obtain ⟨F, hF⟩ : ∃ F, F = i2 + Tq := ⟨_, rfl⟩
  have hi20 : i2 ≤ 20 := by have := hd3_le b; rw [HH3.out] at this; exact this
  have q1 : IntKind.i64.wrap ((R : Int) * (wd : Int)) = (P : Int) := by rw [hPi, IntKind.wrap_i64]; omega
  have q2 : IntKind.i64.wrap ((P : Int) + 7) = (Q : Int) := by rw [IntKind.wrap_i64]; omega
  have q3 : (Q : Int) / 8 = (Tq : Int) := by omega
  have hFb : F ≤ 1000000 := by omega
  have q4 : wrap64 (Tq : Int) = (Tq : Int) := wrap64_id (by omega)
  have q5 : wrap64 ((i2 : Int) + (Tq : Int)) = (F : Int) := wrap64_add hF.symm hFb
  have h4F : hd4 b = F := by rw [HV4.out, ← hR, ← hP, ← hQ, ← hTq, ← hF]
  have hbq : ∀ W, Calls Tryd.prog 13 #[.int .i64 (n : Nat)] W fun e w' => e = .returned (.int .i64 (R : Nat)) ∧ W = w' := fun W => by rw [hR]; exact blocksQ W n (by omega)
  have HBQ := Lib.hid hbq
  have HR := Lib.hid hR
  have H4F := Lib.hid h4F
  have hFi : i2 ≤ F := by rw [hF]; exact Nat.le_add_right _ _
  have HF : Hid (F - i2 = (((n + 15) / 16) * wd + 7) / 8) := Lib.hid (by rw [hF, Nat.add_sub_cancel_left, hTq, hQ, hP, hR])
  clear hbq hR hP hPi hQ hTq hF h4F
  go_quiet ((go_at_call 13; exact quiet_eq (HBQ.out _)))
  simp only [q4, q5]
  have hS6 := S5.out.dr nq
  have hd6 : (W5.drewN nq).heap[gd]? = some (.cells #[.int .i64 (n : Nat), .int .i64 (wd : Nat), .slice none 0 0, .slice none 0 0] 49 (0, 0)) := HD5.out
  clear S5 HD5 k0 k1 q1 q2 q3 hPb hRb hHW hwu hwz
  generalize W5.drewN nq = W6 at hS6 hd6 ⊢
  have kB := hS6.c1
  have S6 := Lib.hid hS6
  have HD6 := Lib.hid hd6
  clear hS6 hd6
  obtain ⟨E, hE⟩ : ∃ E, E = F + sz := ⟨_, rfl⟩
  have q6 : wrap64 ((F : Int) + (sz : Int)) = (E : Int) := wrap64_add2 hE.symm hFb HSZ.out
  have hvb := HVB.out
  have hvE : shE b = if b.length < E then (10, b.length) else if E < b.length then (13, E) else (0, 0) := by
    rw [hvb, ← HV4.out, H4F.out, ← hE]
  have HE := Lib.hid hE
  have HVE := Lib.hid hvE
  clear hvb hvE hE HVB
  go_upto_region 19 with fail
  try simp only [q6]
  by_cases hsh : b.length < E
  · have e1 : decide ((b.length : Int) < (E : Int)) = true := decide_eq_true (by omega)
    have e1' : decide (b.length < E) = true := decide_eq_true hsh
    have hv : shE b = (10, b.length) := by rw [HVE.out, if_pos hsh]
    have HV := Lib.hid hv
    have hne : (10 : Int) ≠ 0 := by decide
    clear hv hsh
    go_wp2_with (first | (go_at_call 30; (refine (err_calls _ _ _ _ _ _ _ S6.out.cu).mono ?_); rintro e wa ⟨rfl, rfl⟩) | (go_at_call 14; (with_reducible refine (wrong_calls _ _ _).mono ?_); rintro e w9 ⟨b9, rfl, hb9, hr9, hbe9⟩; (have HR9 := Lib.hid hr9); (have HBE9 := Lib.hid hbe9); clear hr9 hbe9))
    ((try simp only [Exit.inBlock, Exit.then]); refine bodyPost_ret (results_tmp4D rfl _ _ _) rfl ?_)
    exact ⟨S6.out.bl.trans (HBE9.out.mono S6.out.bl.size), .inl ⟨by rw [HV.out]; exact hne, _, rfl, by rw [HV.out]; exact .inr ⟨_, hne, rfl, HR9.out⟩⟩⟩
  have e1 : decide ((b.length : Int) < (E : Int)) = false := decide_eq_false (by omega)
  have e1' : decide (b.length < E) = false := decide_eq_false hsh
  by_cases hmo : E < b.length
  · have e2 : decide ((E : Int) < (b.length : Int)) = true := decide_eq_true (by omega)
    have e2' : decide (E < b.length) = true := decide_eq_true hmo
    have hv : shE b = (13, E) := by rw [HVE.out, if_neg hsh, if_pos hmo]
    have HV := Lib.hid hv
    have hne : (13 : Int) ≠ 0 := by decide
    clear hv hsh hmo
    go_wp2_with (first | (go_at_call 30; (refine (err_calls _ _ _ _ _ _ _ S6.out.cu).mono ?_); rintro e wa ⟨rfl, rfl⟩) | (go_at_call 14; (with_reducible refine (wrong_calls _ _ _).mono ?_); rintro e w9 ⟨b9, rfl, hb9, hr9, hbe9⟩; (have HR9 := Lib.hid hr9); (have HBE9 := Lib.hid hbe9); clear hr9 hbe9))
    ((try simp only [Exit.inBlock, Exit.then]); refine bodyPost_ret (results_tmp4D rfl _ _ _) rfl ?_)
    exact ⟨S6.out.bl.trans (HBE9.out.mono S6.out.bl.size), .inl ⟨by rw [HV.out]; exact hne, _, rfl, by rw [HV.out]; exact .inr ⟨_, hne, rfl, HR9.out⟩⟩⟩
  have e2 : decide ((E : Int) < (b.length : Int)) = false := decide_eq_false (by omega)
  have e2' : decide (E < b.length) = false := decide_eq_false hmo
  have hlen : b.length = E := by omega
  have hv : shE b = (0, 0) := by rw [HVE.out, if_neg hsh, if_neg hmo]
  have HV := Lib.hid hv
  clear hv hsh hmo
  go_upto_region 23 with fail
  have hEc : E ≤ c := by rw [← hlen]; exact hlc
  have hFE : F ≤ E := by rw [HE.out]; exact Nat.le_add_right _ _
  have hFc : F ≤ c := Nat.le_trans hFE hEc
  obtain ⟨A1, hA1⟩ : ∃ A1, A1 = (if c = i2 then a else Option.map (fun x => x.add i2) a) := ⟨_, rfl⟩
  obtain ⟨A2, hA2⟩ : ∃ A2, A2 = (if c = F then a else Option.map (fun x => x.add F) a) := ⟨_, rfl⟩
  obtain ⟨n1, hn1⟩ : ∃ n1, n1 = F - i2 := ⟨_, rfl⟩
  have hEF : E - F = sz := by rw [HE.out]; exact Nat.add_sub_cancel_left F sz
  obtain ⟨c1, hc1⟩ : ∃ c1, c1 = c - i2 := ⟨_, rfl⟩
  obtain ⟨c2, hc2⟩ : ∃ c2, c2 = c - F := ⟨_, rfl⟩
  have hA1' := hA1.symm
  have hA2' := hA2.symm
  have hn1' := hn1.symm
  have hc1' := hc1.symm
  have hc2' := hc2.symm
  have f2 : W6.frozen? ⟨gd, 2, none⟩ = false := frozen_of_row W6 gd 2 _ _ HD6.out
  have f3 : W6.frozen? ⟨gd, 3, none⟩ = false := frozen_of_row W6 gd 3 _ _ HD6.out
  have k2 : W6.cell? ⟨gd, 2, none⟩ = some (.slice none 0 0) := cell_of_row W6 gd 2 _ _ _ HD6.out
  have k3 : W6.cell? ⟨gd, 3, none⟩ = some (.slice none 0 0) := cell_of_row W6 gd 3 _ _ _ HD6.out
  have HA1 := Lib.hid hA1
  have HA2 := Lib.hid hA2
  have HN1 := Lib.hid hn1
  have HCA := Lib.hid hc1
  have HCB := Lib.hid hc2
  have HLEN := Lib.hid hlen
  clear hA1 hA2 hn1 hc1 hc2 hlen hA hB hcm hlc q4 q5 q6 kB e1 e1' e2 e2' ix0 ix1 hu
  refine wh_start (S := fun _ => True) 16 rfl (by kernel_rfl) ?_
  have hdd : W6.drew.heap[gd]? = some (.cells #[.int .i64 (n : Nat), .int .i64 (wd : Nat), .slice none 0 0, .slice none 0 0] 49 (0, 0)) := HD6.out
  have hbd : Below w.heap.size w W6.drew := Below.drew S6.out.bl
  have HD6 := Lib.hid hdd
  have HBD := Lib.hid hbd
  clear hdd hbd k2 k3 f2 f3
  generalize W6.drew = W6d at HD6 HBD ⊢
  have f2 : W6d.frozen? ⟨gd, 2, none⟩ = false := frozen_of_row W6d gd 2 _ _ HD6.out
  have k2 : W6d.cell? ⟨gd, 2, none⟩ = some (.slice none 0 0) := cell_of_row W6d gd 2 _ _ _ HD6.out
  refine wh_take 0 (.pointer (some ⟨gd, 0, none⟩)) rfl rfl (by kernel_rfl) (by kernel_rfl) (by kernel_rfl) (fun _ _ _ h => h) trivial (fun w' _ => by simp [go_sem]) ?_
  refine wh_take 1 (.pointer (some ⟨gd, 0, none⟩)) rfl rfl (by kernel_rfl) (by kernel_rfl) (by kernel_rfl) (fun _ _ _ h => h) trivial (fun w' _ => by simp [go_sem]) ?_
  refine wh_take 2 (.slice a b.length c) rfl rfl (by kernel_rfl) (by kernel_rfl) (by kernel_rfl) (fun _ _ _ h => h) trivial (fun w' _ => by simp [go_sem]) ?_
  refine wh_take 3 (.int .i64 (i2 : Nat)) rfl rfl (by kernel_rfl) (by kernel_rfl) (by kernel_rfl) (fun _ _ _ h => h) trivial (fun w' _ => by simp [go_sem]) ?_
  refine wh_take 4 (.int .i64 (F : Nat)) rfl rfl (by kernel_rfl) (by kernel_rfl) (by kernel_rfl) (fun _ _ _ h => h) trivial (fun w' _ => by simp [go_sem]) ?_
  refine wh_take 5 (.slice A1 n1 c1) rfl rfl (by kernel_rfl) (by kernel_rfl) (by kernel_rfl) (fun _ _ _ h => h) trivial (fun w' _ => by simp [go_sem, hFi, hFc, hA1', hn1', hc1']) ?_
  refine wh_take 6 (.slice a b.length c) rfl rfl (by kernel_rfl) (by kernel_rfl) (by kernel_rfl) (fun _ _ _ h => h) trivial (fun w' _ => by simp [go_sem]) ?_
  refine wh_take 7 (.int .i64 (F : Nat)) rfl rfl (by kernel_rfl) (by kernel_rfl) (by kernel_rfl) (fun _ _ _ h => h) trivial (fun w' _ => by simp [go_sem]) ?_
  refine wh_take 8 (.int .i64 (E : Nat)) rfl rfl (by kernel_rfl) (by kernel_rfl) (by kernel_rfl) (fun _ _ _ h => h) trivial (fun w' _ => by simp [go_sem]) ?_
  refine wh_take 9 (.slice A2 sz c2) rfl rfl (by kernel_rfl) (by kernel_rfl) (by kernel_rfl) (fun _ _ _ h => h) trivial (fun w' _ => by simp [go_sem, hFE, hEc, hA2', hEF, hc2']) ?_
  refine wh_take 10 (.pointer (some ⟨gd, 0, none⟩)) rfl rfl (by kernel_rfl) (by kernel_rfl) (by kernel_rfl) (fun _ _ _ h => h) trivial (fun w' _ => by simp [go_sem]) ?_
  refine wh_take 11 (.pointer (some ⟨gd, 2, none⟩)) rfl rfl (by kernel_rfl) (by kernel_rfl) (by kernel_rfl) (fun _ _ _ h => h) trivial (fun w' _ => by simp [go_sem]) ?_
  have hr1 : (W6d.setCell ⟨gd, 2, none⟩ (.slice A1 n1 c1)).heap[gd]? = some (.cells #[.int .i64 (n : Nat), .int .i64 (wd : Nat), .slice A1 n1 c1, .slice none 0 0] 49 (0, 0)) := heap_setCell_same _ _ 2 _ _ _ HD6.out
  refine wh_skip 12 (w' := W6d.setCell ⟨gd, 2, none⟩ (.slice A1 n1 c1)) rfl rfl (by kernel_rfl) (by simp [go_sem, k2, f2]) trivial ?_
  have f3' : (W6d.setCell ⟨gd, 2, none⟩ (.slice A1 n1 c1)).frozen? ⟨gd, 3, none⟩ = false := frozen_of_row _ gd 3 _ _ hr1
  have k3' : (W6d.setCell ⟨gd, 2, none⟩ (.slice A1 n1 c1)).cell? ⟨gd, 3, none⟩ = some (.slice none 0 0) := cell_of_row _ gd 3 _ _ _ hr1
  have hr2 : ((W6d.setCell ⟨gd, 2, none⟩ (.slice A1 n1 c1)).setCell ⟨gd, 3, none⟩ (.slice A2 sz c2)).heap[gd]? = some (.cells #[.int .i64 (n : Nat), .int .i64 (wd : Nat), .slice A1 n1 c1, .slice A2 sz c2] 49 (0, 0)) := heap_setCell_same _ _ 3 _ _ _ hr1
  have hb7 : Below w.heap.size w ((W6d.setCell ⟨gd, 2, none⟩ (.slice A1 n1 c1)).setCell ⟨gd, 3, none⟩ (.slice A2 sz c2)) := (HBD.out.setCell (p := ⟨gd, 2, none⟩) hgd3 _).setCell (p := ⟨gd, 3, none⟩) hgd3 _
  refine wh_step 13 (w' := W6d.setCell ⟨gd, 2, none⟩ (.slice A1 n1 c1)) (.pointer (some ⟨gd, 0, none⟩)) rfl rfl (by kernel_rfl) (by simp [go_sem]) trivial ?_
  refine wh_step 14 (w' := W6d.setCell ⟨gd, 2, none⟩ (.slice A1 n1 c1)) (.pointer (some ⟨gd, 3, none⟩)) rfl rfl (by kernel_rfl) (by simp [go_sem]) trivial ?_
  refine wh_skip 15 (w' := (W6d.setCell ⟨gd, 2, none⟩ (.slice A1 n1 c1)).setCell ⟨gd, 3, none⟩ (.slice A2 sz c2)) rfl rfl (by kernel_rfl) (by simp [go_sem, k3', f3']) trivial ?_
  refine wpAnyH_done (by kernel_rfl) ?_ 0
  generalize ((W6d.setCell ⟨gd, 2, none⟩ (.slice A1 n1 c1)).setCell ⟨gd, 3, none⟩ (.slice A2 sz c2)) = W7 at hr2 hb7 ⊢
  have HR := Lib.hid hr2
  have HB7 := Lib.hid hb7
  clear hr1 hr2 hb7 f3' k3' k2 f2
  simp only [go_sem, List.setIfInBounds_toArray, List.set_cons_succ, List.set_cons_zero]
  go_wp2
  ((try simp only [Exit.inBlock, Exit.then]); refine bodyPost_ret (results_tmp4D rfl _ _ _) rfl ?_)
  have hpl : (hdP b).length = n1 := by unfold hdP; rw [HH3.out, H4F.out, ← HN1.out, List.length_take, List.length_drop, HLEN.out, HN1.out]; exact Nat.min_eq_left (Nat.sub_le_sub_right hFE i2)
  have hel : (hdE b).length = sz := by unfold hdE; rw [H4F.out, HHS.out, List.length_take, List.length_drop, HLEN.out, hEF]; exact Nat.min_self sz
  have hsw := HS.out.keep HB7.out
  have hp := SlI.cut hsw i2 n1 (by rw [HLEN.out, HN1.out]; omega)
  have he := SlI.cut hsw F sz (by rw [HLEN.out, HE.out]; exact Nat.le_refl _)
  rw [nums_drop, nums_take, nb6, ← HA1.out, ← HCA.out] at hp
  rw [nums_drop, nums_take, nb6, ← HA2.out, ← HCB.out] at he
  have hpe : (b.drop i2).take n1 = hdP b := by unfold hdP; rw [HH3.out, H4F.out, HN1.out]
  have hee : (b.drop F).take sz = hdE b := by unfold hdE; rw [H4F.out, HHS.out]
  rw [hpe] at hp
  rw [hee] at he
  have hz7 := HB7.out.size
  refine ⟨HB7.out, .inr ⟨by rw [HV.out], gd, A1, c1, A2, c2, hgd3, by rw [HH3.out, H4F.out]; rfl, ?_⟩⟩
  rw [HHN.out, ← HWD.out]
  refine ⟨by rw [nums_len, nums_len, hpl, hel]; exact HR.out, by rw [nums_len, hpl]; exact hp, by rw [nums_len, hel]; exact he, ?_, ?_, nums_u8 _, nums_u8 _, HNN.out, by rw [nums_len, hel]; exact HSZ.out, hWN, by rw [nums_len, hpl, HN1.out, HF.out]⟩
  · intro h0
    rw [HA2.out] at h0
    split at h0
    · have := HN.out h0; rw [HCB.out]; omega
    · cases ha : a with
      | none => have := HN.out ha; rw [HCB.out]; omega
      | some x => rw [ha] at h0; simp at h0
  · intro x hx
    rw [HA2.out] at hx
    split at hx
    · have := HAB.out x hx; omega
    · cases ha : a with
      | none => rw [ha] at hx; simp at hx
      | some y =>
        rw [ha] at hx
        simp at hx
        have := HAB.out y ha
        rw [← hx]
        unfold Addr.add
        split <;> exact Nat.lt_of_lt_of_le this hz7
end Go.Proofs.YtjgcmnppiaikcaaDoor
