/- VbJ VbO, laid as one. -/
import Derived.Test.YtlhcejbimlilaaaGreatDoorVbI
import Derived.Test.YtlhcejbimlilaaaGreatDoorVbN
set_option linter.unusedVariables false
set_option linter.unusedSimpArgs false
/- The program's Equal; the laws' literal, zoned. -/
namespace Go.Proofs.YtlhcejbimlilaaaGreatDoor
open Go.RowKit Go.Tk
def tmEq (a b : Tm) : Bool := a.kd == b.kd && (a.tx.data.toList == b.tx.data.toList && (a.ty.data.toList == b.ty.data.toList && a.la.data.toList == b.la.data.toList))
theorem tm_fields : Tryz.prog.underlying 33 = some (.struct (Tryz.prog.fieldsOf 33)) := by kernel_rfl
theorem tm_stood : Tryz.prog.stoodInHeld 33 = false := by kernel_rfl
theorem tm_guard : Tryz.prog.eqGuardType Tryz.prog.depth 33 = false := by kernel_rfl
theorem tm_equal (a b : Tm) (w : World) : (Op.equalIn 10000 33 a.val b.val).run Tryz.prog w = .ok (tmEq a b) w := by
  unfold Tm.val
  rw [run_equalIn_agg w 9999 _ _ _ tm_fields tm_stood]
  unfold Program.fieldsOf
  rw [Tryz.underlying33]
  simp [go_sem, Op.eqFields, part]
  unfold tmEq
  rw [← Lib.toList_data, ← Lib.toList_data, ← Lib.toList_data, ← Lib.toList_data, ← Lib.toList_data, ← Lib.toList_data]
  repeat' split
  all_goals simp [*]
theorem tm_eql (a b : Tm) (w : World) : (binOp .eql 33 a.val b.val).run Tryz.prog w = .ok (.bool (tmEq a b)) w := by
  have := tm_equal a b w
  unfold Tm.val at this ⊢
  rw [run_eql_struct, this]; rfl
theorem tm_guarded (op : BinOp) (x y : Operand) (p q : Array Value) (w : World) : (eqGuard op 33 x y (.agg p) (.agg q)).run Tryz.prog w = .ok () w := run_eqGuard_agg w op _ x y p q tm_guard
/-- What Equal answers. -/
def eqE (a b : Tm) : Bool := tmEq a b || (cmpE a b).2 && decide ((cmpE a b).1 = 0)
set_option maxHeartbeats 1000000 in
theorem equal_calls (a b : Tm) (w : World) (ha : a.tx.size ≤ 9223372036854775807) (hb : b.tx.size ≤ 9223372036854775807) :
    Calls Tryz.prog 19 #[a.val, b.val] w fun e w' => e = .returned (.bool (eqE a b)) ∧ Below w.heap.size w w' := by
  have hc := fun w => cmp_calls a b w ha hb
  have heq := fun w => tm_eql a b w
  have hgd := tm_guarded
  unfold eqE
  obtain ⟨c, hcc⟩ : ∃ c, c = (cmpE a b).1 := ⟨_, rfl⟩
  obtain ⟨k, hk⟩ : ∃ c, c = (cmpE a b).2 := ⟨_, rfl⟩
  obtain ⟨q, hq⟩ : ∃ c, c = tmEq a b := ⟨_, rfl⟩
  rw [← hcc, ← hk] at hc ⊢
  rw [← hq] at heq ⊢
  clear hcc hk hq ha hb
  obtain ⟨ka, xa, ta, la⟩ := a
  obtain ⟨kb, xb, tb, lb⟩ := b
  unfold Tm.val at hc heq
  unfold Tm.val
  dsimp only at hc heq ⊢
  have HC := Lib.hid hc
  clear hc
  obtain ⟨d, hd⟩ : ∃ d, d = decide (c = 0) := ⟨_, rfl⟩
  have hd0 : (c == (0 : Int)) = d := by rw [hd]; rfl
  rw [← hd]
  clear hd
  go_enter Tryz.func19, Tryz.ntmps19
  go_upto_region 2 with (go_at_call 17; (with_reducible refine (HC.out _).mono ?_); rintro e w1 ⟨rfl, hb1⟩)
  obtain ⟨ra, rb, hab⟩ := box2 w (.cells #[.int .i64 ka, .string xa, .string ta, .string la] 33) (.cells #[.int .i64 kb, .string xb, .string tb, .string lb] 33)
  have sab : ((w.alloc (.cells #[.int .i64 ka, .string xa, .string ta, .string la] 33)).alloc (.cells #[.int .i64 kb, .string xb, .string tb, .string lb] 33)).heap.size = w.heap.size + 2 := by simp
  generalize World.alloc (World.alloc w _) _ = w0 at ra rb hab hb1 sab ⊢
  have ra1 := (hb1.block _ (by omega)).trans ra
  have rb1 := (hb1.block _ (by omega)).trans rb
  have hbz := hab.trans (hb1.mono hab.size)
  have x0 := row_cell ra1 0
  have x1 := row_cell ra1 1
  have x2 := row_cell ra1 2
  have x3 := row_cell ra1 3
  have y0 := row_cell rb1 0
  have y1 := row_cell rb1 1
  have y2 := row_cell rb1 2
  have y3 := row_cell rb1 3
  simp at x0 x1 x2 x3 y0 y1 y2 y3
  clear ra rb hab hb1 sab ra1 rb1
  cases q <;> cases k <;> cases d
  all_goals go_wp2_with fail
  all_goals go_ret
  all_goals exact ⟨rfl, hbz⟩
/-- A literal of a datatype that is named. -/
def litT (n t : ByteArray) : Tm := ⟨3, t, ⟨(xsd ++ n.data.toList).toArray⟩, ⟨#[]⟩⟩
set_option maxHeartbeats 1000000 in
theorem lit_calls (n t : ByteArray) (w : World) (hn : n.size ≤ 1000000000) : Calls Tryz.prog 22 #[.string n, .string t] w fun e w' => e = .returned (litT n t).val ∧ Below w.heap.size w w' := by
  have hT : (⟨(xsd ++ n.data.toList).toArray⟩ : ByteArray) = ⟨#[104, 116, 116, 112, 58, 47, 47, 119, 119, 119, 46, 119, 51, 46, 111, 114, 103, 47, 50, 48, 48, 49, 47, 88, 77, 76, 83, 99, 104, 101, 109, 97, 35]⟩ ++ n := by
    apply ba_ext
    simp [xsd]
  unfold litT Tm.val
  dsimp only
  rw [hT]
  obtain ⟨T, hT2⟩ : ∃ T : ByteArray, T = ⟨#[104, 116, 116, 112, 58, 47, 47, 119, 119, 119, 46, 119, 51, 46, 111, 114, 103, 47, 50, 48, 48, 49, 47, 88, 77, 76, 83, 99, 104, 101, 109, 97, 35]⟩ ++ n := ⟨_, rfl⟩
  rw [← hT2]
  have hTs : T.size ≤ 1000000033 := by rw [hT2, ByteArray.size_append]; show 33 + n.size ≤ _; omega
  have H2 := Lib.hid hT2
  clear hT hT2
  go_enter Tryz.func22, Tryz.ntmps22
  go_wp2_with fail
  refine bodyPost_ret (v := .agg #[.int .i64 3, .string t, .string T, .string ⟨#[]⟩]) (by simp [results, Tryz.results22, go_sem, H2.out]) rfl ⟨rfl, ?_⟩
  repeat (first | with_reducible exact Below.refl _ _ | with_reducible refine below_drewN ?_ _ | (with_reducible refine Below.alloc ?_ (by simp) _) | (with_reducible refine Below.setCell ?_ (by simp) _))
end Go.Proofs.YtlhcejbimlilaaaGreatDoor
/- Compare is an order: plain. -/
namespace Go.Proofs.YtlhcejbimlilaaaGreatDoor
open Go.RowKit Go.Tk
theorem rdZ_u {z : List UInt8} {x : Bool × Int} (h : rdZ z = some x) (hx : x.1 = false) : x.2 = 0 := by
  cases z with
  | nil =>
    obtain rfl := Option.some.inj (show some (false, (0 : Int)) = some x from h)
    rfl
  | cons c t =>
    exfalso
    rw [rdZ_eq] at h
    split at h
    · obtain rfl := Option.some.inj h; cases hx
    split at h
    · cases h
    unfold rdZ2 rdZ3 at h
    repeat' split at h
    all_goals first | (cases h; done) | (obtain rfl := Option.some.inj h; cases hx)
theorem inP_u {s : Int} {p z : List UInt8} {m : Mt} (h : inP s p z = some m) (hm : m.zoned = false) : m.zone = 0 := by
  unfold inP at h
  cases hz : rdZ z with
  | none => rw [hz] at h; cases h
  | some x =>
    rw [hz] at h
    obtain rfl := Option.some.inj h
    exact rdZ_u hz hm
theorem rdDT_u {s : List UInt8} {m : Mt} (h : rdDT s = some m) (hm : m.zoned = false) : m.zone = 0 := by
  unfold rdDT at h
  repeat' split at h
  all_goals first | (cases h; done) | exact inP_u h hm
theorem rdDay_u {s : List UInt8} {m : Mt} (h : rdDay s = some m) (hm : m.zoned = false) : m.zone = 0 := by
  unfold rdDay at h
  repeat' split at h
  all_goals first | (cases h; done) | exact inP_u h hm
theorem rdClk_u {s : List UInt8} {m : Mt} (h : rdClk s = some m) (hm : m.zoned = false) : m.zone = 0 := by
  unfold rdClk at h
  repeat' split at h
  all_goals first | (cases h; done) | exact inP_u h hm
theorem mtG_u {o : Option Mt} (h : ∀ m, o = some m → m.zoned = false → m.zone = 0) : (mtG o).zoned = false → (mtG o).zone = 0 := by
  cases o with
  | none => exact fun _ => rfl
  | some m => exact h m rfl
theorem cmpF_tr {f : Int} {a b c : List UInt8} {x : Int} (h1 : cmpF f a b = (x, true)) (h2 : cmpF f b c = (x, true)) : cmpF f a c = (x, true) := by
  unfold cmpF at h1 h2 ⊢
  by_cases f2 : f = 2
  · rw [if_pos f2] at h1 h2 ⊢; exact agN_tr h1 h2
  rw [if_neg f2] at h1 h2 ⊢
  by_cases f1 : f = 1
  · rw [if_pos f1] at h1 h2 ⊢; exact Prod.ext (gd_cmB.same (Prod.mk.inj h1).1 (Prod.mk.inj h2).1) rfl
  rw [if_neg f1] at h1 h2 ⊢
  by_cases f6 : f = 6
  · rw [if_pos f6] at h1 h2 ⊢; exact Prod.ext (gd_cmB.same (Prod.mk.inj h1).1 (Prod.mk.inj h2).1) rfl
  rw [if_neg f6] at h1 h2 ⊢
  by_cases f7 : f = 7
  · rw [if_pos f7] at h1 h2 ⊢; exact Prod.ext (gd_cmB.same (Prod.mk.inj h1).1 (Prod.mk.inj h2).1) rfl
  rw [if_neg f7] at h1 h2 ⊢
  by_cases f3 : f = 3
  · rw [if_pos f3] at h1 h2 ⊢; exact agM_tr (mtG_u fun _ => rdDT_u) (mtG_u fun _ => rdDT_u) (mtG_u fun _ => rdDT_u) h1 h2
  rw [if_neg f3] at h1 h2 ⊢
  by_cases f4 : f = 4
  · rw [if_pos f4] at h1 h2 ⊢; exact agM_tr (mtG_u fun _ => rdDay_u) (mtG_u fun _ => rdDay_u) (mtG_u fun _ => rdDay_u) h1 h2
  rw [if_neg f4] at h1 h2 ⊢
  by_cases f5 : f = 5
  · rw [if_pos f5] at h1 h2 ⊢; exact agM_tr (mtG_u fun _ => rdClk_u) (mtG_u fun _ => rdClk_u) (mtG_u fun _ => rdClk_u) h1 h2
  rw [if_neg f5] at h1 h2 ⊢
  exact Prod.ext (gd_cmB.same (Prod.mk.inj h1).1 (Prod.mk.inj h2).1) rfl
theorem cmpF_neg (f : Int) (a b : List UInt8) : cmpF f b a = (-(cmpF f a b).1, (cmpF f a b).2) := by
  unfold cmpF
  by_cases f2 : f = 2
  · rw [if_pos f2, if_pos f2]; exact agN_neg _ _
  rw [if_neg f2, if_neg f2]
  by_cases f1 : f = 1
  · rw [if_pos f1, if_pos f1, cmB_neg]
  rw [if_neg f1, if_neg f1]
  by_cases f6 : f = 6
  · rw [if_pos f6, if_pos f6, cmB_neg]
  rw [if_neg f6, if_neg f6]
  by_cases f7 : f = 7
  · rw [if_pos f7, if_pos f7, cmB_neg]
  rw [if_neg f7, if_neg f7]
  by_cases f3 : f = 3
  · rw [if_pos f3, if_pos f3]; exact agM_neg _ _
  rw [if_neg f3, if_neg f3]
  by_cases f4 : f = 4
  · rw [if_pos f4, if_pos f4]; exact agM_neg _ _
  rw [if_neg f4, if_neg f4]
  by_cases f5 : f = 5
  · rw [if_pos f5, if_pos f5]; exact agM_neg _ _
  rw [if_neg f5, if_neg f5, cmB_neg]
theorem cmpE_neg (a b : Tm) : cmpE b a = (-(cmpE a b).1, (cmpE a b).2) := by
  unfold cmpE
  by_cases h : a.ok = true ∧ b.ok = true ∧ a.fam = b.fam
  · rw [if_pos h, if_pos ⟨h.2.1, h.1, h.2.2.symm⟩, ← h.2.2, cmpF_neg]
  · rw [if_neg h, if_neg (fun g => h ⟨g.2.1, g.1, g.2.2.symm⟩)]; rfl
theorem cmpE_tr {a b c : Tm} (h1 : (cmpE a b).2 = true) (h2 : (cmpE b c).2 = true) (h3 : (cmpE a b).1 = (cmpE b c).1) : cmpE a c = cmpE a b := by
  have e1 : cmpE a b = ((cmpE a b).1, true) := Prod.ext rfl h1
  have e2 : cmpE b c = ((cmpE a b).1, true) := Prod.ext h3.symm h2
  obtain ⟨x, hx⟩ : ∃ x, x = (cmpE a b).1 := ⟨_, rfl⟩
  rw [← hx] at e1 e2
  rw [e1]
  clear h1 h2 h3 hx
  unfold cmpE at e1 e2 ⊢
  by_cases g1 : a.ok = true ∧ b.ok = true ∧ a.fam = b.fam
  · by_cases g2 : b.ok = true ∧ c.ok = true ∧ b.fam = c.fam
    · rw [if_pos g1] at e1
      rw [if_pos g2, ← g1.2.2] at e2
      rw [if_pos ⟨g1.1, g2.2.1, g1.2.2.trans g2.2.2⟩]
      exact cmpF_tr e1 e2
    · rw [if_neg g2] at e2; cases e2
  · rw [if_neg g1] at e1; cases e1
end Go.Proofs.YtlhcejbimlilaaaGreatDoor
