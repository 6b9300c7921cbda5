/- VdL VbJ, laid as one. -/
import Derived.Test.YtlhcejbimlilaaaGreatDoorVbE
import Derived.Test.YtlhcejbimlilaaaGreatDoorQuL
import Derived.Laws.Concat
import Derived.Test.YtlhcejbimlilaaaGreatDoorVbI
set_option linter.unusedVariables false
set_option linter.unusedSimpArgs false
/- The document's KindOf (written by gen_vdk.py). -/
namespace Go.Proofs.YtlhcejbimlilaaaGreatDoor
open Go.RowKit Go.Tk
def lkO : Option Kd → Int
  | none => 0
  | some k => lkK k
def loO : Option Kd → List UInt8
  | none => []
  | some k => loK k
def hiO : Option Kd → List UInt8
  | none => []
  | some k => hiK k
def KdPost (o : Option Kd) (w : World) (e : Ending) (w' : World) : Prop := ∃ nm : ByteArray, e = .returned (.agg #[.string nm, .int .i64 (lkO o), .string ⟨(loO o).toArray⟩, .string ⟨(hiO o).toArray⟩]) ∧ Below w.heap.size w w'
set_option maxRecDepth 100000 in
set_option maxHeartbeats 4000000 in
theorem kindOf_calls (T : ByteArray) (w : World) : Calls Tryz.prog 25 #[.string T] w (KdPost (kdOf T.data.toList) w) := by
  have HK := Lib.hid (fun w => kinds_calls w)
  go_enter Tryz.func25, Tryz.ntmps25
  go_upto_region 2 with (go_at_call 69; (with_reducible refine (HK.out _).mono ?_); rintro e w1 ⟨rfl, rfl⟩)
  obtain ⟨r0, r1, hb⟩ := box2 w (.cells #[.string ⟨#[]⟩, .int .i64 0, .string ⟨#[]⟩, .string ⟨#[]⟩] 48) (.cells kTab 48)
  have hsz : (w.alloc (.cells #[.string ⟨#[]⟩, .int .i64 0, .string ⟨#[]⟩, .string ⟨#[]⟩] 48)).heap.size = w.heap.size + 1 := by simp
  try rw [hsz]
  generalize World.alloc (World.alloc w _) _ = w2 at r0 r1 hb ⊢
  have a0 := row_cell r0 0
  have a1 := row_cell r0 1
  have a2 := row_cell r0 2
  have a3 := row_cell r0 3
  simp at a0 a1 a2 a3
  have f0 : ∀ i, w2.frozen? ⟨w.heap.size, i, none⟩ = false := fun i => frozen_of_row _ _ _ _ _ r0
  have HB := Lib.hid hb
  have HR1 := Lib.hid r1
  clear hb r0 r1 hsz HK
  go_wp2_with fail
  go_loop [4] (fun i => ∃ k : Nat, k ≤ 23 ∧ i = .int .i64 (k : Nat) ∧ ∀ j, j < k → T.data.toList ≠ xsd ++ kiN j) (fun i => 23 - (intOf i).toNat)
  case atStart => exact ⟨0, by decide, rfl, fun j hj => by omega⟩
  case round =>
    obtain ⟨k, hk, rfl, hno⟩ := hrel
    by_cases hlt : k < 23
    · have x0 := (row_cell HR1.out (4 * k)).trans (ki_0 k hlt)
      have x1 := (row_cell HR1.out (4 * k + 1)).trans (ki_1 k hlt)
      have x2 := (row_cell HR1.out (4 * k + 2)).trans (ki_2 k hlt)
      have x3 := (row_cell HR1.out (4 * k + 3)).trans (ki_3 k hlt)
      rw [Nat.mul_comm 4 k] at x0 x1 x2 x3
      have zn : (⟨(kiN k).toArray⟩ : ByteArray).size ≤ 100 := by rw [sz_mk]; exact ki_len k hlt
      obtain ⟨S, hS⟩ : ∃ S : ByteArray, ⟨#[104, 116, 116, 112, 58, 47, 47, 119, 119, 119, 46, 119, 51, 46, 111, 114, 103, 47, 50, 48, 48, 49, 47, 88, 77, 76, 83, 99, 104, 101, 109, 97, 35]⟩ ++ ⟨(kiN k).toArray⟩ = S := ⟨_, rfl⟩
      have hSd : S.data.toList = xsd ++ kiN k := by rw [← hS]; simp [xsd]
      generalize hnm : (⟨(kiN k).toArray⟩ : ByteArray) = nm at x0 zn hS
      by_cases he : T.data.toList = xsd ++ kiN k
      · have hT : T = S := ba_ext (by rw [he, hSd])
        have hkd : kdOf T.data.toList = some (kiD k) := by rw [he]; exact ki_yes k hlt
        have HKD := Lib.hid hkd
        have hTS : (T.toList == S.toList) = true := by rw [hT]; exact beq_self_eq_true _
        obtain ⟨kk, hkk⟩ : ∃ kk, kk = kiD k := ⟨_, rfl⟩
        rw [← hkk] at x1 x2 x3
        have HKK := Lib.hid hkk
        clear hno he hT hkd hkk hSd hnm
        go_wp2_with fail
        refine bodyPost_ret (v := .agg #[.string nm, .int .i64 (lkK kk), .string ⟨(loK kk).toArray⟩, .string ⟨(hiK kk).toArray⟩]) (by simp [results, Tryz.results25, go_sem, a0, a1, a2, a3]) rfl ⟨nm, by rw [HKD.out, ← HKK.out]; rfl, ?_⟩
        repeat (first | exact HB.out | with_reducible refine below_drewN ?_ _ | (with_reducible refine Below.setCell ?_ (by simp) _))
      · have hTS : (T.toList == S.toList) = false := by rw [Lib.toList_data, Lib.toList_data, hSd]; exact beq_false_of_ne he
        have hno2 : ∀ j, j < k + 1 → T.data.toList ≠ xsd ++ kiN j := fun j hj => by
          by_cases hjk : j = k
          · subst hjk; exact he
          · exact hno j (by omega)
        have HNO := Lib.hid hno2
        clear hno he hSd hnm hno2 x1 x2 x3
        go_wp2_with fail
        go_round
        case rel => exact ⟨k + 1, by omega, by go_num, HNO.out⟩
        case measure => simp [intOf]; omega
    · have hk23 : k = 23 := by omega
      subst hk23
      have hkd : kdOf T.data.toList = none := ki_no hno
      have HKD := Lib.hid hkd
      clear hno hkd
      go_wp2_with fail
      refine bodyPost_ret (v := .agg #[.string ⟨#[]⟩, .int .i64 0, .string ⟨#[]⟩, .string ⟨#[]⟩]) (by simp [results, Tryz.results25, go_sem, a0, a1, a2, a3]) rfl ⟨⟨#[]⟩, by rw [HKD.out]; rfl, ?_⟩
      repeat (first | exact HB.out | with_reducible refine below_drewN ?_ _ | (with_reducible refine Below.setCell ?_ (by simp) _))
end Go.Proofs.YtlhcejbimlilaaaGreatDoor
/- The program's Equal; the laws' literal, zoned. -/
namespace Go.Proofs.YtlhcejbimlilaaaGreatDoor
open Go.RowKit Go.Tk
def tmEq (a b : Tm) : Bool := a.kd == b.kd && (a.tx.data.toList == b.tx.data.toList && (a.ty.data.toList == b.ty.data.toList && a.la.data.toList == b.la.data.toList))
theorem tm_fields : Tryz.prog.underlying 33 = some (.struct (Tryz.prog.fieldsOf 33)) := by kernel_rfl
theorem tm_stood : Tryz.prog.stoodInHeld 33 = false := by kernel_rfl
theorem tm_guard : Tryz.prog.eqGuardType Tryz.prog.depth 33 = false := by kernel_rfl
theorem tm_equal (a b : Tm) (w : World) : (Op.equalIn 10000 33 a.val b.val).run Tryz.prog w = .ok (tmEq a b) w := by
  unfold Tm.val
  rw [run_equalIn_agg w 9999 _ _ _ tm_fields tm_stood]
  unfold Program.fieldsOf
  rw [Tryz.underlying33]
  simp [go_sem, Op.eqFields, part]
  unfold tmEq
  rw [← Lib.toList_data, ← Lib.toList_data, ← Lib.toList_data, ← Lib.toList_data, ← Lib.toList_data, ← Lib.toList_data]
  repeat' split
  all_goals simp [*]
theorem tm_eql (a b : Tm) (w : World) : (binOp .eql 33 a.val b.val).run Tryz.prog w = .ok (.bool (tmEq a b)) w := by
  have := tm_equal a b w
  unfold Tm.val at this ⊢
  rw [run_eql_struct, this]; rfl
theorem tm_guarded (op : BinOp) (x y : Operand) (p q : Array Value) (w : World) : (eqGuard op 33 x y (.agg p) (.agg q)).run Tryz.prog w = .ok () w := run_eqGuard_agg w op _ x y p q tm_guard
/-- What Equal answers. -/
def eqE (a b : Tm) : Bool := tmEq a b || (cmpE a b).2 && decide ((cmpE a b).1 = 0)
set_option maxHeartbeats 1000000 in
theorem equal_calls (a b : Tm) (w : World) (ha : a.tx.size ≤ 9223372036854775807) (hb : b.tx.size ≤ 9223372036854775807) :
    Calls Tryz.prog 19 #[a.val, b.val] w fun e w' => e = .returned (.bool (eqE a b)) ∧ Below w.heap.size w w' := by
  have hc := fun w => cmp_calls a b w ha hb
  have heq := fun w => tm_eql a b w
  have hgd := tm_guarded
  unfold eqE
  obtain ⟨c, hcc⟩ : ∃ c, c = (cmpE a b).1 := ⟨_, rfl⟩
  obtain ⟨k, hk⟩ : ∃ c, c = (cmpE a b).2 := ⟨_, rfl⟩
  obtain ⟨q, hq⟩ : ∃ c, c = tmEq a b := ⟨_, rfl⟩
  rw [← hcc, ← hk] at hc ⊢
  rw [← hq] at heq ⊢
  clear hcc hk hq ha hb
  obtain ⟨ka, xa, ta, la⟩ := a
  obtain ⟨kb, xb, tb, lb⟩ := b
  unfold Tm.val at hc heq
  unfold Tm.val
  dsimp only at hc heq ⊢
  have HC := Lib.hid hc
  clear hc
  obtain ⟨d, hd⟩ : ∃ d, d = decide (c = 0) := ⟨_, rfl⟩
  have hd0 : (c == (0 : Int)) = d := by rw [hd]; rfl
  rw [← hd]
  clear hd
  go_enter Tryz.func19, Tryz.ntmps19
  go_upto_region 2 with (go_at_call 17; (with_reducible refine (HC.out _).mono ?_); rintro e w1 ⟨rfl, hb1⟩)
  obtain ⟨ra, rb, hab⟩ := box2 w (.cells #[.int .i64 ka, .string xa, .string ta, .string la] 33) (.cells #[.int .i64 kb, .string xb, .string tb, .string lb] 33)
  have sab : ((w.alloc (.cells #[.int .i64 ka, .string xa, .string ta, .string la] 33)).alloc (.cells #[.int .i64 kb, .string xb, .string tb, .string lb] 33)).heap.size = w.heap.size + 2 := by simp
  generalize World.alloc (World.alloc w _) _ = w0 at ra rb hab hb1 sab ⊢
  have ra1 := (hb1.block _ (by omega)).trans ra
  have rb1 := (hb1.block _ (by omega)).trans rb
  have hbz := hab.trans (hb1.mono hab.size)
  have x0 := row_cell ra1 0
  have x1 := row_cell ra1 1
  have x2 := row_cell ra1 2
  have x3 := row_cell ra1 3
  have y0 := row_cell rb1 0
  have y1 := row_cell rb1 1
  have y2 := row_cell rb1 2
  have y3 := row_cell rb1 3
  simp at x0 x1 x2 x3 y0 y1 y2 y3
  clear ra rb hab hb1 sab ra1 rb1
  cases q <;> cases k <;> cases d
  all_goals go_wp2_with fail
  all_goals go_ret
  all_goals exact ⟨rfl, hbz⟩
end Go.Proofs.YtlhcejbimlilaaaGreatDoor
