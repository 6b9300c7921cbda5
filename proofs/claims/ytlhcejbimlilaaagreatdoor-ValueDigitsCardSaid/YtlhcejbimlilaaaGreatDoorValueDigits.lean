/- ValueDigits: the walks (written by gen_vdigits.py). -/
import Derived.Test.YtlhcejbimlilaaaGreatDoorVbQ
import Derived.Laws.Concat
set_option linter.unusedVariables false
set_option linter.unusedSimpArgs false
namespace Go.Proofs.YtlhcejbimlilaaaGreatDoor
open Go.RowKit Go.Tk
set_option maxRecDepth 100000 in
set_option maxHeartbeats 2000000 in
theorem dg_no (w : World) (a b : ByteArray) (x : Int) (V1 V2 : Value) 
    (hwk : Calls Tryz.prog 21 #[] w fun e w' => e = .returned (.bool true) ∧ Below w.heap.size w w')
    (l1 : ∀ w, Calls Tryz.prog 22 #[.string ⟨#[105, 110, 116, 101, 103, 101, 114]⟩, .string a] w fun e w' => e = .returned V1 ∧ Below w.heap.size w w') (l2 : ∀ w, Calls Tryz.prog 22 #[.string ⟨#[105, 110, 116, 101, 103, 101, 114]⟩, .string b] w fun e w' => e = .returned V2 ∧ Below w.heap.size w w')
    (c1 : ∀ w, Calls Tryz.prog 17 #[V1, V2] w fun e w' => e = .returned (.tuple #[.int .i64 x, .bool false]) ∧ Below w.heap.size w w') :
    Calls Tryz.prog 7 #[.string a, .string b] w fun e w' => e = .returned (.bool true) ∧ Below w.heap.size w w' := by
  have HWK := Lib.hid hwk
  have L1 := Lib.hid l1
  have L2 := Lib.hid l2
  have C1 := Lib.hid c1
  clear hwk l1 l2 c1
  go_enter Tryz.func7, Tryz.ntmps7
  go_wp2_with (first | (go_at_call 21; (with_reducible refine HWK.out.mono ?_); rintro e w1 ⟨rfl, hb1⟩) | (go_at_call 22; (first | ((with_reducible refine (L1.out _).mono ?_); rintro e w2 ⟨rfl, hb2⟩) | ((with_reducible refine (L2.out _).mono ?_); rintro e w3 ⟨rfl, hb3⟩))) | (go_at_call 17; (first | ((with_reducible refine (C1.out _).mono ?_); rintro e w4 ⟨rfl, hb4⟩))))
  go_ret
  have q1 := hb1
  have q2 := q1.trans (hb2.mono q1.size)
  have q3 := q2.trans (hb3.mono q2.size)
  have q4 := q3.trans (hb4.mono q3.size)
  exact ⟨rfl, q4⟩
set_option maxRecDepth 100000 in
set_option maxHeartbeats 2000000 in
theorem dg_la (w : World) (a b : ByteArray) (x : Int) (V1 V2 : Value) (h : (65536 : Int) ≤ (a.size : Int))
    (hwk : Calls Tryz.prog 21 #[] w fun e w' => e = .returned (.bool true) ∧ Below w.heap.size w w')
    (l1 : ∀ w, Calls Tryz.prog 22 #[.string ⟨#[105, 110, 116, 101, 103, 101, 114]⟩, .string a] w fun e w' => e = .returned V1 ∧ Below w.heap.size w w') (l2 : ∀ w, Calls Tryz.prog 22 #[.string ⟨#[105, 110, 116, 101, 103, 101, 114]⟩, .string b] w fun e w' => e = .returned V2 ∧ Below w.heap.size w w')
    (c1 : ∀ w, Calls Tryz.prog 17 #[V1, V2] w fun e w' => e = .returned (.tuple #[.int .i64 x, .bool true]) ∧ Below w.heap.size w w') :
    Calls Tryz.prog 7 #[.string a, .string b] w fun e w' => e = .returned (.bool true) ∧ Below w.heap.size w w' := by
  have HWK := Lib.hid hwk
  have L1 := Lib.hid l1
  have L2 := Lib.hid l2
  have C1 := Lib.hid c1
  clear hwk l1 l2 c1
  go_enter Tryz.func7, Tryz.ntmps7
  go_wp2_with (first | (go_at_call 21; (with_reducible refine HWK.out.mono ?_); rintro e w1 ⟨rfl, hb1⟩) | (go_at_call 22; (first | ((with_reducible refine (L1.out _).mono ?_); rintro e w2 ⟨rfl, hb2⟩) | ((with_reducible refine (L2.out _).mono ?_); rintro e w3 ⟨rfl, hb3⟩))) | (go_at_call 17; (first | ((with_reducible refine (C1.out _).mono ?_); rintro e w4 ⟨rfl, hb4⟩))))
  go_ret
  have q1 := hb1
  have q2 := q1.trans (hb2.mono q1.size)
  have q3 := q2.trans (hb3.mono q2.size)
  have q4 := q3.trans (hb4.mono q3.size)
  exact ⟨rfl, q4⟩
set_option maxRecDepth 100000 in
set_option maxHeartbeats 2000000 in
theorem dg_lb (w : World) (a b : ByteArray) (x : Int) (V1 V2 : Value) (g : (a.size : Int) < 65536) (h : (65536 : Int) ≤ (b.size : Int))
    (hwk : Calls Tryz.prog 21 #[] w fun e w' => e = .returned (.bool true) ∧ Below w.heap.size w w')
    (l1 : ∀ w, Calls Tryz.prog 22 #[.string ⟨#[105, 110, 116, 101, 103, 101, 114]⟩, .string a] w fun e w' => e = .returned V1 ∧ Below w.heap.size w w') (l2 : ∀ w, Calls Tryz.prog 22 #[.string ⟨#[105, 110, 116, 101, 103, 101, 114]⟩, .string b] w fun e w' => e = .returned V2 ∧ Below w.heap.size w w')
    (c1 : ∀ w, Calls Tryz.prog 17 #[V1, V2] w fun e w' => e = .returned (.tuple #[.int .i64 x, .bool true]) ∧ Below w.heap.size w w') :
    Calls Tryz.prog 7 #[.string a, .string b] w fun e w' => e = .returned (.bool true) ∧ Below w.heap.size w w' := by
  have HWK := Lib.hid hwk
  have L1 := Lib.hid l1
  have L2 := Lib.hid l2
  have C1 := Lib.hid c1
  clear hwk l1 l2 c1
  go_enter Tryz.func7, Tryz.ntmps7
  go_wp2_with (first | (go_at_call 21; (with_reducible refine HWK.out.mono ?_); rintro e w1 ⟨rfl, hb1⟩) | (go_at_call 22; (first | ((with_reducible refine (L1.out _).mono ?_); rintro e w2 ⟨rfl, hb2⟩) | ((with_reducible refine (L2.out _).mono ?_); rintro e w3 ⟨rfl, hb3⟩))) | (go_at_call 17; (first | ((with_reducible refine (C1.out _).mono ?_); rintro e w4 ⟨rfl, hb4⟩))))
  go_ret
  have q1 := hb1
  have q2 := q1.trans (hb2.mono q1.size)
  have q3 := q2.trans (hb3.mono q2.size)
  have q4 := q3.trans (hb4.mono q3.size)
  exact ⟨rfl, q4⟩
set_option maxRecDepth 100000 in
set_option maxHeartbeats 2000000 in
theorem dg_s1 (w : World) (a b : ByteArray) (x : Int) (V1 V2 V3 V4 : Value) (g : ¬ (65536 : Int) ≤ (a.size : Int)) (h : ¬ (65536 : Int) ≤ (b.size : Int)) (za : 0 < a.size) (zb : 0 < b.size) (n1 : ∀ hh : 0 < a.size, (((a[0]).toNat : Nat) : Int) = 43)
    (hwk : Calls Tryz.prog 21 #[] w fun e w' => e = .returned (.bool true) ∧ Below w.heap.size w w')
    (l1 : ∀ w, Calls Tryz.prog 22 #[.string ⟨#[105, 110, 116, 101, 103, 101, 114]⟩, .string a] w fun e w' => e = .returned V1 ∧ Below w.heap.size w w') (l2 : ∀ w, Calls Tryz.prog 22 #[.string ⟨#[105, 110, 116, 101, 103, 101, 114]⟩, .string b] w fun e w' => e = .returned V2 ∧ Below w.heap.size w w') (l3 : ∀ w, Calls Tryz.prog 22 #[.string ⟨#[105, 110, 116, 101, 103, 101, 114]⟩, .string (a ++ ⟨#[48]⟩)] w fun e w' => e = .returned V3 ∧ Below w.heap.size w w') (l4 : ∀ w, Calls Tryz.prog 22 #[.string ⟨#[105, 110, 116, 101, 103, 101, 114]⟩, .string (b ++ ⟨#[48]⟩)] w fun e w' => e = .returned V4 ∧ Below w.heap.size w w')
    (c1 : ∀ w, Calls Tryz.prog 17 #[V1, V2] w fun e w' => e = .returned (.tuple #[.int .i64 x, .bool true]) ∧ Below w.heap.size w w') (c2 : ∀ w, Calls Tryz.prog 17 #[V3, V4] w fun e w' => e = .returned (.tuple #[.int .i64 x, .bool true]) ∧ Below w.heap.size w w') :
    Calls Tryz.prog 7 #[.string a, .string b] w fun e w' => e = .returned (.bool true) ∧ Below w.heap.size w w' := by
  have HWK := Lib.hid hwk
  have L1 := Lib.hid l1
  have L2 := Lib.hid l2
  have L3 := Lib.hid l3
  have L4 := Lib.hid l4
  have C1 := Lib.hid c1
  have C2 := Lib.hid c2
  have Hg := Lib.hid g
  have Hh := Lib.hid h
  have Hza := Lib.hid za
  have Hzb := Lib.hid zb
  have Hn1 := Lib.hid n1
  clear hwk l1 l2 l3 l4 c1 c2 n1 zb za h g
  go_enter Tryz.func7, Tryz.ntmps7
  go_upto_region 4 with (first | (go_at_call 21; (with_reducible refine HWK.out.mono ?_); rintro e w1 ⟨rfl, hb1⟩) | (go_at_call 22; (first | ((with_reducible refine (L1.out _).mono ?_); rintro e w2 ⟨rfl, hb2⟩) | ((with_reducible refine (L2.out _).mono ?_); rintro e w3 ⟨rfl, hb3⟩))) | (go_at_call 17; (with_reducible refine (C1.out _).mono ?_); rintro e w4 ⟨rfl, hb4⟩))
  have q1 := hb1
  have q2 := q1.trans (hb2.mono q1.size)
  have q3 := q2.trans (hb3.mono q2.size)
  have q4 := q3.trans (hb4.mono q3.size)
  have Q := Lib.hid q4
  clear HWK L1 L2 C1 hb1 hb2 hb3 hb4 q1 q2 q3 q4
  have gB : ¬ (65536 : Int) ≤ (a.size : Int) := by have := Hg.out; omega
  have hB : ¬ (65536 : Int) ≤ (b.size : Int) := by have := Hh.out; omega
  go_upto_region 6 with fail
  clear gB hB
  have ga : a.size ≤ 65536 := by have := Hg.out; omega
  have gb : b.size ≤ 65536 := by have := Hh.out; omega
  go_upto_region 9 with (first | (go_at_call 22; (first | ((with_reducible refine (L3.out _).mono ?_); rintro e w5 ⟨rfl, hb5⟩) | ((with_reducible refine (L4.out _).mono ?_); rintro e w6 ⟨rfl, hb6⟩))) | (go_at_call 17; (with_reducible refine (C2.out _).mono ?_); rintro e w7 ⟨rfl, hb7⟩))
  have q4 := Q.out
  have q5 := q4.trans (hb5.mono q4.size)
  have q6 := q5.trans (hb6.mono q5.size)
  have q7 := q6.trans (hb7.mono q6.size)
  have Q2 := Lib.hid q7
  clear L3 L4 C2 Q hb5 hb6 hb7 q4 q5 q6 q7 ga gb
  have za := Hza.out
  have zb := Hzb.out
  have n1 := Hn1.out
  replace n1 := n1 za
  go_wp2_with fail
  go_ret
  exact ⟨rfl, Q2.out⟩
set_option maxRecDepth 100000 in
set_option maxHeartbeats 2000000 in
theorem dg_s2 (w : World) (a b : ByteArray) (x : Int) (V1 V2 V3 V4 : Value) (g : ¬ (65536 : Int) ≤ (a.size : Int)) (h : ¬ (65536 : Int) ≤ (b.size : Int)) (za : 0 < a.size) (zb : 0 < b.size) (n1 : ∀ hh : 0 < a.size, (((a[0]).toNat : Nat) : Int) = 45)
    (hwk : Calls Tryz.prog 21 #[] w fun e w' => e = .returned (.bool true) ∧ Below w.heap.size w w')
    (l1 : ∀ w, Calls Tryz.prog 22 #[.string ⟨#[105, 110, 116, 101, 103, 101, 114]⟩, .string a] w fun e w' => e = .returned V1 ∧ Below w.heap.size w w') (l2 : ∀ w, Calls Tryz.prog 22 #[.string ⟨#[105, 110, 116, 101, 103, 101, 114]⟩, .string b] w fun e w' => e = .returned V2 ∧ Below w.heap.size w w') (l3 : ∀ w, Calls Tryz.prog 22 #[.string ⟨#[105, 110, 116, 101, 103, 101, 114]⟩, .string (a ++ ⟨#[48]⟩)] w fun e w' => e = .returned V3 ∧ Below w.heap.size w w') (l4 : ∀ w, Calls Tryz.prog 22 #[.string ⟨#[105, 110, 116, 101, 103, 101, 114]⟩, .string (b ++ ⟨#[48]⟩)] w fun e w' => e = .returned V4 ∧ Below w.heap.size w w')
    (c1 : ∀ w, Calls Tryz.prog 17 #[V1, V2] w fun e w' => e = .returned (.tuple #[.int .i64 x, .bool true]) ∧ Below w.heap.size w w') (c2 : ∀ w, Calls Tryz.prog 17 #[V3, V4] w fun e w' => e = .returned (.tuple #[.int .i64 x, .bool true]) ∧ Below w.heap.size w w') :
    Calls Tryz.prog 7 #[.string a, .string b] w fun e w' => e = .returned (.bool true) ∧ Below w.heap.size w w' := by
  have HWK := Lib.hid hwk
  have L1 := Lib.hid l1
  have L2 := Lib.hid l2
  have L3 := Lib.hid l3
  have L4 := Lib.hid l4
  have C1 := Lib.hid c1
  have C2 := Lib.hid c2
  have Hg := Lib.hid g
  have Hh := Lib.hid h
  have Hza := Lib.hid za
  have Hzb := Lib.hid zb
  have Hn1 := Lib.hid n1
  clear hwk l1 l2 l3 l4 c1 c2 n1 zb za h g
  go_enter Tryz.func7, Tryz.ntmps7
  go_upto_region 4 with (first | (go_at_call 21; (with_reducible refine HWK.out.mono ?_); rintro e w1 ⟨rfl, hb1⟩) | (go_at_call 22; (first | ((with_reducible refine (L1.out _).mono ?_); rintro e w2 ⟨rfl, hb2⟩) | ((with_reducible refine (L2.out _).mono ?_); rintro e w3 ⟨rfl, hb3⟩))) | (go_at_call 17; (with_reducible refine (C1.out _).mono ?_); rintro e w4 ⟨rfl, hb4⟩))
  have q1 := hb1
  have q2 := q1.trans (hb2.mono q1.size)
  have q3 := q2.trans (hb3.mono q2.size)
  have q4 := q3.trans (hb4.mono q3.size)
  have Q := Lib.hid q4
  clear HWK L1 L2 C1 hb1 hb2 hb3 hb4 q1 q2 q3 q4
  have gB : ¬ (65536 : Int) ≤ (a.size : Int) := by have := Hg.out; omega
  have hB : ¬ (65536 : Int) ≤ (b.size : Int) := by have := Hh.out; omega
  go_upto_region 6 with fail
  clear gB hB
  have ga : a.size ≤ 65536 := by have := Hg.out; omega
  have gb : b.size ≤ 65536 := by have := Hh.out; omega
  go_upto_region 9 with (first | (go_at_call 22; (first | ((with_reducible refine (L3.out _).mono ?_); rintro e w5 ⟨rfl, hb5⟩) | ((with_reducible refine (L4.out _).mono ?_); rintro e w6 ⟨rfl, hb6⟩))) | (go_at_call 17; (with_reducible refine (C2.out _).mono ?_); rintro e w7 ⟨rfl, hb7⟩))
  have q4 := Q.out
  have q5 := q4.trans (hb5.mono q4.size)
  have q6 := q5.trans (hb6.mono q5.size)
  have q7 := q6.trans (hb7.mono q6.size)
  have Q2 := Lib.hid q7
  clear L3 L4 C2 Q hb5 hb6 hb7 q4 q5 q6 q7 ga gb
  have za := Hza.out
  have zb := Hzb.out
  have n1 := Hn1.out
  replace n1 := n1 za
  go_wp2_with fail
  go_ret
  exact ⟨rfl, Q2.out⟩
set_option maxRecDepth 100000 in
set_option maxHeartbeats 2000000 in
theorem dg_s3 (w : World) (a b : ByteArray) (x : Int) (V1 V2 V3 V4 : Value) (g : ¬ (65536 : Int) ≤ (a.size : Int)) (h : ¬ (65536 : Int) ≤ (b.size : Int)) (za : 0 < a.size) (zb : 0 < b.size) (m1 : ∀ hh : 0 < a.size, ((((a[0]).toNat : Nat) : Int) == 43) = false) (m2 : ∀ hh : 0 < a.size, ((((a[0]).toNat : Nat) : Int) == 45) = false) (o1 : ∀ hh : 0 < b.size, (((b[0]).toNat : Nat) : Int) = 43)
    (hwk : Calls Tryz.prog 21 #[] w fun e w' => e = .returned (.bool true) ∧ Below w.heap.size w w')
    (l1 : ∀ w, Calls Tryz.prog 22 #[.string ⟨#[105, 110, 116, 101, 103, 101, 114]⟩, .string a] w fun e w' => e = .returned V1 ∧ Below w.heap.size w w') (l2 : ∀ w, Calls Tryz.prog 22 #[.string ⟨#[105, 110, 116, 101, 103, 101, 114]⟩, .string b] w fun e w' => e = .returned V2 ∧ Below w.heap.size w w') (l3 : ∀ w, Calls Tryz.prog 22 #[.string ⟨#[105, 110, 116, 101, 103, 101, 114]⟩, .string (a ++ ⟨#[48]⟩)] w fun e w' => e = .returned V3 ∧ Below w.heap.size w w') (l4 : ∀ w, Calls Tryz.prog 22 #[.string ⟨#[105, 110, 116, 101, 103, 101, 114]⟩, .string (b ++ ⟨#[48]⟩)] w fun e w' => e = .returned V4 ∧ Below w.heap.size w w')
    (c1 : ∀ w, Calls Tryz.prog 17 #[V1, V2] w fun e w' => e = .returned (.tuple #[.int .i64 x, .bool true]) ∧ Below w.heap.size w w') (c2 : ∀ w, Calls Tryz.prog 17 #[V3, V4] w fun e w' => e = .returned (.tuple #[.int .i64 x, .bool true]) ∧ Below w.heap.size w w') :
    Calls Tryz.prog 7 #[.string a, .string b] w fun e w' => e = .returned (.bool true) ∧ Below w.heap.size w w' := by
  have HWK := Lib.hid hwk
  have L1 := Lib.hid l1
  have L2 := Lib.hid l2
  have L3 := Lib.hid l3
  have L4 := Lib.hid l4
  have C1 := Lib.hid c1
  have C2 := Lib.hid c2
  have Hg := Lib.hid g
  have Hh := Lib.hid h
  have Hza := Lib.hid za
  have Hzb := Lib.hid zb
  have Hm1 := Lib.hid m1
  have Hm2 := Lib.hid m2
  have Ho1 := Lib.hid o1
  clear hwk l1 l2 l3 l4 c1 c2 o1 m2 m1 zb za h g
  go_enter Tryz.func7, Tryz.ntmps7
  go_upto_region 4 with (first | (go_at_call 21; (with_reducible refine HWK.out.mono ?_); rintro e w1 ⟨rfl, hb1⟩) | (go_at_call 22; (first | ((with_reducible refine (L1.out _).mono ?_); rintro e w2 ⟨rfl, hb2⟩) | ((with_reducible refine (L2.out _).mono ?_); rintro e w3 ⟨rfl, hb3⟩))) | (go_at_call 17; (with_reducible refine (C1.out _).mono ?_); rintro e w4 ⟨rfl, hb4⟩))
  have q1 := hb1
  have q2 := q1.trans (hb2.mono q1.size)
  have q3 := q2.trans (hb3.mono q2.size)
  have q4 := q3.trans (hb4.mono q3.size)
  have Q := Lib.hid q4
  clear HWK L1 L2 C1 hb1 hb2 hb3 hb4 q1 q2 q3 q4
  have gB : ¬ (65536 : Int) ≤ (a.size : Int) := by have := Hg.out; omega
  have hB : ¬ (65536 : Int) ≤ (b.size : Int) := by have := Hh.out; omega
  go_upto_region 6 with fail
  clear gB hB
  have ga : a.size ≤ 65536 := by have := Hg.out; omega
  have gb : b.size ≤ 65536 := by have := Hh.out; omega
  go_upto_region 9 with (first | (go_at_call 22; (first | ((with_reducible refine (L3.out _).mono ?_); rintro e w5 ⟨rfl, hb5⟩) | ((with_reducible refine (L4.out _).mono ?_); rintro e w6 ⟨rfl, hb6⟩))) | (go_at_call 17; (with_reducible refine (C2.out _).mono ?_); rintro e w7 ⟨rfl, hb7⟩))
  have q4 := Q.out
  have q5 := q4.trans (hb5.mono q4.size)
  have q6 := q5.trans (hb6.mono q5.size)
  have q7 := q6.trans (hb7.mono q6.size)
  have Q2 := Lib.hid q7
  clear L3 L4 C2 Q hb5 hb6 hb7 q4 q5 q6 q7 ga gb
  have za := Hza.out
  have zb := Hzb.out
  have m1 := Hm1.out
  have m2 := Hm2.out
  have o1 := Ho1.out
  replace m1 := m1 za
  replace m2 := m2 za
  replace o1 := o1 zb
  go_wp2_with fail
  go_ret
  exact ⟨rfl, Q2.out⟩
set_option maxRecDepth 100000 in
set_option maxHeartbeats 2000000 in
theorem dg_s4 (w : World) (a b : ByteArray) (x : Int) (V1 V2 V3 V4 : Value) (g : ¬ (65536 : Int) ≤ (a.size : Int)) (h : ¬ (65536 : Int) ≤ (b.size : Int)) (za : 0 < a.size) (zb : 0 < b.size) (m1 : ∀ hh : 0 < a.size, ((((a[0]).toNat : Nat) : Int) == 43) = false) (m2 : ∀ hh : 0 < a.size, ((((a[0]).toNat : Nat) : Int) == 45) = false) (o1 : ∀ hh : 0 < b.size, (((b[0]).toNat : Nat) : Int) = 45)
    (hwk : Calls Tryz.prog 21 #[] w fun e w' => e = .returned (.bool true) ∧ Below w.heap.size w w')
    (l1 : ∀ w, Calls Tryz.prog 22 #[.string ⟨#[105, 110, 116, 101, 103, 101, 114]⟩, .string a] w fun e w' => e = .returned V1 ∧ Below w.heap.size w w') (l2 : ∀ w, Calls Tryz.prog 22 #[.string ⟨#[105, 110, 116, 101, 103, 101, 114]⟩, .string b] w fun e w' => e = .returned V2 ∧ Below w.heap.size w w') (l3 : ∀ w, Calls Tryz.prog 22 #[.string ⟨#[105, 110, 116, 101, 103, 101, 114]⟩, .string (a ++ ⟨#[48]⟩)] w fun e w' => e = .returned V3 ∧ Below w.heap.size w w') (l4 : ∀ w, Calls Tryz.prog 22 #[.string ⟨#[105, 110, 116, 101, 103, 101, 114]⟩, .string (b ++ ⟨#[48]⟩)] w fun e w' => e = .returned V4 ∧ Below w.heap.size w w')
    (c1 : ∀ w, Calls Tryz.prog 17 #[V1, V2] w fun e w' => e = .returned (.tuple #[.int .i64 x, .bool true]) ∧ Below w.heap.size w w') (c2 : ∀ w, Calls Tryz.prog 17 #[V3, V4] w fun e w' => e = .returned (.tuple #[.int .i64 x, .bool true]) ∧ Below w.heap.size w w') :
    Calls Tryz.prog 7 #[.string a, .string b] w fun e w' => e = .returned (.bool true) ∧ Below w.heap.size w w' := by
  have HWK := Lib.hid hwk
  have L1 := Lib.hid l1
  have L2 := Lib.hid l2
  have L3 := Lib.hid l3
  have L4 := Lib.hid l4
  have C1 := Lib.hid c1
  have C2 := Lib.hid c2
  have Hg := Lib.hid g
  have Hh := Lib.hid h
  have Hza := Lib.hid za
  have Hzb := Lib.hid zb
  have Hm1 := Lib.hid m1
  have Hm2 := Lib.hid m2
  have Ho1 := Lib.hid o1
  clear hwk l1 l2 l3 l4 c1 c2 o1 m2 m1 zb za h g
  go_enter Tryz.func7, Tryz.ntmps7
  go_upto_region 4 with (first | (go_at_call 21; (with_reducible refine HWK.out.mono ?_); rintro e w1 ⟨rfl, hb1⟩) | (go_at_call 22; (first | ((with_reducible refine (L1.out _).mono ?_); rintro e w2 ⟨rfl, hb2⟩) | ((with_reducible refine (L2.out _).mono ?_); rintro e w3 ⟨rfl, hb3⟩))) | (go_at_call 17; (with_reducible refine (C1.out _).mono ?_); rintro e w4 ⟨rfl, hb4⟩))
  have q1 := hb1
  have q2 := q1.trans (hb2.mono q1.size)
  have q3 := q2.trans (hb3.mono q2.size)
  have q4 := q3.trans (hb4.mono q3.size)
  have Q := Lib.hid q4
  clear HWK L1 L2 C1 hb1 hb2 hb3 hb4 q1 q2 q3 q4
  have gB : ¬ (65536 : Int) ≤ (a.size : Int) := by have := Hg.out; omega
  have hB : ¬ (65536 : Int) ≤ (b.size : Int) := by have := Hh.out; omega
  go_upto_region 6 with fail
  clear gB hB
  have ga : a.size ≤ 65536 := by have := Hg.out; omega
  have gb : b.size ≤ 65536 := by have := Hh.out; omega
  go_upto_region 9 with (first | (go_at_call 22; (first | ((with_reducible refine (L3.out _).mono ?_); rintro e w5 ⟨rfl, hb5⟩) | ((with_reducible refine (L4.out _).mono ?_); rintro e w6 ⟨rfl, hb6⟩))) | (go_at_call 17; (with_reducible refine (C2.out _).mono ?_); rintro e w7 ⟨rfl, hb7⟩))
  have q4 := Q.out
  have q5 := q4.trans (hb5.mono q4.size)
  have q6 := q5.trans (hb6.mono q5.size)
  have q7 := q6.trans (hb7.mono q6.size)
  have Q2 := Lib.hid q7
  clear L3 L4 C2 Q hb5 hb6 hb7 q4 q5 q6 q7 ga gb
  have za := Hza.out
  have zb := Hzb.out
  have m1 := Hm1.out
  have m2 := Hm2.out
  have o1 := Ho1.out
  replace m1 := m1 za
  replace m2 := m2 za
  replace o1 := o1 zb
  go_wp2_with fail
  go_ret
  exact ⟨rfl, Q2.out⟩
set_option maxRecDepth 100000 in
set_option maxHeartbeats 2000000 in
theorem dg_un (w : World) (a b : ByteArray) (x : Int) (V1 V2 V3 V4 V5 V6 : Value) (g : ¬ (65536 : Int) ≤ (a.size : Int)) (h : ¬ (65536 : Int) ≤ (b.size : Int)) (za : 0 < a.size) (zb : 0 < b.size) (m1 : ∀ hh : 0 < a.size, ((((a[0]).toNat : Nat) : Int) == 43) = false) (m2 : ∀ hh : 0 < a.size, ((((a[0]).toNat : Nat) : Int) == 45) = false) (p1 : ∀ hh : 0 < b.size, ((((b[0]).toNat : Nat) : Int) == 43) = false) (p2 : ∀ hh : 0 < b.size, ((((b[0]).toNat : Nat) : Int) == 45) = false) (hw1 : IntKind.i64.wrap (-x) = -x)
    (hwk : Calls Tryz.prog 21 #[] w fun e w' => e = .returned (.bool true) ∧ Below w.heap.size w w')
    (l1 : ∀ w, Calls Tryz.prog 22 #[.string ⟨#[105, 110, 116, 101, 103, 101, 114]⟩, .string a] w fun e w' => e = .returned V1 ∧ Below w.heap.size w w') (l2 : ∀ w, Calls Tryz.prog 22 #[.string ⟨#[105, 110, 116, 101, 103, 101, 114]⟩, .string b] w fun e w' => e = .returned V2 ∧ Below w.heap.size w w') (l3 : ∀ w, Calls Tryz.prog 22 #[.string ⟨#[105, 110, 116, 101, 103, 101, 114]⟩, .string (a ++ ⟨#[48]⟩)] w fun e w' => e = .returned V3 ∧ Below w.heap.size w w') (l4 : ∀ w, Calls Tryz.prog 22 #[.string ⟨#[105, 110, 116, 101, 103, 101, 114]⟩, .string (b ++ ⟨#[48]⟩)] w fun e w' => e = .returned V4 ∧ Below w.heap.size w w') (l5 : ∀ w, Calls Tryz.prog 22 #[.string ⟨#[105, 110, 116, 101, 103, 101, 114]⟩, .string (⟨#[45]⟩ ++ a)] w fun e w' => e = .returned V5 ∧ Below w.heap.size w w') (l6 : ∀ w, Calls Tryz.prog 22 #[.string ⟨#[105, 110, 116, 101, 103, 101, 114]⟩, .string (⟨#[45]⟩ ++ b)] w fun e w' => e = .returned V6 ∧ Below w.heap.size w w')
    (c1 : ∀ w, Calls Tryz.prog 17 #[V1, V2] w fun e w' => e = .returned (.tuple #[.int .i64 x, .bool true]) ∧ Below w.heap.size w w') (c2 : ∀ w, Calls Tryz.prog 17 #[V3, V4] w fun e w' => e = .returned (.tuple #[.int .i64 x, .bool true]) ∧ Below w.heap.size w w') (c3 : ∀ w, Calls Tryz.prog 17 #[V5, V6] w fun e w' => e = .returned (.tuple #[.int .i64 (-x), .bool true]) ∧ Below w.heap.size w w') :
    Calls Tryz.prog 7 #[.string a, .string b] w fun e w' => e = .returned (.bool true) ∧ Below w.heap.size w w' := by
  have HWK := Lib.hid hwk
  have L1 := Lib.hid l1
  have L2 := Lib.hid l2
  have L3 := Lib.hid l3
  have L4 := Lib.hid l4
  have L5 := Lib.hid l5
  have L6 := Lib.hid l6
  have C1 := Lib.hid c1
  have C2 := Lib.hid c2
  have C3 := Lib.hid c3
  have Hg := Lib.hid g
  have Hh := Lib.hid h
  have Hza := Lib.hid za
  have Hzb := Lib.hid zb
  have Hm1 := Lib.hid m1
  have Hm2 := Lib.hid m2
  have Hp1 := Lib.hid p1
  have Hp2 := Lib.hid p2
  have Hhw1 := Lib.hid hw1
  clear hwk l1 l2 l3 l4 l5 l6 c1 c2 c3 hw1 p2 p1 m2 m1 zb za h g
  go_enter Tryz.func7, Tryz.ntmps7
  go_upto_region 4 with (first | (go_at_call 21; (with_reducible refine HWK.out.mono ?_); rintro e w1 ⟨rfl, hb1⟩) | (go_at_call 22; (first | ((with_reducible refine (L1.out _).mono ?_); rintro e w2 ⟨rfl, hb2⟩) | ((with_reducible refine (L2.out _).mono ?_); rintro e w3 ⟨rfl, hb3⟩))) | (go_at_call 17; (with_reducible refine (C1.out _).mono ?_); rintro e w4 ⟨rfl, hb4⟩))
  have q1 := hb1
  have q2 := q1.trans (hb2.mono q1.size)
  have q3 := q2.trans (hb3.mono q2.size)
  have q4 := q3.trans (hb4.mono q3.size)
  have Q := Lib.hid q4
  clear HWK L1 L2 C1 hb1 hb2 hb3 hb4 q1 q2 q3 q4
  have gB : ¬ (65536 : Int) ≤ (a.size : Int) := by have := Hg.out; omega
  have hB : ¬ (65536 : Int) ≤ (b.size : Int) := by have := Hh.out; omega
  go_upto_region 6 with fail
  clear gB hB
  have ga : a.size ≤ 65536 := by have := Hg.out; omega
  have gb : b.size ≤ 65536 := by have := Hh.out; omega
  go_upto_region 9 with (first | (go_at_call 22; (first | ((with_reducible refine (L3.out _).mono ?_); rintro e w5 ⟨rfl, hb5⟩) | ((with_reducible refine (L4.out _).mono ?_); rintro e w6 ⟨rfl, hb6⟩))) | (go_at_call 17; (with_reducible refine (C2.out _).mono ?_); rintro e w7 ⟨rfl, hb7⟩))
  have q4 := Q.out
  have q5 := q4.trans (hb5.mono q4.size)
  have q6 := q5.trans (hb6.mono q5.size)
  have q7 := q6.trans (hb7.mono q6.size)
  have Q2 := Lib.hid q7
  clear L3 L4 C2 Q hb5 hb6 hb7 q4 q5 q6 q7 ga gb
  have za := Hza.out
  have zb := Hzb.out
  have m1 := Hm1.out
  have m2 := Hm2.out
  have p1 := Hp1.out
  have p2 := Hp2.out
  have hw1 := Hhw1.out
  replace m1 := m1 za
  replace m2 := m2 za
  replace p1 := p1 zb
  replace p2 := p2 zb
  go_upto_region 11 with fail
  clear p2 p1 m2 m1
  have ga : a.size ≤ 65536 := by have := Hg.out; omega
  have gb : b.size ≤ 65536 := by have := Hh.out; omega
  go_wp2_with (first | (go_at_call 22; (first | ((with_reducible refine (L5.out _).mono ?_); rintro e w8 ⟨rfl, hb8⟩) | ((with_reducible refine (L6.out _).mono ?_); rintro e w9 ⟨rfl, hb9⟩))) | (go_at_call 17; (with_reducible refine (C3.out _).mono ?_); rintro e w10 ⟨rfl, hb10⟩))
  go_ret
  have q7 := Q2.out
  have q8 := q7.trans (hb8.mono q7.size)
  have q9 := q8.trans (hb9.mono q8.size)
  have q10 := q9.trans (hb10.mono q9.size)
  exact ⟨rfl, q10⟩
theorem int_ne {t : ByteArray} {n : Nm} (h : intP t.data.toList = some n) : 0 < t.size := by
  rw [Lib.size_eq]
  apply List.length_pos_iff.2
  intro e
  rw [e] at h
  cases h
theorem ok_int {t : ByteArray} (h : (litT bInt t).ok = true) : t.size ≤ 65536 ∧ ∃ n, intP t.data.toList = some n := by
  have h2 := chkE_zero (vdOk_chk h)
  have hs : t.size ≤ 65536 := by rw [Lib.size_eq]; exact h2.1
  rw [int_ok t hs] at h
  exact ⟨hs, Option.isSome_iff_exists.1 h⟩
theorem fin_int {l : List UInt8} {n : Nm} (h : intP l = some n) : n.inf = 0 ∧ n.nan = false := by
  unfold intP at h
  split at h
  · obtain rfl := Option.some.inj h
    unfold mkN
    split <;> exact ⟨rfl, rfl⟩
  · cases h
theorem no_sg {t : ByteArray} (h : 0 < t.size) (h1 : ((t[0].toNat : Nat) : Int) ≠ 43) (h2 : ((t[0].toNat : Nat) : Int) ≠ 45) : sgnR t.data.toList = t.data.toList ∧ sgnB t.data.toList = false := by
  have hc := ba_cons t h
  obtain ⟨c, hcc⟩ : ∃ c, c = t[0] := ⟨_, rfl⟩
  rw [← hcc] at hc h1 h2
  have q1 : (c == 43) = false := u8_ne (n := 43) (by omega) (by omega)
  have q2 : (c == 45) = false := u8_ne (n := 45) (by omega) (by omega)
  rw [hc]
  exact ⟨by simp only [sgnR, q1, q2]; rfl, q2⟩
/-- With a - ahead. -/
theorem int_minus {t : ByteArray} {n : Nm} (h : intP t.data.toList = some n) (hs : sgnR t.data.toList = t.data.toList ∧ sgnB t.data.toList = false) :
    n = mkN false t.data.toList [] 0 ∧ intP (45 :: t.data.toList) = some (mkN true t.data.toList [] 0) := by
  unfold intP at h ⊢
  rw [hs.1, hs.2] at h
  split at h
  · rename_i hc
    refine ⟨(Option.some.inj h).symm, ?_⟩
    have e1 : sgnR (45 :: t.data.toList) = t.data.toList := rfl
    have e2 : sgnB (45 :: t.data.toList) = true := rfl
    rw [e1, e2, if_pos hc]
  · cases h
theorem digits_in (w : World) (a b : ByteArray) (ha : a.size ≤ 9223372036854775807) (hb : b.size ≤ 9223372036854775807) (hpw : Pow w) :
    Calls Tryz.prog 7 #[.string a, .string b] w fun e w' => e = .returned (.bool true) ∧ Below w.heap.size w w' := by
  have hwk : Calls Tryz.prog 21 #[] w fun e w' => e = .returned (.bool true) ∧ Below w.heap.size w w' := works_calls w hpw
  have L := fun (t : ByteArray) w => lit_calls bInt t w (by decide)
  have c1 := fun w => cmp_calls (litT bInt a) (litT bInt b) w ha hb
  cases hok : (cmpE (litT bInt a) (litT bInt b)).2 with
  | false =>
    rw [hok] at c1
    exact dg_no w a b _ _ _ hwk (L a) (L b) c1
  | true =>
  rw [hok] at c1
  by_cases h1 : 65536 ≤ a.size
  · exact dg_la w a b _ _ _ (by omega) hwk (L a) (L b) c1
  by_cases h2 : 65536 ≤ b.size
  · exact dg_lb w a b _ _ _ (by omega) (by omega) hwk (L a) (L b) c1
  have hboth : (litT bInt a).ok = true ∧ (litT bInt b).ok = true := by
    unfold cmpE at hok
    split at hok
    · rename_i h; exact ⟨h.1, h.2.1⟩
    · cases hok
  obtain ⟨sa, n, hn⟩ := ok_int hboth.1
  obtain ⟨sb, m, hm⟩ := ok_int hboth.2
  have hE := cmp_int sa sb hn hm
  have za := int_ne hn
  have zb := int_ne hm
  have s48 : (⟨#[48]⟩ : ByteArray).size = 1 := rfl
  have s45 : (⟨#[45]⟩ : ByteArray).size = 1 := rfl
  have tn : intP (a ++ ⟨#[48]⟩ : ByteArray).data.toList = some (tenN n) := by
    rw [show (a ++ ⟨#[48]⟩ : ByteArray).data.toList = a.data.toList ++ [48] from by simp]; exact int_ten hn
  have tm : intP (b ++ ⟨#[48]⟩ : ByteArray).data.toList = some (tenN m) := by
    rw [show (b ++ ⟨#[48]⟩ : ByteArray).data.toList = b.data.toList ++ [48] from by simp]; exact int_ten hm
  have e2 : cmpE (litT bInt (a ++ ⟨#[48]⟩)) (litT bInt (b ++ ⟨#[48]⟩)) = cmpE (litT bInt a) (litT bInt b) := by
    rw [cmp_int (by rw [ByteArray.size_append]; omega) (by rw [ByteArray.size_append]; omega) tn tm, hE, ag_ten (fin_int hn).1 (fin_int hm).1 (fin_int hn).2 (fin_int hm).2]
  have c2 := fun w => cmp_calls (litT bInt (a ++ ⟨#[48]⟩)) (litT bInt (b ++ ⟨#[48]⟩)) w (by show (a ++ ⟨#[48]⟩ : ByteArray).size ≤ _; rw [ByteArray.size_append]; omega) (by show (b ++ ⟨#[48]⟩ : ByteArray).size ≤ _; rw [ByteArray.size_append]; omega)
  rw [e2, hok] at c2
  have g : ¬ (65536 : Int) ≤ (a.size : Int) := by omega
  have h : ¬ (65536 : Int) ≤ (b.size : Int) := by omega
  have bf : ∀ (t : ByteArray) (k : Int), (∀ hh : 0 < t.size, ((t[0].toNat : Nat) : Int) ≠ k) → ∀ hh : 0 < t.size, (((t[0].toNat : Nat) : Int) == k) = false := fun t k q hh => beq_false_of_ne (q hh)
  by_cases n1 : ((a[0].toNat : Nat) : Int) = 43
  · exact dg_s1 w a b _ _ _ _ _ g h za zb (fun _ => n1) hwk (L a) (L b) (L _) (L _) c1 c2
  by_cases n2 : ((a[0].toNat : Nat) : Int) = 45
  · exact dg_s2 w a b _ _ _ _ _ g h za zb (fun _ => n2) hwk (L a) (L b) (L _) (L _) c1 c2
  by_cases o1 : ((b[0].toNat : Nat) : Int) = 43
  · exact dg_s3 w a b _ _ _ _ _ g h za zb (bf a 43 fun _ => n1) (bf a 45 fun _ => n2) (fun _ => o1) hwk (L a) (L b) (L _) (L _) c1 c2
  by_cases o2 : ((b[0].toNat : Nat) : Int) = 45
  · exact dg_s4 w a b _ _ _ _ _ g h za zb (bf a 43 fun _ => n1) (bf a 45 fun _ => n2) (fun _ => o2) hwk (L a) (L b) (L _) (L _) c1 c2
  have sga := no_sg za n1 n2
  have sgb := no_sg zb o1 o2
  obtain ⟨ea, ma⟩ := int_minus hn sga
  obtain ⟨eb, mb⟩ := int_minus hm sgb
  have ma' : intP (⟨#[45]⟩ ++ a : ByteArray).data.toList = some (mkN true a.data.toList [] 0) := by
    rw [show (⟨#[45]⟩ ++ a : ByteArray).data.toList = 45 :: a.data.toList from by simp]; exact ma
  have mb' : intP (⟨#[45]⟩ ++ b : ByteArray).data.toList = some (mkN true b.data.toList [] 0) := by
    rw [show (⟨#[45]⟩ ++ b : ByteArray).data.toList = 45 :: b.data.toList from by simp]; exact mb
  have e3 : cmpE (litT bInt (⟨#[45]⟩ ++ a)) (litT bInt (⟨#[45]⟩ ++ b)) = (-(cmpE (litT bInt a) (litT bInt b)).1, true) := by
    rw [cmp_int (by rw [ByteArray.size_append]; omega) (by rw [ByteArray.size_append]; omega) ma' mb', ag_minus, ← ea, ← eb, ← hE, hok]
  have c3 := fun w => cmp_calls (litT bInt (⟨#[45]⟩ ++ a)) (litT bInt (⟨#[45]⟩ ++ b)) w (by show (⟨#[45]⟩ ++ a : ByteArray).size ≤ _; rw [ByteArray.size_append]; omega) (by show (⟨#[45]⟩ ++ b : ByteArray).size ≤ _; rw [ByteArray.size_append]; omega)
  rw [e3] at c3
  have hr : (cmpE (litT bInt a) (litT bInt b)).1 = -1 ∨ (cmpE (litT bInt a) (litT bInt b)).1 = 0 ∨ (cmpE (litT bInt a) (litT bInt b)).1 = 1 := by
    rw [hE]
    unfold agN
    split
    · exact .inr (.inl rfl)
    split
    · dsimp only; unfold cmZ; split
      · exact .inl rfl
      split
      · exact .inr (.inr rfl)
      · exact .inr (.inl rfl)
    · rename_i hq
      have h1 : rkN n = 1 ∨ rkN n = -1 := by omega
      have h2 : (if cmZ n.pw m.pw = 0 then cmB n.dg m.dg else cmZ n.pw m.pw) = -1 ∨ (if cmZ n.pw m.pw = 0 then cmB n.dg m.dg else cmZ n.pw m.pw) = 0 ∨ (if cmZ n.pw m.pw = 0 then cmB n.dg m.dg else cmZ n.pw m.pw) = 1 := by
        split
        · exact cmB_rng _ _
        · unfold cmZ; split
          · exact .inl rfl
          split
          · exact .inr (.inr rfl)
          · exact .inr (.inl rfl)
      dsimp only
      rcases h1 with e | e <;> rw [e] <;> omega
  have hw1 : IntKind.i64.wrap (-(cmpE (litT bInt a) (litT bInt b)).1) = -(cmpE (litT bInt a) (litT bInt b)).1 := by
    rcases hr with e | e | e <;> rw [e] <;> decide
  exact dg_un w a b _ _ _ _ _ _ _ g h za zb (bf a 43 fun _ => n1) (bf a 45 fun _ => n2) (bf b 43 fun _ => o1) (bf b 45 fun _ => o2) hw1 hwk (L a) (L b) (L _) (L _) (L _) (L _) c1 c2 c3
end Go.Proofs.YtlhcejbimlilaaaGreatDoor
