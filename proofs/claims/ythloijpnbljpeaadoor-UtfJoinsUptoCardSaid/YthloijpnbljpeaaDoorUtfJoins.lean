/- UtfJoins: two texts behind one another: the first fault of the whole, and what it says with escapes. -/
import Derived.Test.YthloijpnbljpeaaDoorUtfSc
import Derived.Test.YthloijpnbljpeaaDoorUtfWk
import Derived.Test.YthloijpnbljpeaaDoorUtfFl
import Derived.Laws.Concat
import Derived.Deep.CutBlock
import Derived.BigQuiet
import Derived.Test.YthloijpnbljpeaaDoorQu
set_option linter.unusedVariables false
set_option linter.unusedSimpArgs false
namespace Go.Proofs.YthloijpnbljpeaaDoor
open Go.RowKit Go.Tk
/-- What Check says of both, and of the whole. -/
def ChkJ (n ca cb cz : Int) : Prop := 0 ≤ ca ∨ (ca = -1 ∧ cb = -1 ∧ cz = -1) ∨ (ca = -1 ∧ 0 ≤ cb ∧ cz = n + cb ∧ cb ≤ 1048576)
def ClJ (w : World) (g i : Nat) (X x y : Int) (w' : World) : Prop := HandleMet w' ∧ EV w' (.iface 58 (.pointer (some ⟨i, 0, none⟩))) X y ∧ w'.heap[g]? = some (.cells #[.int .i64 x, .int .i64 y] 30 (0, 0)) ∧ Below w.heap.size w w'
theorem clJ_call (w w' : World) (g i : Nat) (X x y : Int) (h : ClJ w g i X x y w') : Calls Tryd.prog 10 #[.iface 58 (.pointer (some ⟨i, 0, none⟩))] w' fun e w'' => e = .returned (.agg #[.int .i64 X, .int .i64 y]) ∧ ClJ w g i X x y w'' :=
  (fault_calls w' _ _ _ h.1 h.2.1).mono fun _ w'' ⟨h1, h2⟩ => ⟨h1, h.1.below h2 h.1.pos, h.2.1.below h2, (h2.block _ (lt_of_block h.2.2.1)).trans h.2.2.1, h.2.2.2.trans (h2.mono h.2.2.2.size)⟩
theorem clJ_cell0 {w w' : World} {g i : Nat} {X x y : Int} (h : ClJ w g i X x y w') : w'.cell? ⟨g, 0, none⟩ = some (.int .i64 x) := by simp [World.cell?, h.2.2.1]
theorem clJ_cell1 {w w' : World} {g i : Nat} {X x y : Int} (h : ClJ w g i X x y w') : w'.cell? ⟨g, 1, none⟩ = some (.int .i64 y) := by simp [World.cell?, h.2.2.1]
set_option maxRecDepth 100000 in
set_option maxHeartbeats 4000000 in
theorem joins_one (w : World) (a b : ByteArray) (way : Int) (za : a.size ≤ 1048576) (zb : b.size ≤ 1048576) (ca cb cz : Int) (hJ : ChkJ a.size ca cb cz) (S T U : ByteArray) (hS : S.size ≤ 8000000) (hT : T.size ≤ 8000000)
    (hX : ∀ w, Calls Tryd.prog 22 #[.string a] w fun e w' => e = .returned (.int .i64 ca) ∧ w = w')
    (hY : ∀ w, Calls Tryd.prog 22 #[.string b] w fun e w' => e = .returned (.int .i64 cb) ∧ w = w')
    (hZ : ∀ w, Calls Tryd.prog 22 #[.string (a ++ b)] w fun e w' => e = .returned (.int .i64 cz) ∧ w = w')
    (hA : ∀ w, Calls Tryd.prog 19 #[.string a, .int .i64 way] w fun e w' => (∃ i, e = .returned (.tuple #[.string S, .iface 58 (.pointer (some ⟨i, 0, none⟩))])) ∧ Below w.heap.size w w')
    (hB : ∀ w, Calls Tryd.prog 19 #[.string b, .int .i64 way] w fun e w' => (∃ v, e = .returned (.tuple #[.string T, v])) ∧ Below w.heap.size w w')
    (hU : ∀ w, Calls Tryd.prog 19 #[.string (a ++ b), .int .i64 way] w fun e w' => (∃ v, e = .returned (.tuple #[.string U, v])) ∧ Below w.heap.size w w')    :
    Calls Tryd.prog 7 #[.string a, .string b, .int .i64 way] w fun e w' => e = .returned (.bool true) ∧ Below w.heap.size w w' := by
  have HX := Lib.hid hX
  have HY := Lib.hid hY
  have HZ := Lib.hid hZ
  have HA := Lib.hid hA
  have HB := Lib.hid hB
  have HU := Lib.hid hU
  clear hX hY hZ hA hB hU
  rcases hJ with hJ | ⟨rfl, rfl, rfl⟩ | ⟨rfl, j1, rfl, j2⟩
  all_goals
    go_enter Tryd.func7, Tryd.ntmps7
    go_wp2_with (first
      | (go_at_call 21; refine (works_calls _).mono ?_; rintro e w0 ⟨rfl, hb0⟩; (have HB0 := Lib.hid hb0); clear hb0)
      | (go_at_call 22; (with_reducible refine (HX.out _).mono ?_); rintro e w2 ⟨rfl, rfl⟩)
      | (go_at_call 22; (with_reducible refine (HY.out _).mono ?_); rintro e w2 ⟨rfl, rfl⟩)
      | (go_at_call 22; (with_reducible refine (HZ.out _).mono ?_); rintro e w2 ⟨rfl, rfl⟩)
      | (go_at_call 19; (with_reducible refine (HA.out _).mono ?_); rintro e w1 ⟨⟨i1, rfl⟩, hb1⟩; (have HB1 := Lib.hid (HB0.out.trans (hb1.mono HB0.out.size))); clear hb1)
      | (go_at_call 19; (with_reducible refine (HB.out _).mono ?_); rintro e w2 ⟨⟨v2, rfl⟩, hb2⟩; (have HB2 := Lib.hid (HB1.out.trans (hb2.mono HB1.out.size))); clear hb2)
      | (go_at_call 19; (with_reducible refine (HU.out _).mono ?_); rintro e w3 ⟨⟨v3, rfl⟩, hb3⟩; (have HB3 := Lib.hid (HB2.out.trans (hb3.mono HB2.out.size))); clear hb3))
    go_ret
    exact ⟨rfl, HB3.out⟩
set_option maxRecDepth 100000 in
set_option maxHeartbeats 4000000 in
theorem joins_three (w : World) (a b : ByteArray) (way : Int) (za : a.size ≤ 1048576) (zb : b.size ≤ 1048576) (ca cb cz : Int) (hJ : ChkJ a.size ca cb cz) (S T U : ByteArray) (hS : S.size ≤ 8000000) (hT : T.size ≤ 8000000)
    (hX : ∀ w, Calls Tryd.prog 22 #[.string a] w fun e w' => e = .returned (.int .i64 ca) ∧ w = w')
    (hY : ∀ w, Calls Tryd.prog 22 #[.string b] w fun e w' => e = .returned (.int .i64 cb) ∧ w = w')
    (hZ : ∀ w, Calls Tryd.prog 22 #[.string (a ++ b)] w fun e w' => e = .returned (.int .i64 cz) ∧ w = w')
    (hA : ∀ w, Calls Tryd.prog 19 #[.string a, .int .i64 way] w fun e w' => (e = .returned (.tuple #[.string S, .nilIface])) ∧ Below w.heap.size w w')
    (hB : ∀ w, Calls Tryd.prog 19 #[.string b, .int .i64 way] w fun e w' => (e = .returned (.tuple #[.string T, .nilIface])) ∧ Below w.heap.size w w')
    (hU : ∀ w, Calls Tryd.prog 19 #[.string (a ++ b), .int .i64 way] w fun e w' => (e = .returned (.tuple #[.string (S ++ T), .nilIface])) ∧ Below w.heap.size w w')    :
    Calls Tryd.prog 7 #[.string a, .string b, .int .i64 way] w fun e w' => e = .returned (.bool true) ∧ Below w.heap.size w w' := by
  have HX := Lib.hid hX
  have HY := Lib.hid hY
  have HZ := Lib.hid hZ
  have HA := Lib.hid hA
  have HB := Lib.hid hB
  have HU := Lib.hid hU
  clear hX hY hZ hA hB hU
  rcases hJ with hJ | ⟨rfl, rfl, rfl⟩ | ⟨rfl, j1, rfl, j2⟩
  all_goals
    go_enter Tryd.func7, Tryd.ntmps7
    go_wp2_with (first
      | (go_at_call 21; refine (works_calls _).mono ?_; rintro e w0 ⟨rfl, hb0⟩; (have HB0 := Lib.hid hb0); clear hb0)
      | (go_at_call 22; (with_reducible refine (HX.out _).mono ?_); rintro e w2 ⟨rfl, rfl⟩)
      | (go_at_call 22; (with_reducible refine (HY.out _).mono ?_); rintro e w2 ⟨rfl, rfl⟩)
      | (go_at_call 22; (with_reducible refine (HZ.out _).mono ?_); rintro e w2 ⟨rfl, rfl⟩)
      | (go_at_call 19; (with_reducible refine (HA.out _).mono ?_); rintro e w1 ⟨rfl, hb1⟩; (have HB1 := Lib.hid (HB0.out.trans (hb1.mono HB0.out.size))); clear hb1)
      | (go_at_call 19; (with_reducible refine (HB.out _).mono ?_); rintro e w2 ⟨rfl, hb2⟩; (have HB2 := Lib.hid (HB1.out.trans (hb2.mono HB1.out.size))); clear hb2)
      | (go_at_call 19; (with_reducible refine (HU.out _).mono ?_); rintro e w3 ⟨rfl, hb3⟩; (have HB3 := Lib.hid (HB2.out.trans (hb3.mono HB2.out.size))); clear hb3))
    go_ret
    exact ⟨rfl, HB3.out⟩
set_option maxRecDepth 100000 in
set_option maxHeartbeats 4000000 in
theorem joins_two (w : World) (a b : ByteArray) (way : Int) (za : a.size ≤ 1048576) (zb : b.size ≤ 1048576) (ca cb cz : Int) (hJ : ChkJ a.size ca cb cz) (S T U : ByteArray) (x y : Int) (hg : HandleMet w) (hx : 0 ≤ x ∧ x ≤ 8000000) (hS : S.size ≤ 8000000) (hT : T.size ≤ 8000000)
    (hX : ∀ w, Calls Tryd.prog 22 #[.string a] w fun e w' => e = .returned (.int .i64 ca) ∧ w = w')
    (hY : ∀ w, Calls Tryd.prog 22 #[.string b] w fun e w' => e = .returned (.int .i64 cb) ∧ w = w')
    (hZ : ∀ w, Calls Tryd.prog 22 #[.string (a ++ b)] w fun e w' => e = .returned (.int .i64 cz) ∧ w = w')
    (hA : ∀ w, Calls Tryd.prog 19 #[.string a, .int .i64 way] w fun e w' => (e = .returned (.tuple #[.string S, .nilIface])) ∧ Below w.heap.size w w')
    (hB : ∀ w, Calls Tryd.prog 19 #[.string b, .int .i64 way] w fun e w' => (∃ i, e = .returned (.tuple #[.string T, .iface 58 (.pointer (some ⟨i, 0, none⟩))]) ∧ EV w' (.iface 58 (.pointer (some ⟨i, 0, none⟩))) x y) ∧ Below w.heap.size w w')
    (hU : ∀ w, Calls Tryd.prog 19 #[.string (a ++ b), .int .i64 way] w fun e w' => (∃ i, e = .returned (.tuple #[.string U, .iface 58 (.pointer (some ⟨i, 0, none⟩))]) ∧ EV w' (.iface 58 (.pointer (some ⟨i, 0, none⟩))) ((a.size : Int) + x) y) ∧ Below w.heap.size w w')    :
    Calls Tryd.prog 7 #[.string a, .string b, .int .i64 way] w fun e w' => e = .returned (.bool true) ∧ Below w.heap.size w w' := by
  have HX := Lib.hid hX
  have HY := Lib.hid hY
  have HZ := Lib.hid hZ
  have HA := Lib.hid hA
  have HB := Lib.hid hB
  have HU := Lib.hid hU
  have HG := Lib.hid hg
  clear hX hY hZ hA hB hU
  rcases hJ with hJ | ⟨rfl, rfl, rfl⟩ | ⟨rfl, j1, rfl, j2⟩
  all_goals
    go_enter Tryd.func7, Tryd.ntmps7
    go_upto_region 15 with (first
      | (go_at_call 21; refine (works_calls _).mono ?_; rintro e w0 ⟨rfl, hb0⟩; (have HB0 := Lib.hid hb0); clear hb0)
      | (go_at_call 22; (with_reducible refine (HX.out _).mono ?_); rintro e w2 ⟨rfl, rfl⟩)
      | (go_at_call 22; (with_reducible refine (HY.out _).mono ?_); rintro e w2 ⟨rfl, rfl⟩)
      | (go_at_call 22; (with_reducible refine (HZ.out _).mono ?_); rintro e w2 ⟨rfl, rfl⟩)
      | (go_at_call 19; (with_reducible refine (HA.out _).mono ?_); rintro e w1 ⟨rfl, hb1⟩; (have HB1 := Lib.hid (HB0.out.trans (hb1.mono HB0.out.size))); clear hb1)
      | (go_at_call 19; (with_reducible refine (HB.out _).mono ?_); rintro e w2 ⟨⟨i2, rfl, hv2⟩, hb2⟩; (have HB2 := Lib.hid (HB1.out.trans (hb2.mono HB1.out.size))); (have HV2 := Lib.hid hv2); clear hv2 hb2)
      | (go_at_call 19; (with_reducible refine (HU.out _).mono ?_); rintro e w3 ⟨⟨i3, rfl, hv3⟩, hb3⟩; (have HB3 := Lib.hid (HB2.out.trans (hb3.mono HB2.out.size))); (have HV3 := Lib.hid hv3); (have HW2 := Lib.hid (HV2.out.below hb3)); clear hv3 hb3)
      | (go_at_call 10; refine (fault_calls _ _ _ _ (HandleMet.below HG.out HB3.out HG.out.pos) HW2.out).mono ?_; rintro e w4 ⟨rfl, hb4⟩; (have HB4 := Lib.hid (HB3.out.trans (hb4.mono HB3.out.size))); (have HV4 := Lib.hid (HV3.out.below hb4)); clear hb4))
    have hrow : (w4.alloc (.cells #[.int .i64 x, .int .i64 y] 30)).heap[w4.heap.size]? = some (.cells #[.int .i64 x, .int .i64 y] 30 (0, 0)) := heap_alloc_new _ _
    have hB5 := HB4.out.alloc HB4.out.size (.cells #[.int .i64 x, .int .i64 y] 30)
    have hg5 := HandleMet.below HG.out hB5 HG.out.pos
    have hv5 := HV4.out.below ((Below.refl _ _).alloc (Nat.le_refl _) (.cells #[.int .i64 x, .int .i64 y] 30))
    generalize w4.alloc (.cells #[.int .i64 x, .int .i64 y] 30) = W5 at hrow hB5 hg5 hv5 ⊢
    generalize hg4 : w4.heap.size = g4 at hrow ⊢
    clear hg4
    refine wp_region_quiet_all (ClJ w g4 i3 ((a.size : Int) + x) x y) (by kernel_rfl) (by kernel_rfl) ⟨hg5, hv5, hrow, Below.drew hB5⟩ ?_
    clear hrow hB5 hg5 hv5
    have hfc := fun w' h => clJ_call w w' g4 i3 ((a.size : Int) + x) x y h
    have hwr : IntKind.i64.wrap ((a.size : Int) + x) = (a.size : Int) + x := by rw [IntKind.wrap_i64]; omega
    have hf0 := fl_field0
    have hf1 := fl_field1
    refine wq_val (.iface 58 (.pointer (some ⟨i3, 0, none⟩))) rfl (fun w' _ => by simp [go_sem]) ?_
    refine wq_val (.bool true) rfl (fun w' _ => by simp [go_sem]) ?_
    refine wq_val (.bool true) rfl (fun w' _ => by simp [go_sem]) ?_
    simp only [go_sem, List.setIfInBounds_toArray, List.set_cons_succ, List.set_cons_zero]
    refine wq_valG (.iface 58 (.pointer (some ⟨i3, 0, none⟩))) (by simp [Region.wanted, yielded]) (fun w' _ => by simp [go_sem]) ?_
    refine wq_callG (.agg #[.int .i64 ((a.size : Int) + x), .int .i64 y]) 10 #[.iface 58 (.pointer (some ⟨i3, 0, none⟩))] (by simp [Region.wanted, yielded, go_sem]) (fun w' => by simp [go_sem]) hfc ?_
    refine wq_valG (.int .i64 ((a.size : Int) + x)) (by simp [Region.wanted, yielded, go_sem]) (fun w' _ => by simp [go_sem, hf0]) ?_
    simp only [go_sem, List.setIfInBounds_toArray, List.set_cons_succ, List.set_cons_zero]
    refine wq_valG (.string a) (by simp [Region.wanted, yielded, go_sem]) (fun w' _ => by simp [go_sem]) ?_
    refine wq_valG (.int .i64 a.size) (by simp [Region.wanted, yielded, go_sem]) (fun w' _ => by simp [go_sem]) ?_
    refine wq_valG (.pointer (some ⟨g4, 0, none⟩)) (by simp [Region.wanted, yielded, go_sem]) (fun w' _ => by simp [go_sem]) ?_
    simp only [go_sem, List.setIfInBounds_toArray, List.set_cons_succ, List.set_cons_zero]
    refine wq_valG (.int .i64 x) (by simp [Region.wanted, yielded, go_sem]) (fun w' h => by have hc := clJ_cell0 h; simp [go_sem, hc]) ?_
    simp only [go_sem, List.setIfInBounds_toArray, List.set_cons_succ, List.set_cons_zero]
    refine wq_valG (.int .i64 ((a.size : Int) + x)) (by simp [Region.wanted, yielded, go_sem]) (fun w' _ => by simp [go_sem, hwr]) ?_
    refine wq_valG (.bool true) (by simp [Region.wanted, yielded, go_sem]) (fun w' _ => by simp [go_sem]) ?_
    simp only [go_sem, List.setIfInBounds_toArray, List.set_cons_succ, List.set_cons_zero]
    refine wq_val (.bool true) rfl (fun w' _ => by simp [go_sem]) ?_
    refine wq_val (.bool true) rfl (fun w' _ => by simp [go_sem]) ?_
    simp only [go_sem, List.setIfInBounds_toArray, List.set_cons_succ, List.set_cons_zero]
    refine wq_valG (.iface 58 (.pointer (some ⟨i3, 0, none⟩))) (by simp [Region.wanted, yielded, go_sem]) (fun w' _ => by simp [go_sem]) ?_
    refine wq_callG (.agg #[.int .i64 ((a.size : Int) + x), .int .i64 y]) 10 #[.iface 58 (.pointer (some ⟨i3, 0, none⟩))] (by simp [Region.wanted, yielded, go_sem]) (fun w' => by simp [go_sem]) hfc ?_
    refine wq_valG (.int .i64 y) (by simp [Region.wanted, yielded, go_sem]) (fun w' _ => by simp [go_sem, hf1]) ?_
    simp only [go_sem, List.setIfInBounds_toArray, List.set_cons_succ, List.set_cons_zero]
    refine wq_valG (.pointer (some ⟨g4, 1, none⟩)) (by simp [Region.wanted, yielded, go_sem]) (fun w' _ => by simp [go_sem]) ?_
    refine wq_valG (.int .i64 y) (by simp [Region.wanted, yielded, go_sem]) (fun w' h => by have hc := clJ_cell1 h; simp [go_sem, hc]) ?_
    simp only [go_sem, List.setIfInBounds_toArray, List.set_cons_succ, List.set_cons_zero]
    refine wq_valG (.bool true) (by simp [Region.wanted, yielded, go_sem]) (fun w' _ => by simp [go_sem]) ?_
    simp only [go_sem, List.setIfInBounds_toArray, List.set_cons_succ, List.set_cons_zero]
    refine wq_val (.bool true) rfl (fun w' _ => by simp [go_sem]) ?_
    refine wq_val (.bool true) rfl (fun w' _ => by simp [go_sem]) ?_
    simp only [go_sem, List.setIfInBounds_toArray, List.set_cons_succ, List.set_cons_zero]
    refine wpQuiet_nil ?_
    rintro w6 ⟨_, _, _, hb6⟩
    go_wp2_with fail
    go_ret
    exact ⟨rfl, hb6⟩
theorem un_place : ∀ (n : Nat) (b : List UInt8) (x way : Int), b.length ≤ n → ((unF b x way).2.2 ≠ 0 → x ≤ (unF b x way).2.1 ∧ (unF b x way).2.1 ≤ x + b.length) ∧ (unF b x way).1.length ≤ 4 * b.length
  | 0, b, x, way, h => by
    obtain rfl : b = [] := List.eq_nil_of_length_eq_zero (by omega)
    exact ⟨fun h => absurd rfl h, Nat.zero_le _⟩
  | n + 1, b, x, way, h => by
    by_cases hl : b = []
    · subst hl; exact ⟨fun h => absurd rfl h, Nat.zero_le _⟩
    have hb := List.length_pos_iff.2 hl
    rw [unF_step x way hl]
    have key : ∀ (r : Int) (k : Nat), 1 ≤ k → k ≤ b.length → ((consU (encB r) (unF (b.drop k) (x + k) way)).2.2 ≠ 0 → x ≤ (consU (encB r) (unF (b.drop k) (x + k) way)).2.1 ∧ (consU (encB r) (unF (b.drop k) (x + k) way)).2.1 ≤ x + b.length) ∧ (consU (encB r) (unF (b.drop k) (x + k) way)).1.length ≤ 4 * b.length := by
      intro r k hk hkb
      obtain ⟨i1, i2⟩ := un_place n (b.drop k) (x + k) way (by simp; omega)
      have he := (encB_len (r := r)).1
      rw [List.length_drop] at i1 i2
      unfold consU
      split
      · rename_i h0
        exact ⟨fun h => absurd h0 h, by simp; omega⟩
      · rename_i h0
        have := i1 h0
        refine ⟨fun _ => ?_, by simp⟩
        simp only
        exact ⟨by omega, by omega⟩
    by_cases h0 : (dec b).2 = 0
    · rw [if_pos h0]; exact ⟨fun _ => ⟨Int.le_refl _, by simp only; omega⟩, by simp⟩
    rw [if_neg h0]
    by_cases h92 : (dec b).1 = 92
    · rw [if_pos h92]
      by_cases he : (escI b way).2 = 0
      · rw [if_pos he]; exact ⟨fun _ => ⟨Int.le_refl _, by simp only; omega⟩, by simp⟩
      rw [if_neg he]
      have := (escI_app [] he).2
      exact key _ _ (by omega) this
    · rw [if_neg h92]
      exact key _ _ (by omega) (dec_le b).2
theorem ev_some {w : World} {v : Value} {x y : Int} (hy : y ≠ 0) (h : EV w v x y) : ∃ i, v = .iface 58 (.pointer (some ⟨i, 0, none⟩)) := by
  rcases h with ⟨_, _, h⟩ | ⟨b, _, h, _⟩
  · exact absurd h hy
  · exact ⟨b, h⟩
theorem ba_size (l : List UInt8) : (⟨l.toArray⟩ : ByteArray).size = l.length := by simp [ByteArray.size]
theorem utfjoins_up (w : World) (a : ByteArray) (za : a.size ≤ 1048576) (b : ByteArray) (zb : b.size ≤ 1048576) (way : Int) (_ : (Lit.int .i64 way).wf = true) (hg : HandleMet w) :
    Calls Tryd.prog 7 #[.string a, .string b, .int .i64 way] w fun e w' => e = .returned (.bool true) ∧ Below w.heap.size w w' := by
  have hla : a.data.toList.length = a.size := Lib.size_eq a
  have hlb : b.data.toList.length = b.size := Lib.size_eq b
  have hcat : (a ++ b).data.toList = a.data.toList ++ b.data.toList := by rw [ByteArray.data_append]; simp
  have hzs : (a ++ b).size ≤ 2097152 := by rw [ByteArray.size_append]; omega
  have hcv := chkF_val b.data.toList 0 (Int.le_refl _)
  have hJ : ChkJ a.size (chkF a.data.toList 0) (chkF b.data.toList 0) (chkF (a ++ b).data.toList 0) := by
    rcases chkF_val a.data.toList 0 (Int.le_refl _) with ha | ha
    · have h1 := chk_app _ a.data.toList b.data.toList 0 (Nat.le_refl _) (Int.le_refl _) ha
      rw [chk_shift _ b.data.toList 0 _ (Nat.le_refl _) (Int.le_refl _) (by omega), hla] at h1
      rw [hcat]
      right
      rcases hcv with hb | hb
      · rw [if_pos hb] at h1
        exact .inl ⟨ha, hb, h1⟩
      · rw [if_neg (by omega)] at h1
        refine .inr ⟨ha, hb, by omega, ?_⟩
        rcases chk_split _ b.data.toList 0 (Nat.le_refl _) (Int.le_refl _) with h2 | ⟨k, h2, h3, _⟩
        · omega
        · omega
    · exact .inl ha
  have hua := fun w => uunescape_calls a way w (by omega)
  have hub := fun w => uunescape_calls b way w (by omega)
  have huz := fun w => uunescape_calls (a ++ b) way w (by omega)
  have hX := fun w => check_calls a w (by omega)
  have hY := fun w => check_calls b w (by omega)
  have hZ := fun w => check_calls (a ++ b) w (by omega)
  have pa := un_place _ a.data.toList 0 way (Nat.le_refl _)
  have pb := un_place _ b.data.toList 0 way (Nat.le_refl _)
  have sa : (⟨(unF a.data.toList 0 way).1.toArray⟩ : ByteArray).size ≤ 8000000 := by rw [ba_size]; omega
  have sb : (⟨(unF b.data.toList 0 way).1.toArray⟩ : ByteArray).size ≤ 8000000 := by rw [ba_size]; omega
  by_cases ya : (unF a.data.toList 0 way).2.2 = 0
  · have h1 := un_app _ a.data.toList b.data.toList 0 way (Nat.le_refl _) ya
    rw [un_shift _ b.data.toList 0 _ way (Nat.le_refl _), hla] at h1
    rw [hcat, h1] at huz
    have hA : ∀ w, Calls Tryd.prog 19 #[.string a, .int .i64 way] w fun e w' => (e = .returned (.tuple #[.string ⟨(unF a.data.toList 0 way).1.toArray⟩, .nilIface])) ∧ Below w.heap.size w w' := fun w => (hua w).mono fun e w' ⟨v, h2, h3, h4⟩ => by
      rw [ya] at h3
      obtain rfl := h3.none
      exact ⟨h2, h4⟩
    by_cases yb : (unF b.data.toList 0 way).2.2 = 0
    · refine joins_three w a b way za zb _ _ _ hJ ⟨(unF a.data.toList 0 way).1.toArray⟩ ⟨(unF b.data.toList 0 way).1.toArray⟩ ByteArray.empty sa sb hX hY hZ hA (fun w => (hub w).mono fun e w' ⟨v, h2, h3, h4⟩ => ?_) (fun w => (huz w).mono fun e w' ⟨v, h2, h3, h4⟩ => ?_)
      · rw [yb] at h3
        obtain rfl := h3.none
        exact ⟨h2, h4⟩
      · unfold consU at h2 h3
        rw [if_pos (by exact yb)] at h2 h3
        simp only [yb] at h3
        obtain rfl := h3.none
        refine ⟨?_, h4⟩
        rw [h2]
        have e : (⟨((unF a.data.toList 0 way).1 ++ (unF b.data.toList 0 way).1).toArray⟩ : ByteArray) = ⟨(unF a.data.toList 0 way).1.toArray⟩ ++ ⟨(unF b.data.toList 0 way).1.toArray⟩ := by
          apply congrArg ByteArray.mk
          apply Array.ext'
          simp
        simp only [e]
    · have hx := pb.1 yb
      refine joins_two w a b way za zb _ _ _ hJ ⟨(unF a.data.toList 0 way).1.toArray⟩ ⟨(unF b.data.toList 0 way).1.toArray⟩ ⟨#[]⟩ (unF b.data.toList 0 way).2.1 (unF b.data.toList 0 way).2.2 hg ⟨by omega, by omega⟩ sa sb hX hY hZ hA (fun w => (hub w).mono fun e w' ⟨v, h2, h3, h4⟩ => ?_) (fun w => (huz w).mono fun e w' ⟨v, h2, h3, h4⟩ => ?_)
      · obtain ⟨i, rfl⟩ := ev_some yb h3
        exact ⟨⟨i, h2, h3⟩, h4⟩
      · unfold consU at h2 h3
        rw [if_neg (by exact yb)] at h2 h3
        simp only at h2 h3
        rw [if_neg yb] at h3
        obtain ⟨i, rfl⟩ := ev_some yb h3
        rw [Int.add_comm] at h3
        exact ⟨⟨i, h2, h3⟩, h4⟩
  · refine joins_one w a b way za zb _ _ _ hJ ⟨(unF a.data.toList 0 way).1.toArray⟩ ⟨(unF b.data.toList 0 way).1.toArray⟩ _ sa sb hX hY hZ (fun w => (hua w).mono fun e w' ⟨v, h2, h3, h4⟩ => ?_) (fun w => (hub w).mono fun e w' ⟨v, h2, h3, h4⟩ => ⟨⟨v, h2⟩, h4⟩) (fun w => (huz w).mono fun e w' ⟨v, h2, h3, h4⟩ => ⟨⟨v, h2⟩, h4⟩)
    obtain ⟨i, rfl⟩ := ev_some ya h3
    exact ⟨⟨i, h2⟩, h4⟩
end Go.Proofs.YthloijpnbljpeaaDoor
