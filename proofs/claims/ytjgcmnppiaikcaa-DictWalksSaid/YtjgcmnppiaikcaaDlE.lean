/- What walked gathers: boxes and rows beside an iterator that turns boxes of its own; sameSeen. -/
import Derived.Test.YtjgcmnppiaikcaaDkT
import Derived.Laws.StructEq
import Derived.BigQuiet
import Derived.Deep.QuietTactic
set_option linter.unusedVariables false
set_option linter.unusedSimpArgs false
namespace Go.Tk
open Go Go.RowKit
/-- An entry and its number, as cells. -/
def sawC (x : Nat × List UInt8) : List Value := [.int .i64 (x.1 : Nat), .string ⟨x.2.toArray⟩]
def sawCs (L : List (Nat × List UInt8)) : List Value := L.flatMap sawC
theorem sawCs_snoc (L : List (Nat × List UInt8)) (x : Nat × List UInt8) : sawCs (L ++ [x]) = sawCs L ++ sawC x := by simp [sawCs]
theorem sawCs_len (L : List (Nat × List UInt8)) : (sawCs L).length = L.length * 2 := by
  induction L with
  | nil => rfl
  | cons x L ih => simp [sawCs, sawC] at ih ⊢; omega
theorem sawCs_at : ∀ (L : List (Nat × List UInt8)) (k : Nat) (h : k < L.length), (sawCs L)[k * 2]? = some (.int .i64 (L[k].1 : Nat)) ∧ (sawCs L)[k * 2 + 1]? = some (.string ⟨L[k].2.toArray⟩)
  | [], k, h => by simp at h
  | x :: L, 0, _ => by simp [sawCs, sawC]
  | x :: L, k + 1, h => by
    have ih := sawCs_at L k (by simpa using h)
    have e : sawCs (x :: L) = .int .i64 (x.1 : Nat) :: .string ⟨x.2.toArray⟩ :: sawCs L := by simp [sawCs, sawC]
    rw [e, show (k + 1) * 2 = k * 2 + 1 + 1 by omega]
    simpa using ih
/-- A box, a row of owned cells: they abide the turn of blocks of another kind. -/
theorem box_ab {Q : Obj → Prop} {X Y : World} {B : Nat} {T : TypeId} {v : Value} {row : Option Nat} (h : Boxed X B T v) (hT : ∀ u, ¬ Q (.cells #[u] T (0, 0))) (hg : X.grownBy Y row)
    (hr : ∀ r, row = some r → ∃ o : Obj, X.heap[r]? = some o ∧ (Q o ∨ o.isCells = false)) : Boxed Y B T v := by
  refine (hg.block B (lt_of_block h) (fun e => ?_)).trans h
  obtain ⟨o, ho, hq⟩ := hr B e.symm
  rw [show X.heap[B]? = _ from h] at ho
  cases ho
  rcases hq with hq | hq
  · exact hT _ hq
  · cases hq
theorem row_ab {Q : Obj → Prop} {X Y : World} {n₀ e size : Nat} {v : Value} {k : Nat} {xs : List Value} {row : Option Nat} (h : X.ownsRow n₀ e size v k xs) (hT : ∀ cs f, ¬ Q (.cells cs e f)) (hg : X.grownBy Y row)
    (hr : ∀ r, row = some r → ∃ o : Obj, X.heap[r]? = some o ∧ (Q o ∨ o.isCells = false)) : Y.ownsRow n₀ e size v k xs := by
  rcases h with ⟨a, ⟨e1, e2⟩ | ⟨g, cap, cur, e1, e2, e3, e4⟩⟩
  · exact ⟨a, .inl ⟨e1, e2⟩⟩
  · refine ⟨a, .inr ⟨g, cap, cur, e1, e2, ?_, e4⟩⟩
    refine (hg.block g (lt_of_block e3) (fun e => ?_)).trans e3
    obtain ⟨o, ho, hq⟩ := hr g e.symm
    rw [e3] at ho
    cases ho
    rcases hq with hq | hq
    · exact hT _ _ hq
    · cases hq
/-- A round that appends to a row of its own and stores the slice into a box keeps whatever is of another kind. -/
theorem app_keeps {Q : Obj → Prop} {X w1 : World} {n₀ B : Nat} {t e : TypeId} {size : Nat} {v v' : Value} {k : Nat} {xs : List Value} {tmp : Obj} (hv : Boxed X B t v) (hT : ∀ u, ¬ Q (.cells #[u] t (0, 0))) (hE : ∀ cs f, ¬ Q (.cells cs e f))
    (hrow : X.ownsRow n₀ e size v k xs) (hgrow : (X.alloc tmp).grownBy w1 v.ownBlock) (j : Nat) (o : Obj) (ho : X.heap[j]? = some o) (hq : Q o ∨ o.isCells = false) : (w1.setCell ⟨B, 0, none⟩ v').heap[j]? = some o := by
  have hjB : j ≠ B := fun h => by
    subst h
    rw [show X.heap[j]? = _ from hv] at ho
    cases ho
    rcases hq with hq | hq
    · exact hT _ hq
    · cases hq
  have hjr : v.ownBlock ≠ some j := fun h => by
    rcases hrow.2 with ⟨rfl, _⟩ | ⟨g, cap, cur, rfl, hb, hgb, _⟩
    · simp [Value.ownBlock] at h
    · obtain rfl : g = j := by simpa [Value.ownBlock] using h
      rw [hgb] at ho
      cases ho
      rcases hq with hq | hq
      · exact hE _ _ hq
      · cases hq
  have hlt := (Array.getElem?_eq_some_iff.1 ho).1
  rw [heap_setCell_other _ _ _ _ (by simpa using hjB), hgrow.block j (by simp; omega) (fun e => hjr e.symm)]
  exact (Below.heap_alloc _ _ _ hlt).trans ho
end Go.Tk
namespace Go.Proofs.Ytjgcmnppiaikcaa
open Go.RowKit Go.Shelf Go.Tk
attribute [local go_sem] Oper.semAt_some
theorem qoe_box (u : Value) : ¬ QoE (.cells #[u] 64 (0, 0)) := by
  rintro (⟨v, h⟩ | ⟨v, h⟩ | ⟨v, h⟩) <;> (injection h with h1 h2 h3; exact absurd h2 (by decide))
theorem qoe_row (cs : Array Value) (f : Nat × Nat) : ¬ QoE (.cells cs 68 f) := by
  rintro (⟨v, h⟩ | ⟨v, h⟩ | ⟨v, h⟩) <;> (injection h with h1 h2 h3; exact absurd h2 (by decide))
/-- Each's iterator by the numbers of its rounds. -/
theorem eachI_in (n : Nat) (w0 : World) (gd N wd : Nat) (pa : Option Addr) (pc : Nat) (pz : List Int) (ea : Option Addr) (ec : Nat) (eb : List UInt8) (hD : DictM w0 gd N wd pa pc pz ea ec (nums eb))
    (p1 p2 : Nat) (fr : Int) (hfr : -9223372036854775808 ≤ fr ∧ fr ≤ 9223372036854775807) (L : List (Nat × List UInt8)) (hL : L = eachF pz wd eb N fr) (W : World)
    (hp1 : W.heap[p1]? = some (.cells #[.int .i64 fr] 3 (0, 0))) (hp2 : W.heap[p2]? = some (.cells #[.pointer (some ⟨gd, 0, none⟩)] 38 (0, 0))) (hsz : w0.heap.size ≤ W.heap.size) (hsame : ∀ j, j < w0.heap.size → W.heap[j]? = w0.heap[j]?) :
    SeqI Fence.wide n Try.prog 76 #[.pointer (some ⟨p1, 0, none⟩), .pointer (some ⟨p2, 0, none⟩)] (L.map encK) (fun o => QoE o ∨ o.isCells = false) (KpO QoE (fun j => j < w0.heap.size ∨ j = p1 ∨ j = p2)) W := by
  intro l J Jx W' hW' hA hAx hY h0
  rw [List.length_map]
  refine each1_in n l w0 gd N wd pa pc pz ea ec eb hD p1 p2 fr hfr L hL J Jx W' ?_ hA hAx ((hW'.block _ (lt_of_block hp1)).trans hp1) ((hW'.block _ (lt_of_block hp2)).trans hp2) (Nat.le_trans hsz hW'.size) (fun j hj => (hW'.block _ (by omega)).trans (hsame j hj)) h0
  intro i X hi hJ
  have := hY i X (by rw [List.length_map]; exact hi) hJ
  rw [List.getElem_map] at this
  exact this
theorem each_in (n : Nat) (gd : Nat) (fr : Int) (w : World) :
    CallsIn Fence.wide n Try.prog 58 #[.pointer (some ⟨gd, 0, none⟩), .int .i64 fr] w fun e w' => e = .returned (.func (.func 76) #[] #[.pointer (some ⟨w.heap.size + 1, 0, none⟩), .pointer (some ⟨w.heap.size, 0, none⟩)]) ∧ w' = (w.alloc (.cells #[.pointer (some ⟨gd, 0, none⟩)] 38)).alloc (.cells #[.int .i64 fr] 3) := by
  refine callsIn_of_wp Try.func58 rfl trivial ?_ rfl
  simp only [Try.ntmps58, List.size_toArray, List.length_cons, List.length_nil, Nat.reduceAdd, Nat.reduceSub, Array.replicate_succ, Array.replicate_zero, List.push_toArray, List.append_toArray, List.nil_append, List.cons_append]
  gi_wp2
  go_ret
  exact ⟨by simp, rfl⟩
theorem saw_fields : Try.prog.underlying 68 = some (.struct (Try.prog.fieldsOf 68)) := by kernel_rfl
theorem saw_stood : Try.prog.stoodInHeld 68 = false := by kernel_rfl
theorem saw_guard : Try.prog.eqGuardType Try.prog.depth 68 = false := by kernel_rfl
theorem saw_neq (a : Int) (s : ByteArray) (w : World) : (binOp .neq 68 (.agg #[.int .i64 a, .string s]) (.agg #[.int .i64 a, .string s])).run Try.prog w = .ok (.bool false) w := by
  rw [run_neq_struct, run_equalIn_agg w 9999 _ _ _ saw_fields saw_stood]
  unfold Program.fieldsOf
  rw [Try.underlying68]
  simp [go_sem, Op.eqFields, part]
theorem saw_guarded (op : BinOp) (x y : Operand) (p q : Array Value) (w : World) : (eqGuard op 68 x y (.agg p) (.agg q)).run Try.prog w = .ok () w := run_eqGuard_agg w op _ x y p q saw_guard
set_option maxHeartbeats 1000000 in
theorem sameSaw_calls (w : World) (n₀ n₁ : Nat) (v1 v2 : Value) (L : List (Nat × List UInt8)) (hL : L.length ≤ 9223372036854775807) (h1 : w.ownsRow n₀ 68 2 v1 L.length (sawCs L)) (h2 : w.ownsRow n₁ 68 2 v2 L.length (sawCs L)) :
    Calls Try.prog 52 #[v1, v2] w fun e w' => e = .returned (.bool true) ∧ ∃ n, w' = w.drewN n := by
  obtain ⟨a1, c1, rfl⟩ := ownsRow_slice h1
  obtain ⟨a2, c2, rfl⟩ := ownsRow_slice h2
  have hat : ∀ k, (hk : k < L.length) → ∃ g1 g2, a1 = some ⟨g1, 0, none⟩ ∧ a2 = some ⟨g2, 0, none⟩ ∧ w.cell? ⟨g1, k * 2, none⟩ = some (.int .i64 (L[k].1 : Nat)) ∧ w.cell? ⟨g1, k * 2 + 1, none⟩ = some (.string ⟨L[k].2.toArray⟩) ∧
      w.cell? ⟨g2, k * 2, none⟩ = some (.int .i64 (L[k].1 : Nat)) ∧ w.cell? ⟨g2, k * 2 + 1, none⟩ = some (.string ⟨L[k].2.toArray⟩) := by
    intro k hk
    have hs := sawCs_at L k hk
    rcases h1.2 with ⟨hv, h0⟩ | ⟨g1, cap1, cur1, hv1, _⟩
    · omega
    rcases h2.2 with ⟨hv, h0⟩ | ⟨g2, cap2, cur2, hv2, _⟩
    · omega
    simp at hv1 hv2
    obtain ⟨rfl, rfl⟩ := hv1
    obtain ⟨rfl, rfl⟩ := hv2
    have x1 := World.ownsRow.cells h1 (g := g1) rfl
    have x2 := World.ownsRow.cells h2 (g := g2) rfl
    refine ⟨g1, g2, rfl, rfl, ?_, ?_, ?_, ?_⟩
    · have := x1 (k * 2) _ hs.1; rw [Addr.add_lit, Nat.zero_add] at this; exact this
    · have := x1 (k * 2 + 1) _ hs.2; rw [Addr.add_lit, Nat.zero_add] at this; exact this
    · have := x2 (k * 2) _ hs.1; rw [Addr.add_lit, Nat.zero_add] at this; exact this
    · have := x2 (k * 2 + 1) _ hs.2; rw [Addr.add_lit, Nat.zero_add] at this; exact this
  have HAT := Lib.hid hat
  have hne : ((L.length : Int) != (L.length : Int)) = false := by simp
  obtain ⟨N, hN⟩ : ∃ N, N = L.length := ⟨_, rfl⟩
  rw [← hN] at hne hL ⊢
  have HN := Lib.hid hN
  clear hat h1 h2 hN
  have hgd := saw_guarded
  go_enter Try.func52, Try.ntmps52
  go_wp2
  go_loopw [5] (fun i wr => ∃ k n, k ≤ N ∧ i = .int .i64 (k : Nat) ∧ wr = w.drewN n) (fun i _ => N - (intOf i).toNat)
  case atStart => exact ⟨0, 0, Nat.zero_le _, rfl, rfl⟩
  case round =>
    obtain ⟨k, n, hk, rfl, rfl⟩ := hrel
    by_cases hlt : k < N
    · obtain ⟨g1, g2, rfl, rfl, y1, y2, y3, y4⟩ := HAT.out k (by have := HN.out; omega)
      obtain ⟨p, hp⟩ : ∃ p : Int, p = ((L[k]'(by have := HN.out; omega)).1 : Nat) := ⟨_, rfl⟩
      obtain ⟨q, hq⟩ : ∃ q : ByteArray, q = ⟨(L[k]'(by have := HN.out; omega)).2.toArray⟩ := ⟨_, rfl⟩
      rw [← hp] at y1 y3
      rw [← hq] at y2 y4
      have hnq := saw_neq p q
      clear hp hq
      go_wp2_with fail
      go_quiet (fail)
      go_wp2
      go_roundw
      case rel => exact ⟨k + 1, _, by omega, by go_num, rfl⟩
      case measure => simp [intOf]; omega
    · go_wp2
      go_ret
      exact ⟨rfl, _, rfl⟩
end Go.Proofs.Ytjgcmnppiaikcaa
