/- The program's numeral, twoMoments. -/
import Derived.Test.YtlhcejbimlilaaaGreatDoorVbF
set_option linter.unusedVariables false
set_option linter.unusedSimpArgs false
namespace Go.Proofs.YtlhcejbimlilaaaGreatDoor
open Go.RowKit Go.Tk
theorem chkE_i (t x : List UInt8) : chkE t x = 0 ∨ chkE t x ≠ 0 := by omega
theorem valued_none (kd : Int) (x t l : ByteArray) (w : World) (hk : kdOf t.data.toList = none) :
    Calls Tryz.prog 28 #[.agg #[.int .i64 kd, .string x, .string t, .string l]] w (VdN w) := valued_no kd x t l w (fun w => find_none' t w hk)
theorem valued_some (kd : Int) (x t l : ByteArray) (w : World) (hx : x.size ≤ 9223372036854775807) (k : Kd) (hk : kdOf t.data.toList = some k) :
    Calls Tryz.prog 28 #[.agg #[.int .i64 kd, .string x, .string t, .string l]] w (VdY (famK k) (vdOk kd t.data.toList x.data.toList) w) := by
  have e2 : vdOk kd t.data.toList x.data.toList = (decide (kd = 3) && decide (chkE t.data.toList x.data.toList = 0)) := by unfold vdOk; rw [hk]; rfl
  rw [e2]
  have hf : ∀ w, Calls Tryz.prog 24 #[.string t] w fun e w' => ∃ caps : Array Value, e = .returned (.tuple #[.agg #[.int .i64 (famK k), .func (.func (isF k)) #[] caps, .func (.func (ownF k)) #[] #[]], .bool true]) ∧ Below w.heap.size w w' := fun w => (find_some t ⟨#[]⟩ k w (by decide) hk).mono fun e w' ⟨caps, a, b, _⟩ => ⟨caps, a, b⟩
  by_cases h3 : kd = 3
  · subst h3
    rcases chkE_i t.data.toList x.data.toList with hc | hc
    · rw [hc]
      exact valued_ok _ _ _ 0 x t l w hf (fun w => by have := vcheck_calls t x w hx; rw [hc] at this; exact this) rfl
    · rw [decide_eq_false hc]
      exact valued_bad _ _ _ _ x t l w hf (fun w => vcheck_calls t x w hx) hc
  · rw [decide_eq_false h3]
    exact valued_kd _ _ _ kd x t l w hf h3
/-- The number of a text. -/
def nuN (s : List UInt8) : Nm := (dblP s).getD nmZ
set_option maxHeartbeats 1000000 in
theorem numeral_calls (s : ByteArray) (w : World) (hs : s.size ≤ 4000000000) :
    Calls Tryz.prog 29 #[.string s] w fun e w' => e = .returned (nuN s.data.toList).val ∧ Below w.heap.size w w' := by
  have h := fun w => double_calls s w hs
  have h : ∀ w, Calls Tryz.prog 54 #[.string s] w fun e w' => e = .returned (.tuple #[(nuN s.data.toList).val, .bool (dblP s.data.toList).isSome]) ∧ Below w.heap.size w w' := h
  obtain ⟨⟨mb, md, mp, mi, mn⟩, hM⟩ : ∃ M, M = nuN s.data.toList := ⟨_, rfl⟩
  obtain ⟨ok, hok⟩ : ∃ b, b = (dblP s.data.toList).isSome := ⟨_, rfl⟩
  rw [← hM, ← hok] at h
  rw [← hM]
  unfold Nm.val at h ⊢
  dsimp only at h ⊢
  obtain ⟨D, hD⟩ : ∃ D : ByteArray, D = ⟨md.toArray⟩ := ⟨_, rfl⟩
  rw [← hD] at h ⊢
  have H := Lib.hid h
  clear h hM hok hD
  go_enter Tryz.func29, Tryz.ntmps29
  go_wp2_with (go_at_call 54; (with_reducible refine (H.out _).mono ?_); rintro e w3 ⟨rfl, hb3⟩; (have R3 := (Res1.start 55 #[.bool false, .string ⟨#[]⟩, .int .i64 0, .int .i64 0, .bool false] w).next hb3); (have l3 := R3.lt); (have c30 : w3.cell? ⟨w.heap.size, 0, none⟩ = some (.bool false) := R3.cell 0); (have c31 : w3.cell? ⟨w.heap.size, 1, none⟩ = some (.string ⟨#[]⟩) := R3.cell 1); (have c32 : w3.cell? ⟨w.heap.size, 2, none⟩ = some (.int .i64 0) := R3.cell 2); (have c33 : w3.cell? ⟨w.heap.size, 3, none⟩ = some (.int .i64 0) := R3.cell 3); (have c34 : w3.cell? ⟨w.heap.size, 4, none⟩ = some (.bool false) := R3.cell 4); (have f3 : ∀ i, w3.frozen? ⟨w.heap.size, i, none⟩ = false := R3.frozen))
  refine bodyPost_ret (v := .agg #[.bool mb, .string D, .int .i64 mp, .int .i64 mi, .bool mn]) (by simp [results, Tryz.results29, go_sem, c30, c31, c32, c33, c34, l3]) rfl ⟨rfl, ?_⟩
  repeat (first | exact R3.below | with_reducible refine below_drewN ?_ _ | (with_reducible refine Below.alloc ?_ (by first | exact R3.below.size | (simp; done) | (have := R3.below.size; simp; omega)) _) | (with_reducible refine Below.setCell ?_ (by first | (simp; done) | (simp; omega)) _))
set_option maxHeartbeats 1000000 in
theorem twoMoments_calls (F : Nat) (hcf : ∀ (args : Array Value) (W : World), (callFunc F args).run Tryz.prog W = .ok (.enter F args) W) (x y : ByteArray) (m n : Mt) (w : World) (hm : MtB m) (hn : MtB n)
    (h1 : ∀ w, Calls Tryz.prog F #[.string x] w fun e w' => e = .returned (.tuple #[m.val, .bool true]) ∧ Below w.heap.size w w')
    (h2 : ∀ w, Calls Tryz.prog F #[.string y] w fun e w' => e = .returned (.tuple #[n.val, .bool true]) ∧ Below w.heap.size w w') :
    Calls Tryz.prog 35 #[.string x, .string y, .func (.func F) #[] #[]] w fun e w' => e = .returned (.tuple #[.int .i64 (agM m n).1, .bool (agM m n).2]) ∧ Below w.heap.size w w' := by
  have hg := fun w => mag_calls m n w hm hn
  obtain ⟨c, hc⟩ : ∃ c, c = (agM m n).1 := ⟨_, rfl⟩
  obtain ⟨k, hk⟩ : ∃ c, c = (agM m n).2 := ⟨_, rfl⟩
  rw [← hc, ← hk] at hg ⊢
  obtain ⟨ms, mp, mz, mn, mq⟩ := m
  obtain ⟨ns, np, nz, nn, nq⟩ := n
  unfold Mt.val at h1 h2 hg
  dsimp only at h1 h2 hg
  obtain ⟨MP, hMP⟩ : ∃ D : ByteArray, D = ⟨mp.toArray⟩ := ⟨_, rfl⟩
  obtain ⟨MQ, hMQ⟩ : ∃ D : ByteArray, D = ⟨mq.toArray⟩ := ⟨_, rfl⟩
  obtain ⟨NP, hNP⟩ : ∃ D : ByteArray, D = ⟨np.toArray⟩ := ⟨_, rfl⟩
  obtain ⟨NQ, hNQ⟩ : ∃ D : ByteArray, D = ⟨nq.toArray⟩ := ⟨_, rfl⟩
  rw [← hMP, ← hMQ] at h1 hg
  rw [← hNP, ← hNQ] at h2 hg
  have H1 := Lib.hid h1
  have H2 := Lib.hid h2
  have HG := Lib.hid hg
  clear h1 h2 hg hc hk hm hn hMP hMQ hNP hNQ
  go_enter Tryz.func35, Tryz.ntmps35
  go_upto_region 2 with ((with_reducible refine (H1.out _).mono ?_); rintro e w1 ⟨rfl, hb1⟩)
  obtain ⟨r1, hb⟩ := box1 w1 (.cells #[.int .i64 ms, .string MP, .bool mz, .int .i64 mn, .string MQ] 76)
  generalize World.alloc w1 _ = w2 at r1 hb ⊢
  have hb2 := hb1.trans (hb.mono hb1.size)
  obtain ⟨g1, hg1⟩ : ∃ g, g = w1.heap.size := ⟨_, rfl⟩
  rw [← hg1] at r1 ⊢
  clear hb1 hb hg1
  go_upto_region 3 with ((with_reducible refine (H2.out _).mono ?_); rintro e w3 ⟨rfl, hb3⟩)
  obtain ⟨r2, hb⟩ := box1 w3 (.cells #[.int .i64 ns, .string NP, .bool nz, .int .i64 nn, .string NQ] 76)
  generalize World.alloc w3 _ = w4 at r2 hb ⊢
  have r1' := (hb3.block _ (lt_of_block r1)).trans r1
  have r1x := (hb.block _ (lt_of_block r1')).trans r1'
  have hb4 := hb2.trans (hb3.mono hb2.size)
  have hb5 := hb4.trans (hb.mono hb4.size)
  obtain ⟨g2, hg2⟩ : ∃ g, g = w3.heap.size := ⟨_, rfl⟩
  rw [← hg2] at r2 ⊢
  clear hb3 hb hg2 r1 r1' hb2 hb4
  have x0 := row_cell r1x 0
  have x1 := row_cell r1x 1
  have x2 := row_cell r1x 2
  have x3 := row_cell r1x 3
  have x4 := row_cell r1x 4
  have y0 := row_cell r2 0
  have y1 := row_cell r2 1
  have y2 := row_cell r2 2
  have y3 := row_cell r2 3
  have y4 := row_cell r2 4
  simp at x0 x1 x2 x3 x4 y0 y1 y2 y3 y4
  clear r1x r2
  go_wp2_with (go_at_call 83; (with_reducible refine (HG.out _).mono ?_); rintro e w5 ⟨rfl, hb6⟩)
  go_ret2
  exact ⟨rfl, hb5.trans (hb6.mono hb5.size)⟩
end Go.Proofs.YtlhcejbimlilaaaGreatDoor
