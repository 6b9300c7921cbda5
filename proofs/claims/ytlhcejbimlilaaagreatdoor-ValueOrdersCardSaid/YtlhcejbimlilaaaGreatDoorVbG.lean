/- VbF VbG, laid as one. -/
import Derived.Test.YtlhcejbimlilaaaGreatDoorVbE
import Derived.Test.YtlhcejbimlilaaaGreatDoorQuP
import Derived.Laws.EntriesVeiled
set_option linter.unusedVariables false
set_option linter.unusedSimpArgs false
/- The program's valued (written by gen_vbf.py). -/
namespace Go.Proofs.YtlhcejbimlilaaaGreatDoor
open Go.RowKit Go.Tk
/-- The family of a datatype. -/
def famT (t : List UInt8) : Int := match kdOf t with | none => 0 | some k => famK k
/-- Is a term a literal that has a value? -/
def vdOk (kd : Int) (t x : List UInt8) : Bool := (kdOf t).isSome && (decide (kd = 3) && decide (chkE t x = 0))
def VdN (w : World) (e : Ending) (w' : World) : Prop := e = .returned (.tuple #[.agg #[.int .i64 0, .nilFunc, .nilFunc], .bool false]) ∧ Below w.heap.size w w'
def VdY (f : Int) (ok : Bool) (w : World) (e : Ending) (w' : World) : Prop := ∃ (F G : Nat) (caps : Array Value), e = .returned (.tuple #[.agg #[.int .i64 f, .func (.func F) #[] caps, .func (.func G) #[] #[]], .bool ok]) ∧ Below w.heap.size w w'
set_option maxHeartbeats 2000000 in
theorem valued_no  (kd : Int) (x t l : ByteArray) (w : World) (h : ∀ w, Calls Tryz.prog 24 #[.string t] w fun e w' => e = .returned (.tuple #[.agg #[.int .i64 0, .nilFunc, .nilFunc], .bool false]) ∧ Below w.heap.size w w')  :
    Calls Tryz.prog 28 #[.agg #[.int .i64 kd, .string x, .string t, .string l]] w (VdN w) := by
  have H := Lib.hid h
  clear h
  go_enter Tryz.func28, Tryz.ntmps28
  go_upto_region 2 with (go_at_call 24; (with_reducible refine (H.out _).mono ?_); rintro e w1 ⟨rfl, hb1⟩)
  obtain ⟨ra, rb, hab⟩ := box2 w (.cells #[.int .i64 kd, .string x, .string t, .string l] 33) (.cells #[.int .i64 0, .nilFunc, .nilFunc] 44)
  have sab : ((w.alloc (.cells #[.int .i64 kd, .string x, .string t, .string l] 33)).alloc (.cells #[.int .i64 0, .nilFunc, .nilFunc] 44)).heap.size = w.heap.size + 2 := by simp
  generalize World.alloc (World.alloc w _) _ = w0 at ra rb hab hb1 sab ⊢
  have ra1 := (hb1.block _ (by omega)).trans ra
  have rb1 := (hb1.block _ (by omega)).trans rb
  have hbz := hab.trans (hb1.mono hab.size)
  obtain ⟨rc, hbc⟩ := box1 w1 (.cells #[.int .i64 0, .nilFunc, .nilFunc] 44)
  have ra2 := (hbc.block _ (lt_of_block ra1)).trans ra1
  have rb2 := (hbc.block _ (lt_of_block rb1)).trans rb1
  have hb2 := hbz.trans (hbc.mono hbz.size)
  have hne : w.heap.size + 1 ≠ w1.heap.size := by have := lt_of_block rb1; omega
  generalize World.alloc w1 _ = w2 at rc hbc ra2 rb2 hb2 ⊢
  obtain ⟨g1, hg1⟩ : ∃ g, g = w1.heap.size := ⟨_, rfl⟩
  rw [← hg1] at rc hne ⊢
  have hd : Below w2.heap.size w2 w2.drew := below_drewN (Below.refl _ _) 1
  have ra3 := (hd.block _ (lt_of_block ra2)).trans ra2
  have rb3 := (hd.block _ (lt_of_block rb2)).trans rb2
  have rc3 := (hd.block _ (lt_of_block rc)).trans rc
  have hb3 := hb2.trans (hd.mono hb2.size)
  clear ra rb hab hb1 sab ra1 rb1 hbz hbc hg1 ra2 rb2 rc hb2 hd
  refine wh_startN (S := fun W => Below w.heap.size w W ∧ W.heap[w.heap.size]? = some (.cells #[.int .i64 kd, .string x, .string t, .string l] 33 (0, 0)) ∧ W.heap[g1]? = some (.cells #[.int .i64 0, .nilFunc, .nilFunc] 44 (0, 0))) 17 rfl (by kernel_rfl) ?_
  generalize w2.drew = wv at ra3 rb3 rc3 hb3 ⊢
  refine wh_takeW 0 12 (.agg #[.int .i64 0, .nilFunc, .nilFunc]) rfl rfl (by kernel_rfl) (by kernel_rfl) (by kernel_rfl) (by kernel_rfl) (fun _ _ _ _ h => h) ⟨hb3, ra3, rc3⟩ (fun w' h => by exact run_load_row 44 _ rfl g1 rfl 44 _ _ _ w' h.2.2 Tryz.underlying44 rfl (by kernel_rfl)) ?_
  simp only [List.setIfInBounds_toArray, List.set_cons_succ, List.set_cons_zero]
  refine wh_takeW 1 13 (.bool false) rfl rfl (by kernel_rfl) (by kernel_rfl) (by kernel_rfl) (by kernel_rfl) (fun _ _ _ _ h => h) ⟨hb3, ra3, rc3⟩ (fun w' h => by simp [go_sem]) ?_
  simp only [List.setIfInBounds_toArray, List.set_cons_succ, List.set_cons_zero]
  refine wh_takeW 2 14 (.bool false) rfl rfl (by kernel_rfl) (by kernel_rfl) (by kernel_rfl) (by kernel_rfl) (fun _ _ _ _ h => h) ⟨hb3, ra3, rc3⟩ (fun w' h => by simp [go_sem]) ?_
  simp only [List.setIfInBounds_toArray, List.set_cons_succ, List.set_cons_zero]
  refine wh_takeU 3 15 rfl rfl (by kernel_rfl) (by kernel_rfl) (by kernel_rfl) (by kernel_rfl) (fun _ _ _ _ h => h) ⟨hb3, ra3, rc3⟩ ?_
  simp only [List.setIfInBounds_toArray, List.set_cons_succ, List.set_cons_zero]
  refine wh_takeU 4 16 rfl rfl (by kernel_rfl) (by kernel_rfl) (by kernel_rfl) (by kernel_rfl) (fun _ _ _ _ h => h) ⟨hb3, ra3, rc3⟩ ?_
  simp only [List.setIfInBounds_toArray, List.set_cons_succ, List.set_cons_zero]
  refine wh_takeU 5 17 rfl rfl (by kernel_rfl) (by kernel_rfl) (by kernel_rfl) (by kernel_rfl) (fun _ _ _ _ h => h) ⟨hb3, ra3, rc3⟩ ?_
  simp only [List.setIfInBounds_toArray, List.set_cons_succ, List.set_cons_zero]
  refine wh_takeW 6 18 (.bool false) rfl rfl (by kernel_rfl) (by kernel_rfl) (by kernel_rfl) (by kernel_rfl) (fun _ _ _ _ h => h) ⟨hb3, ra3, rc3⟩ (fun w' h => by simp [go_sem]) ?_
  simp only [List.setIfInBounds_toArray, List.set_cons_succ, List.set_cons_zero]
  refine wh_takeW 7 19 (.bool false) rfl rfl (by kernel_rfl) (by kernel_rfl) (by kernel_rfl) (by kernel_rfl) (fun _ _ _ _ h => h) ⟨hb3, ra3, rc3⟩ (fun w' h => by simp [go_sem]) ?_
  simp only [List.setIfInBounds_toArray, List.set_cons_succ, List.set_cons_zero]
  refine wh_takeU 8 20 rfl rfl (by kernel_rfl) (by kernel_rfl) (by kernel_rfl) (by kernel_rfl) (fun _ _ _ _ h => h) ⟨hb3, ra3, rc3⟩ ?_
  simp only [List.setIfInBounds_toArray, List.set_cons_succ, List.set_cons_zero]
  refine wh_takeU 9 21 rfl rfl (by kernel_rfl) (by kernel_rfl) (by kernel_rfl) (by kernel_rfl) (fun _ _ _ _ h => h) ⟨hb3, ra3, rc3⟩ ?_
  simp only [List.setIfInBounds_toArray, List.set_cons_succ, List.set_cons_zero]
  refine wh_takeU 10 22 rfl rfl (by kernel_rfl) (by kernel_rfl) (by kernel_rfl) (by kernel_rfl) (fun _ _ _ _ h => h) ⟨hb3, ra3, rc3⟩ ?_
  simp only [List.setIfInBounds_toArray, List.set_cons_succ, List.set_cons_zero]
  refine wh_takeU 11 23 rfl rfl (by kernel_rfl) (by kernel_rfl) (by kernel_rfl) (by kernel_rfl) (fun _ _ _ _ h => h) ⟨hb3, ra3, rc3⟩ ?_
  simp only [List.setIfInBounds_toArray, List.set_cons_succ, List.set_cons_zero]
  refine wh_takeU 12 24 rfl rfl (by kernel_rfl) (by kernel_rfl) (by kernel_rfl) (by kernel_rfl) (fun _ _ _ _ h => h) ⟨hb3, ra3, rc3⟩ ?_
  simp only [List.setIfInBounds_toArray, List.set_cons_succ, List.set_cons_zero]
  refine wh_takeU 13 25 rfl rfl (by kernel_rfl) (by kernel_rfl) (by kernel_rfl) (by kernel_rfl) (fun _ _ _ _ h => h) ⟨hb3, ra3, rc3⟩ ?_
  simp only [List.setIfInBounds_toArray, List.set_cons_succ, List.set_cons_zero]
  refine wh_takeW 14 26 (.bool false) rfl rfl (by kernel_rfl) (by kernel_rfl) (by kernel_rfl) (by kernel_rfl) (fun _ _ _ _ h => h) ⟨hb3, ra3, rc3⟩ (fun w' h => by simp [go_sem]) ?_
  simp only [List.setIfInBounds_toArray, List.set_cons_succ, List.set_cons_zero]
  have f3 : ∀ i, wv.frozen? ⟨w.heap.size + 1, i, none⟩ = false := fun i => frozen_of_row _ _ _ _ _ rb3
  have y0 := row_cell rb3 0
  have y1 := row_cell rb3 1
  have y2 := row_cell rb3 2
  simp at y0 y1 y2
  have s0 := set_row (i := 0) (v := .int .i64 0) rb3 rfl
  have s1 := set_row (i := 1) (v := .nilFunc) s0 rfl
  have s2 := set_row (i := 2) (v := .nilFunc) s1 rfl
  have t0 := fun (g : Nat) (o : Obj) (h : wv.heap[g]? = some o) (hn : w.heap.size + 1 ≠ g) => set_row_ne (i := 2) (v := .nilFunc) (set_row_ne (i := 1) (v := .nilFunc) (set_row_ne (i := 0) (v := .int .i64 0) h hn) hn) hn
  have ta := t0 _ _ ra3 (by omega)
  have tc := t0 _ _ rc3 hne
  have hb5 := ((hb3.setCell (p := ⟨w.heap.size + 1, 0, none⟩) (by simp) (.int .i64 0)).setCell (p := ⟨w.heap.size + 1, 1, none⟩) (by simp) (.nilFunc)).setCell (p := ⟨w.heap.size + 1, 2, none⟩) (by simp) (.nilFunc)
  refine wh_skipD 15 (w' := World.setCell (World.setCell (World.setCell wv ⟨w.heap.size + 1, 0, none⟩ (.int .i64 0)) ⟨w.heap.size + 1, 1, none⟩ (.nilFunc)) ⟨w.heap.size + 1, 2, none⟩ (.nilFunc)) rfl rfl rfl (by kernel_rfl) (by simp [go_sem, f3, y0, y1, y2]) ⟨hb5, ta, tc⟩ ?_
  generalize World.setCell (World.setCell (World.setCell wv _ _) _ _) _ _ = wy at s2 ta tc hb5 ⊢
  refine wh_takeW 16 3 (.bool false) rfl rfl (by kernel_rfl) (by kernel_rfl) (by kernel_rfl) (by kernel_rfl) (fun _ _ _ _ h => h) ⟨hb5, ta, tc⟩ (fun w' h => by simp [go_sem]) ?_
  simp only [List.setIfInBounds_toArray, List.set_cons_succ, List.set_cons_zero]
  refine wpAnyH_done (by kernel_rfl) ?_ 0
  have c0 := row_cell s2 0
  have c1 := row_cell s2 1
  have c2 := row_cell s2 2
  simp at c0 c1 c2
  go_wp2_with fail
  refine bodyPost_ret (v := .tuple #[.agg #[.int .i64 0, .nilFunc, .nilFunc], .bool false]) (by simp [results, Tryz.results28, go_sem, c0, c1, c2]) rfl ⟨rfl, hb5⟩
set_option maxHeartbeats 2000000 in
theorem valued_kd (f : Int) (F G : Nat) (kd : Int) (x t l : ByteArray) (w : World) (h : ∀ w, Calls Tryz.prog 24 #[.string t] w fun e w' => ∃ caps : Array Value, e = .returned (.tuple #[.agg #[.int .i64 f, .func (.func F) #[] caps, .func (.func G) #[] #[]], .bool true]) ∧ Below w.heap.size w w') (hkd : kd ≠ 3) :
    Calls Tryz.prog 28 #[.agg #[.int .i64 kd, .string x, .string t, .string l]] w (VdY f false w) := by
  have ekd : (kd == (3 : Int)) = false := by simpa using hkd
  have H := Lib.hid h
  clear hkd
  clear h
  go_enter Tryz.func28, Tryz.ntmps28
  go_upto_region 2 with (go_at_call 24; (with_reducible refine (H.out _).mono ?_); rintro e w1 ⟨caps, rfl, hb1⟩)
  obtain ⟨ra, rb, hab⟩ := box2 w (.cells #[.int .i64 kd, .string x, .string t, .string l] 33) (.cells #[.int .i64 0, .nilFunc, .nilFunc] 44)
  have sab : ((w.alloc (.cells #[.int .i64 kd, .string x, .string t, .string l] 33)).alloc (.cells #[.int .i64 0, .nilFunc, .nilFunc] 44)).heap.size = w.heap.size + 2 := by simp
  generalize World.alloc (World.alloc w _) _ = w0 at ra rb hab hb1 sab ⊢
  have ra1 := (hb1.block _ (by omega)).trans ra
  have rb1 := (hb1.block _ (by omega)).trans rb
  have hbz := hab.trans (hb1.mono hab.size)
  obtain ⟨rc, hbc⟩ := box1 w1 (.cells #[.int .i64 f, .func (.func F) #[] caps, .func (.func G) #[] #[]] 44)
  have ra2 := (hbc.block _ (lt_of_block ra1)).trans ra1
  have rb2 := (hbc.block _ (lt_of_block rb1)).trans rb1
  have hb2 := hbz.trans (hbc.mono hbz.size)
  have hne : w.heap.size + 1 ≠ w1.heap.size := by have := lt_of_block rb1; omega
  generalize World.alloc w1 _ = w2 at rc hbc ra2 rb2 hb2 ⊢
  obtain ⟨g1, hg1⟩ : ∃ g, g = w1.heap.size := ⟨_, rfl⟩
  rw [← hg1] at rc hne ⊢
  have hd : Below w2.heap.size w2 w2.drew := below_drewN (Below.refl _ _) 1
  have ra3 := (hd.block _ (lt_of_block ra2)).trans ra2
  have rb3 := (hd.block _ (lt_of_block rb2)).trans rb2
  have rc3 := (hd.block _ (lt_of_block rc)).trans rc
  have hb3 := hb2.trans (hd.mono hb2.size)
  clear ra rb hab hb1 sab ra1 rb1 hbz hbc hg1 ra2 rb2 rc hb2 hd
  refine wh_startN (S := fun W => Below w.heap.size w W ∧ W.heap[w.heap.size]? = some (.cells #[.int .i64 kd, .string x, .string t, .string l] 33 (0, 0)) ∧ W.heap[g1]? = some (.cells #[.int .i64 f, .func (.func F) #[] caps, .func (.func G) #[] #[]] 44 (0, 0))) 17 rfl (by kernel_rfl) ?_
  generalize w2.drew = wv at ra3 rb3 rc3 hb3 ⊢
  refine wh_takeW 0 12 (.agg #[.int .i64 f, .func (.func F) #[] caps, .func (.func G) #[] #[]]) rfl rfl (by kernel_rfl) (by kernel_rfl) (by kernel_rfl) (by kernel_rfl) (fun _ _ _ _ h => h) ⟨hb3, ra3, rc3⟩ (fun w' h => by exact run_load_row 44 _ rfl g1 rfl 44 _ _ _ w' h.2.2 Tryz.underlying44 rfl (by kernel_rfl)) ?_
  simp only [List.setIfInBounds_toArray, List.set_cons_succ, List.set_cons_zero]
  refine wh_takeW 1 13 (.bool true) rfl rfl (by kernel_rfl) (by kernel_rfl) (by kernel_rfl) (by kernel_rfl) (fun _ _ _ _ h => h) ⟨hb3, ra3, rc3⟩ (fun w' h => by simp [go_sem]) ?_
  simp only [List.setIfInBounds_toArray, List.set_cons_succ, List.set_cons_zero]
  refine wh_takeW 2 14 (.bool true) rfl rfl (by kernel_rfl) (by kernel_rfl) (by kernel_rfl) (by kernel_rfl) (fun _ _ _ _ h => h) ⟨hb3, ra3, rc3⟩ (fun w' h => by simp [go_sem]) ?_
  simp only [List.setIfInBounds_toArray, List.set_cons_succ, List.set_cons_zero]
  refine wh_takeW 3 15 (.pointer (some ⟨w.heap.size, 0, none⟩)) rfl rfl (by kernel_rfl) (by kernel_rfl) (by kernel_rfl) (by kernel_rfl) (fun _ _ _ _ h => h) ⟨hb3, ra3, rc3⟩ (fun w' h => by simp [go_sem]) ?_
  simp only [List.setIfInBounds_toArray, List.set_cons_succ, List.set_cons_zero]
  refine wh_takeW 4 16 (.int .i64 kd) rfl rfl (by kernel_rfl) (by kernel_rfl) (by kernel_rfl) (by kernel_rfl) (fun _ _ _ _ h => h) ⟨hb3, ra3, rc3⟩ (fun w' h => by have hc := row_cell h.2.1 0; simp at hc; simp [go_sem, hc]) ?_
  simp only [List.setIfInBounds_toArray, List.set_cons_succ, List.set_cons_zero]
  refine wh_takeW 5 17 (.bool false) rfl rfl (by kernel_rfl) (by kernel_rfl) (by kernel_rfl) (by kernel_rfl) (fun _ _ _ _ h => h) ⟨hb3, ra3, rc3⟩ (fun w' h => by simp [go_sem, ekd]) ?_
  simp only [List.setIfInBounds_toArray, List.set_cons_succ, List.set_cons_zero]
  refine wh_takeW 6 18 (.bool false) rfl rfl (by kernel_rfl) (by kernel_rfl) (by kernel_rfl) (by kernel_rfl) (fun _ _ _ _ h => h) ⟨hb3, ra3, rc3⟩ (fun w' h => by simp [go_sem]) ?_
  simp only [List.setIfInBounds_toArray, List.set_cons_succ, List.set_cons_zero]
  refine wh_takeW 7 19 (.bool false) rfl rfl (by kernel_rfl) (by kernel_rfl) (by kernel_rfl) (by kernel_rfl) (fun _ _ _ _ h => h) ⟨hb3, ra3, rc3⟩ (fun w' h => by simp [go_sem]) ?_
  simp only [List.setIfInBounds_toArray, List.set_cons_succ, List.set_cons_zero]
  refine wh_takeU 8 20 rfl rfl (by kernel_rfl) (by kernel_rfl) (by kernel_rfl) (by kernel_rfl) (fun _ _ _ _ h => h) ⟨hb3, ra3, rc3⟩ ?_
  simp only [List.setIfInBounds_toArray, List.set_cons_succ, List.set_cons_zero]
  refine wh_takeU 9 21 rfl rfl (by kernel_rfl) (by kernel_rfl) (by kernel_rfl) (by kernel_rfl) (fun _ _ _ _ h => h) ⟨hb3, ra3, rc3⟩ ?_
  simp only [List.setIfInBounds_toArray, List.set_cons_succ, List.set_cons_zero]
  refine wh_takeU 10 22 rfl rfl (by kernel_rfl) (by kernel_rfl) (by kernel_rfl) (by kernel_rfl) (fun _ _ _ _ h => h) ⟨hb3, ra3, rc3⟩ ?_
  simp only [List.setIfInBounds_toArray, List.set_cons_succ, List.set_cons_zero]
  refine wh_takeU 11 23 rfl rfl (by kernel_rfl) (by kernel_rfl) (by kernel_rfl) (by kernel_rfl) (fun _ _ _ _ h => h) ⟨hb3, ra3, rc3⟩ ?_
  simp only [List.setIfInBounds_toArray, List.set_cons_succ, List.set_cons_zero]
  refine wh_takeU 12 24 rfl rfl (by kernel_rfl) (by kernel_rfl) (by kernel_rfl) (by kernel_rfl) (fun _ _ _ _ h => h) ⟨hb3, ra3, rc3⟩ ?_
  simp only [List.setIfInBounds_toArray, List.set_cons_succ, List.set_cons_zero]
  refine wh_takeU 13 25 rfl rfl (by kernel_rfl) (by kernel_rfl) (by kernel_rfl) (by kernel_rfl) (fun _ _ _ _ h => h) ⟨hb3, ra3, rc3⟩ ?_
  simp only [List.setIfInBounds_toArray, List.set_cons_succ, List.set_cons_zero]
  refine wh_takeW 14 26 (.bool false) rfl rfl (by kernel_rfl) (by kernel_rfl) (by kernel_rfl) (by kernel_rfl) (fun _ _ _ _ h => h) ⟨hb3, ra3, rc3⟩ (fun w' h => by simp [go_sem]) ?_
  simp only [List.setIfInBounds_toArray, List.set_cons_succ, List.set_cons_zero]
  have f3 : ∀ i, wv.frozen? ⟨w.heap.size + 1, i, none⟩ = false := fun i => frozen_of_row _ _ _ _ _ rb3
  have y0 := row_cell rb3 0
  have y1 := row_cell rb3 1
  have y2 := row_cell rb3 2
  simp at y0 y1 y2
  have s0 := set_row (i := 0) (v := .int .i64 f) rb3 rfl
  have s1 := set_row (i := 1) (v := .func (.func F) #[] caps) s0 rfl
  have s2 := set_row (i := 2) (v := .func (.func G) #[] #[]) s1 rfl
  have t0 := fun (g : Nat) (o : Obj) (h : wv.heap[g]? = some o) (hn : w.heap.size + 1 ≠ g) => set_row_ne (i := 2) (v := .func (.func G) #[] #[]) (set_row_ne (i := 1) (v := .func (.func F) #[] caps) (set_row_ne (i := 0) (v := .int .i64 f) h hn) hn) hn
  have ta := t0 _ _ ra3 (by omega)
  have tc := t0 _ _ rc3 hne
  have hb5 := ((hb3.setCell (p := ⟨w.heap.size + 1, 0, none⟩) (by simp) (.int .i64 f)).setCell (p := ⟨w.heap.size + 1, 1, none⟩) (by simp) (.func (.func F) #[] caps)).setCell (p := ⟨w.heap.size + 1, 2, none⟩) (by simp) (.func (.func G) #[] #[])
  refine wh_skipD 15 (w' := World.setCell (World.setCell (World.setCell wv ⟨w.heap.size + 1, 0, none⟩ (.int .i64 f)) ⟨w.heap.size + 1, 1, none⟩ (.func (.func F) #[] caps)) ⟨w.heap.size + 1, 2, none⟩ (.func (.func G) #[] #[])) rfl rfl rfl (by kernel_rfl) (by simp [go_sem, f3, y0, y1, y2]) ⟨hb5, ta, tc⟩ ?_
  generalize World.setCell (World.setCell (World.setCell wv _ _) _ _) _ _ = wy at s2 ta tc hb5 ⊢
  refine wh_takeW 16 3 (.bool false) rfl rfl (by kernel_rfl) (by kernel_rfl) (by kernel_rfl) (by kernel_rfl) (fun _ _ _ _ h => h) ⟨hb5, ta, tc⟩ (fun w' h => by simp [go_sem]) ?_
  simp only [List.setIfInBounds_toArray, List.set_cons_succ, List.set_cons_zero]
  refine wpAnyH_done (by kernel_rfl) ?_ 0
  have c0 := row_cell s2 0
  have c1 := row_cell s2 1
  have c2 := row_cell s2 2
  simp at c0 c1 c2
  go_wp2_with fail
  refine bodyPost_ret (v := .tuple #[.agg #[.int .i64 f, .func (.func F) #[] caps, .func (.func G) #[] #[]], .bool false]) (by simp [results, Tryz.results28, go_sem, c0, c1, c2]) rfl ⟨F, G, caps, rfl, hb5⟩
set_option maxHeartbeats 2000000 in
theorem valued_bad (f : Int) (F G : Nat) (c : Int)  (x t l : ByteArray) (w : World) (h : ∀ w, Calls Tryz.prog 24 #[.string t] w fun e w' => ∃ caps : Array Value, e = .returned (.tuple #[.agg #[.int .i64 f, .func (.func F) #[] caps, .func (.func G) #[] #[]], .bool true]) ∧ Below w.heap.size w w') (hc : ∀ w, Calls Tryz.prog 13 #[.string t, .string x] w fun e w' => e = .returned (.int .i64 c) ∧ Below w.heap.size w w') (hc0 : c ≠ 0) :
    Calls Tryz.prog 28 #[.agg #[.int .i64 3, .string x, .string t, .string l]] w (VdY f false w) := by
  have ec : (c == (0 : Int)) = false := by simpa using hc0
  have H := Lib.hid h
  have HC := Lib.hid hc
  clear hc hc0
  clear h
  go_enter Tryz.func28, Tryz.ntmps28
  go_upto_region 2 with (go_at_call 24; (with_reducible refine (H.out _).mono ?_); rintro e w1 ⟨caps, rfl, hb1⟩)
  obtain ⟨ra, rb, hab⟩ := box2 w (.cells #[.int .i64 3, .string x, .string t, .string l] 33) (.cells #[.int .i64 0, .nilFunc, .nilFunc] 44)
  have sab : ((w.alloc (.cells #[.int .i64 3, .string x, .string t, .string l] 33)).alloc (.cells #[.int .i64 0, .nilFunc, .nilFunc] 44)).heap.size = w.heap.size + 2 := by simp
  generalize World.alloc (World.alloc w _) _ = w0 at ra rb hab hb1 sab ⊢
  have ra1 := (hb1.block _ (by omega)).trans ra
  have rb1 := (hb1.block _ (by omega)).trans rb
  have hbz := hab.trans (hb1.mono hab.size)
  obtain ⟨rc, hbc⟩ := box1 w1 (.cells #[.int .i64 f, .func (.func F) #[] caps, .func (.func G) #[] #[]] 44)
  have ra2 := (hbc.block _ (lt_of_block ra1)).trans ra1
  have rb2 := (hbc.block _ (lt_of_block rb1)).trans rb1
  have hb2 := hbz.trans (hbc.mono hbz.size)
  have hne : w.heap.size + 1 ≠ w1.heap.size := by have := lt_of_block rb1; omega
  generalize World.alloc w1 _ = w2 at rc hbc ra2 rb2 hb2 ⊢
  obtain ⟨g1, hg1⟩ : ∃ g, g = w1.heap.size := ⟨_, rfl⟩
  rw [← hg1] at rc hne ⊢
  have hd : Below w2.heap.size w2 w2.drew := below_drewN (Below.refl _ _) 1
  have ra3 := (hd.block _ (lt_of_block ra2)).trans ra2
  have rb3 := (hd.block _ (lt_of_block rb2)).trans rb2
  have rc3 := (hd.block _ (lt_of_block rc)).trans rc
  have hb3 := hb2.trans (hd.mono hb2.size)
  clear ra rb hab hb1 sab ra1 rb1 hbz hbc hg1 ra2 rb2 rc hb2 hd
  refine wh_startN (S := fun W => Below w.heap.size w W ∧ W.heap[w.heap.size]? = some (.cells #[.int .i64 3, .string x, .string t, .string l] 33 (0, 0)) ∧ W.heap[g1]? = some (.cells #[.int .i64 f, .func (.func F) #[] caps, .func (.func G) #[] #[]] 44 (0, 0))) 17 rfl (by kernel_rfl) ?_
  generalize w2.drew = wv at ra3 rb3 rc3 hb3 ⊢
  refine wh_takeW 0 12 (.agg #[.int .i64 f, .func (.func F) #[] caps, .func (.func G) #[] #[]]) rfl rfl (by kernel_rfl) (by kernel_rfl) (by kernel_rfl) (by kernel_rfl) (fun _ _ _ _ h => h) ⟨hb3, ra3, rc3⟩ (fun w' h => by exact run_load_row 44 _ rfl g1 rfl 44 _ _ _ w' h.2.2 Tryz.underlying44 rfl (by kernel_rfl)) ?_
  simp only [List.setIfInBounds_toArray, List.set_cons_succ, List.set_cons_zero]
  refine wh_takeW 1 13 (.bool true) rfl rfl (by kernel_rfl) (by kernel_rfl) (by kernel_rfl) (by kernel_rfl) (fun _ _ _ _ h => h) ⟨hb3, ra3, rc3⟩ (fun w' h => by simp [go_sem]) ?_
  simp only [List.setIfInBounds_toArray, List.set_cons_succ, List.set_cons_zero]
  refine wh_takeW 2 14 (.bool true) rfl rfl (by kernel_rfl) (by kernel_rfl) (by kernel_rfl) (by kernel_rfl) (fun _ _ _ _ h => h) ⟨hb3, ra3, rc3⟩ (fun w' h => by simp [go_sem]) ?_
  simp only [List.setIfInBounds_toArray, List.set_cons_succ, List.set_cons_zero]
  refine wh_takeW 3 15 (.pointer (some ⟨w.heap.size, 0, none⟩)) rfl rfl (by kernel_rfl) (by kernel_rfl) (by kernel_rfl) (by kernel_rfl) (fun _ _ _ _ h => h) ⟨hb3, ra3, rc3⟩ (fun w' h => by simp [go_sem]) ?_
  simp only [List.setIfInBounds_toArray, List.set_cons_succ, List.set_cons_zero]
  refine wh_takeW 4 16 (.int .i64 3) rfl rfl (by kernel_rfl) (by kernel_rfl) (by kernel_rfl) (by kernel_rfl) (fun _ _ _ _ h => h) ⟨hb3, ra3, rc3⟩ (fun w' h => by have hc := row_cell h.2.1 0; simp at hc; simp [go_sem, hc]) ?_
  simp only [List.setIfInBounds_toArray, List.set_cons_succ, List.set_cons_zero]
  refine wh_takeW 5 17 (.bool true) rfl rfl (by kernel_rfl) (by kernel_rfl) (by kernel_rfl) (by kernel_rfl) (fun _ _ _ _ h => h) ⟨hb3, ra3, rc3⟩ (fun w' h => by simp [go_sem]) ?_
  simp only [List.setIfInBounds_toArray, List.set_cons_succ, List.set_cons_zero]
  refine wh_takeW 6 18 (.bool true) rfl rfl (by kernel_rfl) (by kernel_rfl) (by kernel_rfl) (by kernel_rfl) (fun _ _ _ _ h => h) ⟨hb3, ra3, rc3⟩ (fun w' h => by simp [go_sem]) ?_
  simp only [List.setIfInBounds_toArray, List.set_cons_succ, List.set_cons_zero]
  refine wh_takeW 7 19 (.bool true) rfl rfl (by kernel_rfl) (by kernel_rfl) (by kernel_rfl) (by kernel_rfl) (fun _ _ _ _ h => h) ⟨hb3, ra3, rc3⟩ (fun w' h => by simp [go_sem]) ?_
  simp only [List.setIfInBounds_toArray, List.set_cons_succ, List.set_cons_zero]
  refine wh_takeW 8 20 (.pointer (some ⟨w.heap.size, 2, none⟩)) rfl rfl (by kernel_rfl) (by kernel_rfl) (by kernel_rfl) (by kernel_rfl) (fun _ _ _ _ h => h) ⟨hb3, ra3, rc3⟩ (fun w' h => by simp [go_sem]) ?_
  simp only [List.setIfInBounds_toArray, List.set_cons_succ, List.set_cons_zero]
  refine wh_takeW 9 21 (.string t) rfl rfl (by kernel_rfl) (by kernel_rfl) (by kernel_rfl) (by kernel_rfl) (fun _ _ _ _ h => h) ⟨hb3, ra3, rc3⟩ (fun w' h => by have hc := row_cell h.2.1 2; simp at hc; simp [go_sem, hc]) ?_
  simp only [List.setIfInBounds_toArray, List.set_cons_succ, List.set_cons_zero]
  refine wh_takeW 10 22 (.pointer (some ⟨w.heap.size, 1, none⟩)) rfl rfl (by kernel_rfl) (by kernel_rfl) (by kernel_rfl) (by kernel_rfl) (fun _ _ _ _ h => h) ⟨hb3, ra3, rc3⟩ (fun w' h => by simp [go_sem]) ?_
  simp only [List.setIfInBounds_toArray, List.set_cons_succ, List.set_cons_zero]
  refine wh_takeW 11 23 (.string x) rfl rfl (by kernel_rfl) (by kernel_rfl) (by kernel_rfl) (by kernel_rfl) (fun _ _ _ _ h => h) ⟨hb3, ra3, rc3⟩ (fun w' h => by have hc := row_cell h.2.1 1; simp at hc; simp [go_sem, hc]) ?_
  simp only [List.setIfInBounds_toArray, List.set_cons_succ, List.set_cons_zero]
  refine wh_callW 12 24 (.int .i64 c) (fun W => Below wv.heap.size wv W) rfl rfl (by kernel_rfl) (by kernel_rfl) (by simp [go_sem]) (HC.out _) (fun W h => ⟨hb3.trans (h.mono hb3.size), (h.block _ (lt_of_block ra3)).trans ra3, (h.block _ (lt_of_block rc3)).trans rc3⟩) ?_
  intro wx hx
  simp only [List.setIfInBounds_toArray, List.set_cons_succ, List.set_cons_zero]
  have ra4 := (hx.block _ (lt_of_block ra3)).trans ra3
  have rb4 := (hx.block _ (lt_of_block rb3)).trans rb3
  have rc4 := (hx.block _ (lt_of_block rc3)).trans rc3
  have hb4 := hb3.trans (hx.mono hb3.size)
  clear ra3 rb3 rc3 hb3 hx
  refine wh_takeW 13 25 (.bool false) rfl rfl (by kernel_rfl) (by kernel_rfl) (by kernel_rfl) (by kernel_rfl) (fun _ _ _ _ h => h) ⟨hb4, ra4, rc4⟩ (fun w' h => by simp [go_sem, ec]) ?_
  simp only [List.setIfInBounds_toArray, List.set_cons_succ, List.set_cons_zero]
  refine wh_takeW 14 26 (.bool false) rfl rfl (by kernel_rfl) (by kernel_rfl) (by kernel_rfl) (by kernel_rfl) (fun _ _ _ _ h => h) ⟨hb4, ra4, rc4⟩ (fun w' h => by simp [go_sem]) ?_
  simp only [List.setIfInBounds_toArray, List.set_cons_succ, List.set_cons_zero]
  have f3 : ∀ i, wx.frozen? ⟨w.heap.size + 1, i, none⟩ = false := fun i => frozen_of_row _ _ _ _ _ rb4
  have y0 := row_cell rb4 0
  have y1 := row_cell rb4 1
  have y2 := row_cell rb4 2
  simp at y0 y1 y2
  have s0 := set_row (i := 0) (v := .int .i64 f) rb4 rfl
  have s1 := set_row (i := 1) (v := .func (.func F) #[] caps) s0 rfl
  have s2 := set_row (i := 2) (v := .func (.func G) #[] #[]) s1 rfl
  have t0 := fun (g : Nat) (o : Obj) (h : wx.heap[g]? = some o) (hn : w.heap.size + 1 ≠ g) => set_row_ne (i := 2) (v := .func (.func G) #[] #[]) (set_row_ne (i := 1) (v := .func (.func F) #[] caps) (set_row_ne (i := 0) (v := .int .i64 f) h hn) hn) hn
  have ta := t0 _ _ ra4 (by omega)
  have tc := t0 _ _ rc4 hne
  have hb5 := ((hb4.setCell (p := ⟨w.heap.size + 1, 0, none⟩) (by simp) (.int .i64 f)).setCell (p := ⟨w.heap.size + 1, 1, none⟩) (by simp) (.func (.func F) #[] caps)).setCell (p := ⟨w.heap.size + 1, 2, none⟩) (by simp) (.func (.func G) #[] #[])
  refine wh_skipD 15 (w' := World.setCell (World.setCell (World.setCell wx ⟨w.heap.size + 1, 0, none⟩ (.int .i64 f)) ⟨w.heap.size + 1, 1, none⟩ (.func (.func F) #[] caps)) ⟨w.heap.size + 1, 2, none⟩ (.func (.func G) #[] #[])) rfl rfl rfl (by kernel_rfl) (by simp [go_sem, f3, y0, y1, y2]) ⟨hb5, ta, tc⟩ ?_
  generalize World.setCell (World.setCell (World.setCell wx _ _) _ _) _ _ = wy at s2 ta tc hb5 ⊢
  refine wh_takeW 16 3 (.bool false) rfl rfl (by kernel_rfl) (by kernel_rfl) (by kernel_rfl) (by kernel_rfl) (fun _ _ _ _ h => h) ⟨hb5, ta, tc⟩ (fun w' h => by simp [go_sem]) ?_
  simp only [List.setIfInBounds_toArray, List.set_cons_succ, List.set_cons_zero]
  refine wpAnyH_done (by kernel_rfl) ?_ 0
  have c0 := row_cell s2 0
  have c1 := row_cell s2 1
  have c2 := row_cell s2 2
  simp at c0 c1 c2
  go_wp2_with fail
  refine bodyPost_ret (v := .tuple #[.agg #[.int .i64 f, .func (.func F) #[] caps, .func (.func G) #[] #[]], .bool false]) (by simp [results, Tryz.results28, go_sem, c0, c1, c2]) rfl ⟨F, G, caps, rfl, hb5⟩
set_option maxHeartbeats 2000000 in
theorem valued_ok (f : Int) (F G : Nat) (c : Int)  (x t l : ByteArray) (w : World) (h : ∀ w, Calls Tryz.prog 24 #[.string t] w fun e w' => ∃ caps : Array Value, e = .returned (.tuple #[.agg #[.int .i64 f, .func (.func F) #[] caps, .func (.func G) #[] #[]], .bool true]) ∧ Below w.heap.size w w') (hc : ∀ w, Calls Tryz.prog 13 #[.string t, .string x] w fun e w' => e = .returned (.int .i64 c) ∧ Below w.heap.size w w') (hc0 : c = 0) :
    Calls Tryz.prog 28 #[.agg #[.int .i64 3, .string x, .string t, .string l]] w (VdY f true w) := by
  have ec : (c == (0 : Int)) = true := by simp [hc0]
  have H := Lib.hid h
  have HC := Lib.hid hc
  clear hc hc0
  clear h
  go_enter Tryz.func28, Tryz.ntmps28
  go_upto_region 2 with (go_at_call 24; (with_reducible refine (H.out _).mono ?_); rintro e w1 ⟨caps, rfl, hb1⟩)
  obtain ⟨ra, rb, hab⟩ := box2 w (.cells #[.int .i64 3, .string x, .string t, .string l] 33) (.cells #[.int .i64 0, .nilFunc, .nilFunc] 44)
  have sab : ((w.alloc (.cells #[.int .i64 3, .string x, .string t, .string l] 33)).alloc (.cells #[.int .i64 0, .nilFunc, .nilFunc] 44)).heap.size = w.heap.size + 2 := by simp
  generalize World.alloc (World.alloc w _) _ = w0 at ra rb hab hb1 sab ⊢
  have ra1 := (hb1.block _ (by omega)).trans ra
  have rb1 := (hb1.block _ (by omega)).trans rb
  have hbz := hab.trans (hb1.mono hab.size)
  obtain ⟨rc, hbc⟩ := box1 w1 (.cells #[.int .i64 f, .func (.func F) #[] caps, .func (.func G) #[] #[]] 44)
  have ra2 := (hbc.block _ (lt_of_block ra1)).trans ra1
  have rb2 := (hbc.block _ (lt_of_block rb1)).trans rb1
  have hb2 := hbz.trans (hbc.mono hbz.size)
  have hne : w.heap.size + 1 ≠ w1.heap.size := by have := lt_of_block rb1; omega
  generalize World.alloc w1 _ = w2 at rc hbc ra2 rb2 hb2 ⊢
  obtain ⟨g1, hg1⟩ : ∃ g, g = w1.heap.size := ⟨_, rfl⟩
  rw [← hg1] at rc hne ⊢
  have hd : Below w2.heap.size w2 w2.drew := below_drewN (Below.refl _ _) 1
  have ra3 := (hd.block _ (lt_of_block ra2)).trans ra2
  have rb3 := (hd.block _ (lt_of_block rb2)).trans rb2
  have rc3 := (hd.block _ (lt_of_block rc)).trans rc
  have hb3 := hb2.trans (hd.mono hb2.size)
  clear ra rb hab hb1 sab ra1 rb1 hbz hbc hg1 ra2 rb2 rc hb2 hd
  refine wh_startN (S := fun W => Below w.heap.size w W ∧ W.heap[w.heap.size]? = some (.cells #[.int .i64 3, .string x, .string t, .string l] 33 (0, 0)) ∧ W.heap[g1]? = some (.cells #[.int .i64 f, .func (.func F) #[] caps, .func (.func G) #[] #[]] 44 (0, 0))) 17 rfl (by kernel_rfl) ?_
  generalize w2.drew = wv at ra3 rb3 rc3 hb3 ⊢
  refine wh_takeW 0 12 (.agg #[.int .i64 f, .func (.func F) #[] caps, .func (.func G) #[] #[]]) rfl rfl (by kernel_rfl) (by kernel_rfl) (by kernel_rfl) (by kernel_rfl) (fun _ _ _ _ h => h) ⟨hb3, ra3, rc3⟩ (fun w' h => by exact run_load_row 44 _ rfl g1 rfl 44 _ _ _ w' h.2.2 Tryz.underlying44 rfl (by kernel_rfl)) ?_
  simp only [List.setIfInBounds_toArray, List.set_cons_succ, List.set_cons_zero]
  refine wh_takeW 1 13 (.bool true) rfl rfl (by kernel_rfl) (by kernel_rfl) (by kernel_rfl) (by kernel_rfl) (fun _ _ _ _ h => h) ⟨hb3, ra3, rc3⟩ (fun w' h => by simp [go_sem]) ?_
  simp only [List.setIfInBounds_toArray, List.set_cons_succ, List.set_cons_zero]
  refine wh_takeW 2 14 (.bool true) rfl rfl (by kernel_rfl) (by kernel_rfl) (by kernel_rfl) (by kernel_rfl) (fun _ _ _ _ h => h) ⟨hb3, ra3, rc3⟩ (fun w' h => by simp [go_sem]) ?_
  simp only [List.setIfInBounds_toArray, List.set_cons_succ, List.set_cons_zero]
  refine wh_takeW 3 15 (.pointer (some ⟨w.heap.size, 0, none⟩)) rfl rfl (by kernel_rfl) (by kernel_rfl) (by kernel_rfl) (by kernel_rfl) (fun _ _ _ _ h => h) ⟨hb3, ra3, rc3⟩ (fun w' h => by simp [go_sem]) ?_
  simp only [List.setIfInBounds_toArray, List.set_cons_succ, List.set_cons_zero]
  refine wh_takeW 4 16 (.int .i64 3) rfl rfl (by kernel_rfl) (by kernel_rfl) (by kernel_rfl) (by kernel_rfl) (fun _ _ _ _ h => h) ⟨hb3, ra3, rc3⟩ (fun w' h => by have hc := row_cell h.2.1 0; simp at hc; simp [go_sem, hc]) ?_
  simp only [List.setIfInBounds_toArray, List.set_cons_succ, List.set_cons_zero]
  refine wh_takeW 5 17 (.bool true) rfl rfl (by kernel_rfl) (by kernel_rfl) (by kernel_rfl) (by kernel_rfl) (fun _ _ _ _ h => h) ⟨hb3, ra3, rc3⟩ (fun w' h => by simp [go_sem]) ?_
  simp only [List.setIfInBounds_toArray, List.set_cons_succ, List.set_cons_zero]
  refine wh_takeW 6 18 (.bool true) rfl rfl (by kernel_rfl) (by kernel_rfl) (by kernel_rfl) (by kernel_rfl) (fun _ _ _ _ h => h) ⟨hb3, ra3, rc3⟩ (fun w' h => by simp [go_sem]) ?_
  simp only [List.setIfInBounds_toArray, List.set_cons_succ, List.set_cons_zero]
  refine wh_takeW 7 19 (.bool true) rfl rfl (by kernel_rfl) (by kernel_rfl) (by kernel_rfl) (by kernel_rfl) (fun _ _ _ _ h => h) ⟨hb3, ra3, rc3⟩ (fun w' h => by simp [go_sem]) ?_
  simp only [List.setIfInBounds_toArray, List.set_cons_succ, List.set_cons_zero]
  refine wh_takeW 8 20 (.pointer (some ⟨w.heap.size, 2, none⟩)) rfl rfl (by kernel_rfl) (by kernel_rfl) (by kernel_rfl) (by kernel_rfl) (fun _ _ _ _ h => h) ⟨hb3, ra3, rc3⟩ (fun w' h => by simp [go_sem]) ?_
  simp only [List.setIfInBounds_toArray, List.set_cons_succ, List.set_cons_zero]
  refine wh_takeW 9 21 (.string t) rfl rfl (by kernel_rfl) (by kernel_rfl) (by kernel_rfl) (by kernel_rfl) (fun _ _ _ _ h => h) ⟨hb3, ra3, rc3⟩ (fun w' h => by have hc := row_cell h.2.1 2; simp at hc; simp [go_sem, hc]) ?_
  simp only [List.setIfInBounds_toArray, List.set_cons_succ, List.set_cons_zero]
  refine wh_takeW 10 22 (.pointer (some ⟨w.heap.size, 1, none⟩)) rfl rfl (by kernel_rfl) (by kernel_rfl) (by kernel_rfl) (by kernel_rfl) (fun _ _ _ _ h => h) ⟨hb3, ra3, rc3⟩ (fun w' h => by simp [go_sem]) ?_
  simp only [List.setIfInBounds_toArray, List.set_cons_succ, List.set_cons_zero]
  refine wh_takeW 11 23 (.string x) rfl rfl (by kernel_rfl) (by kernel_rfl) (by kernel_rfl) (by kernel_rfl) (fun _ _ _ _ h => h) ⟨hb3, ra3, rc3⟩ (fun w' h => by have hc := row_cell h.2.1 1; simp at hc; simp [go_sem, hc]) ?_
  simp only [List.setIfInBounds_toArray, List.set_cons_succ, List.set_cons_zero]
  refine wh_callW 12 24 (.int .i64 c) (fun W => Below wv.heap.size wv W) rfl rfl (by kernel_rfl) (by kernel_rfl) (by simp [go_sem]) (HC.out _) (fun W h => ⟨hb3.trans (h.mono hb3.size), (h.block _ (lt_of_block ra3)).trans ra3, (h.block _ (lt_of_block rc3)).trans rc3⟩) ?_
  intro wx hx
  simp only [List.setIfInBounds_toArray, List.set_cons_succ, List.set_cons_zero]
  have ra4 := (hx.block _ (lt_of_block ra3)).trans ra3
  have rb4 := (hx.block _ (lt_of_block rb3)).trans rb3
  have rc4 := (hx.block _ (lt_of_block rc3)).trans rc3
  have hb4 := hb3.trans (hx.mono hb3.size)
  clear ra3 rb3 rc3 hb3 hx
  refine wh_takeW 13 25 (.bool true) rfl rfl (by kernel_rfl) (by kernel_rfl) (by kernel_rfl) (by kernel_rfl) (fun _ _ _ _ h => h) ⟨hb4, ra4, rc4⟩ (fun w' h => by simp [go_sem, ec]) ?_
  simp only [List.setIfInBounds_toArray, List.set_cons_succ, List.set_cons_zero]
  refine wh_takeW 14 26 (.bool true) rfl rfl (by kernel_rfl) (by kernel_rfl) (by kernel_rfl) (by kernel_rfl) (fun _ _ _ _ h => h) ⟨hb4, ra4, rc4⟩ (fun w' h => by simp [go_sem]) ?_
  simp only [List.setIfInBounds_toArray, List.set_cons_succ, List.set_cons_zero]
  have f3 : ∀ i, wx.frozen? ⟨w.heap.size + 1, i, none⟩ = false := fun i => frozen_of_row _ _ _ _ _ rb4
  have y0 := row_cell rb4 0
  have y1 := row_cell rb4 1
  have y2 := row_cell rb4 2
  simp at y0 y1 y2
  have s0 := set_row (i := 0) (v := .int .i64 f) rb4 rfl
  have s1 := set_row (i := 1) (v := .func (.func F) #[] caps) s0 rfl
  have s2 := set_row (i := 2) (v := .func (.func G) #[] #[]) s1 rfl
  have t0 := fun (g : Nat) (o : Obj) (h : wx.heap[g]? = some o) (hn : w.heap.size + 1 ≠ g) => set_row_ne (i := 2) (v := .func (.func G) #[] #[]) (set_row_ne (i := 1) (v := .func (.func F) #[] caps) (set_row_ne (i := 0) (v := .int .i64 f) h hn) hn) hn
  have ta := t0 _ _ ra4 (by omega)
  have tc := t0 _ _ rc4 hne
  have hb5 := ((hb4.setCell (p := ⟨w.heap.size + 1, 0, none⟩) (by simp) (.int .i64 f)).setCell (p := ⟨w.heap.size + 1, 1, none⟩) (by simp) (.func (.func F) #[] caps)).setCell (p := ⟨w.heap.size + 1, 2, none⟩) (by simp) (.func (.func G) #[] #[])
  refine wh_skipD 15 (w' := World.setCell (World.setCell (World.setCell wx ⟨w.heap.size + 1, 0, none⟩ (.int .i64 f)) ⟨w.heap.size + 1, 1, none⟩ (.func (.func F) #[] caps)) ⟨w.heap.size + 1, 2, none⟩ (.func (.func G) #[] #[])) rfl rfl rfl (by kernel_rfl) (by simp [go_sem, f3, y0, y1, y2]) ⟨hb5, ta, tc⟩ ?_
  generalize World.setCell (World.setCell (World.setCell wx _ _) _ _) _ _ = wy at s2 ta tc hb5 ⊢
  refine wh_takeW 16 3 (.bool true) rfl rfl (by kernel_rfl) (by kernel_rfl) (by kernel_rfl) (by kernel_rfl) (fun _ _ _ _ h => h) ⟨hb5, ta, tc⟩ (fun w' h => by simp [go_sem]) ?_
  simp only [List.setIfInBounds_toArray, List.set_cons_succ, List.set_cons_zero]
  refine wpAnyH_done (by kernel_rfl) ?_ 0
  have c0 := row_cell s2 0
  have c1 := row_cell s2 1
  have c2 := row_cell s2 2
  simp at c0 c1 c2
  go_wp2_with fail
  refine bodyPost_ret (v := .tuple #[.agg #[.int .i64 f, .func (.func F) #[] caps, .func (.func G) #[] #[]], .bool true]) (by simp [results, Tryz.results28, go_sem, c0, c1, c2]) rfl ⟨F, G, caps, rfl, hb5⟩
end Go.Proofs.YtlhcejbimlilaaaGreatDoor
/- The program's numeral, twoMoments. -/
namespace Go.Proofs.YtlhcejbimlilaaaGreatDoor
open Go.RowKit Go.Tk
theorem chkE_i (t x : List UInt8) : chkE t x = 0 ∨ chkE t x ≠ 0 := by omega
theorem valued_none (kd : Int) (x t l : ByteArray) (w : World) (hk : kdOf t.data.toList = none) :
    Calls Tryz.prog 28 #[.agg #[.int .i64 kd, .string x, .string t, .string l]] w (VdN w) := valued_no kd x t l w (fun w => find_none' t w hk)
theorem valued_some (kd : Int) (x t l : ByteArray) (w : World) (hx : x.size ≤ 9223372036854775807) (k : Kd) (hk : kdOf t.data.toList = some k) :
    Calls Tryz.prog 28 #[.agg #[.int .i64 kd, .string x, .string t, .string l]] w (VdY (famK k) (vdOk kd t.data.toList x.data.toList) w) := by
  have e2 : vdOk kd t.data.toList x.data.toList = (decide (kd = 3) && decide (chkE t.data.toList x.data.toList = 0)) := by unfold vdOk; rw [hk]; rfl
  rw [e2]
  have hf : ∀ w, Calls Tryz.prog 24 #[.string t] w fun e w' => ∃ caps : Array Value, e = .returned (.tuple #[.agg #[.int .i64 (famK k), .func (.func (isF k)) #[] caps, .func (.func (ownF k)) #[] #[]], .bool true]) ∧ Below w.heap.size w w' := fun w => (find_some t ⟨#[]⟩ k w (by decide) hk).mono fun e w' ⟨caps, a, b, _⟩ => ⟨caps, a, b⟩
  by_cases h3 : kd = 3
  · subst h3
    rcases chkE_i t.data.toList x.data.toList with hc | hc
    · rw [hc]
      exact valued_ok _ _ _ 0 x t l w hf (fun w => by have := vcheck_calls t x w hx; rw [hc] at this; exact this) rfl
    · rw [decide_eq_false hc]
      exact valued_bad _ _ _ _ x t l w hf (fun w => vcheck_calls t x w hx) hc
  · rw [decide_eq_false h3]
    exact valued_kd _ _ _ kd x t l w hf h3
/-- The number of a text. -/
def nuN (s : List UInt8) : Nm := (dblP s).getD nmZ
set_option maxHeartbeats 1000000 in
theorem numeral_calls (s : ByteArray) (w : World) (hs : s.size ≤ 4000000000) :
    Calls Tryz.prog 29 #[.string s] w fun e w' => e = .returned (nuN s.data.toList).val ∧ Below w.heap.size w w' := by
  have h := fun w => double_calls s w hs
  have h : ∀ w, Calls Tryz.prog 54 #[.string s] w fun e w' => e = .returned (.tuple #[(nuN s.data.toList).val, .bool (dblP s.data.toList).isSome]) ∧ Below w.heap.size w w' := h
  obtain ⟨⟨mb, md, mp, mi, mn⟩, hM⟩ : ∃ M, M = nuN s.data.toList := ⟨_, rfl⟩
  obtain ⟨ok, hok⟩ : ∃ b, b = (dblP s.data.toList).isSome := ⟨_, rfl⟩
  rw [← hM, ← hok] at h
  rw [← hM]
  unfold Nm.val at h ⊢
  dsimp only at h ⊢
  obtain ⟨D, hD⟩ : ∃ D : ByteArray, D = ⟨md.toArray⟩ := ⟨_, rfl⟩
  rw [← hD] at h ⊢
  have H := Lib.hid h
  clear h hM hok hD
  go_enter Tryz.func29, Tryz.ntmps29
  go_wp2_with (go_at_call 54; (with_reducible refine (H.out _).mono ?_); rintro e w3 ⟨rfl, hb3⟩; (have R3 := (Res1.start 55 #[.bool false, .string ⟨#[]⟩, .int .i64 0, .int .i64 0, .bool false] w).next hb3); (have l3 := R3.lt); (have c30 : w3.cell? ⟨w.heap.size, 0, none⟩ = some (.bool false) := R3.cell 0); (have c31 : w3.cell? ⟨w.heap.size, 1, none⟩ = some (.string ⟨#[]⟩) := R3.cell 1); (have c32 : w3.cell? ⟨w.heap.size, 2, none⟩ = some (.int .i64 0) := R3.cell 2); (have c33 : w3.cell? ⟨w.heap.size, 3, none⟩ = some (.int .i64 0) := R3.cell 3); (have c34 : w3.cell? ⟨w.heap.size, 4, none⟩ = some (.bool false) := R3.cell 4); (have f3 : ∀ i, w3.frozen? ⟨w.heap.size, i, none⟩ = false := R3.frozen))
  refine bodyPost_ret (v := .agg #[.bool mb, .string D, .int .i64 mp, .int .i64 mi, .bool mn]) (by simp [results, Tryz.results29, go_sem, c30, c31, c32, c33, c34, l3]) rfl ⟨rfl, ?_⟩
  repeat (first | exact R3.below | with_reducible refine below_drewN ?_ _ | (with_reducible refine Below.alloc ?_ (by first | exact R3.below.size | (simp; done) | (have := R3.below.size; simp; omega)) _) | (with_reducible refine Below.setCell ?_ (by first | (simp; done) | (simp; omega)) _))
set_option maxHeartbeats 1000000 in
theorem twoMoments_calls (F : Nat) (hcf : ∀ (args : Array Value) (W : World), (callFunc F args).run Tryz.prog W = .ok (.enter F args) W) (x y : ByteArray) (m n : Mt) (w : World) (hm : MtB m) (hn : MtB n)
    (h1 : ∀ w, Calls Tryz.prog F #[.string x] w fun e w' => e = .returned (.tuple #[m.val, .bool true]) ∧ Below w.heap.size w w')
    (h2 : ∀ w, Calls Tryz.prog F #[.string y] w fun e w' => e = .returned (.tuple #[n.val, .bool true]) ∧ Below w.heap.size w w') :
    Calls Tryz.prog 35 #[.string x, .string y, .func (.func F) #[] #[]] w fun e w' => e = .returned (.tuple #[.int .i64 (agM m n).1, .bool (agM m n).2]) ∧ Below w.heap.size w w' := by
  have hg := fun w => mag_calls m n w hm hn
  obtain ⟨c, hc⟩ : ∃ c, c = (agM m n).1 := ⟨_, rfl⟩
  obtain ⟨k, hk⟩ : ∃ c, c = (agM m n).2 := ⟨_, rfl⟩
  rw [← hc, ← hk] at hg ⊢
  obtain ⟨ms, mp, mz, mn, mq⟩ := m
  obtain ⟨ns, np, nz, nn, nq⟩ := n
  unfold Mt.val at h1 h2 hg
  dsimp only at h1 h2 hg
  obtain ⟨MP, hMP⟩ : ∃ D : ByteArray, D = ⟨mp.toArray⟩ := ⟨_, rfl⟩
  obtain ⟨MQ, hMQ⟩ : ∃ D : ByteArray, D = ⟨mq.toArray⟩ := ⟨_, rfl⟩
  obtain ⟨NP, hNP⟩ : ∃ D : ByteArray, D = ⟨np.toArray⟩ := ⟨_, rfl⟩
  obtain ⟨NQ, hNQ⟩ : ∃ D : ByteArray, D = ⟨nq.toArray⟩ := ⟨_, rfl⟩
  rw [← hMP, ← hMQ] at h1 hg
  rw [← hNP, ← hNQ] at h2 hg
  have H1 := Lib.hid h1
  have H2 := Lib.hid h2
  have HG := Lib.hid hg
  clear h1 h2 hg hc hk hm hn hMP hMQ hNP hNQ
  go_enter Tryz.func35, Tryz.ntmps35
  go_upto_region 2 with ((with_reducible refine (H1.out _).mono ?_); rintro e w1 ⟨rfl, hb1⟩)
  obtain ⟨r1, hb⟩ := box1 w1 (.cells #[.int .i64 ms, .string MP, .bool mz, .int .i64 mn, .string MQ] 76)
  generalize World.alloc w1 _ = w2 at r1 hb ⊢
  have hb2 := hb1.trans (hb.mono hb1.size)
  obtain ⟨g1, hg1⟩ : ∃ g, g = w1.heap.size := ⟨_, rfl⟩
  rw [← hg1] at r1 ⊢
  clear hb1 hb hg1
  go_upto_region 3 with ((with_reducible refine (H2.out _).mono ?_); rintro e w3 ⟨rfl, hb3⟩)
  obtain ⟨r2, hb⟩ := box1 w3 (.cells #[.int .i64 ns, .string NP, .bool nz, .int .i64 nn, .string NQ] 76)
  generalize World.alloc w3 _ = w4 at r2 hb ⊢
  have r1' := (hb3.block _ (lt_of_block r1)).trans r1
  have r1x := (hb.block _ (lt_of_block r1')).trans r1'
  have hb4 := hb2.trans (hb3.mono hb2.size)
  have hb5 := hb4.trans (hb.mono hb4.size)
  obtain ⟨g2, hg2⟩ : ∃ g, g = w3.heap.size := ⟨_, rfl⟩
  rw [← hg2] at r2 ⊢
  clear hb3 hb hg2 r1 r1' hb2 hb4
  have x0 := row_cell r1x 0
  have x1 := row_cell r1x 1
  have x2 := row_cell r1x 2
  have x3 := row_cell r1x 3
  have x4 := row_cell r1x 4
  have y0 := row_cell r2 0
  have y1 := row_cell r2 1
  have y2 := row_cell r2 2
  have y3 := row_cell r2 3
  have y4 := row_cell r2 4
  simp at x0 x1 x2 x3 x4 y0 y1 y2 y3 y4
  clear r1x r2
  go_wp2_with (go_at_call 83; (with_reducible refine (HG.out _).mono ?_); rintro e w5 ⟨rfl, hb6⟩)
  go_ret2
  exact ⟨rfl, hb5.trans (hb6.mono hb5.size)⟩
end Go.Proofs.YtlhcejbimlilaaaGreatDoor
