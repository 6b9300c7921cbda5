/- The program's valued (written by gen_vbf.py). -/
import Derived.Test.YtlhcejbimlilaaaGreatDoorVbE
import Derived.Test.YtlhcejbimlilaaaGreatDoorQuP
import Derived.Laws.EntriesVeiled
set_option linter.unusedVariables false
set_option linter.unusedSimpArgs false
namespace Go.Proofs.YtlhcejbimlilaaaGreatDoor
open Go.RowKit Go.Tk
/-- The family of a datatype. -/
def famT (t : List UInt8) : Int := match kdOf t with | none => 0 | some k => famK k
/-- Is a term a literal that has a value? -/
def vdOk (kd : Int) (t x : List UInt8) : Bool := (kdOf t).isSome && (decide (kd = 3) && decide (chkE t x = 0))
def VdN (w : World) (e : Ending) (w' : World) : Prop := e = .returned (.tuple #[.agg #[.int .i64 0, .nilFunc, .nilFunc], .bool false]) ∧ Below w.heap.size w w'
def VdY (f : Int) (ok : Bool) (w : World) (e : Ending) (w' : World) : Prop := ∃ (F G : Nat) (caps : Array Value), e = .returned (.tuple #[.agg #[.int .i64 f, .func (.func F) #[] caps, .func (.func G) #[] #[]], .bool ok]) ∧ Below w.heap.size w w'
set_option maxHeartbeats 2000000 in
theorem valued_no  (kd : Int) (x t l : ByteArray) (w : World) (h : ∀ w, Calls Tryz.prog 24 #[.string t] w fun e w' => e = .returned (.tuple #[.agg #[.int .i64 0, .nilFunc, .nilFunc], .bool false]) ∧ Below w.heap.size w w')  :
    Calls Tryz.prog 28 #[.agg #[.int .i64 kd, .string x, .string t, .string l]] w (VdN w) := by
  have H := Lib.hid h
  clear h
  go_enter Tryz.func28, Tryz.ntmps28
  go_upto_region 2 with (go_at_call 24; (with_reducible refine (H.out _).mono ?_); rintro e w1 ⟨rfl, hb1⟩)
  obtain ⟨ra, rb, hab⟩ := box2 w (.cells #[.int .i64 kd, .string x, .string t, .string l] 33) (.cells #[.int .i64 0, .nilFunc, .nilFunc] 44)
  have sab : ((w.alloc (.cells #[.int .i64 kd, .string x, .string t, .string l] 33)).alloc (.cells #[.int .i64 0, .nilFunc, .nilFunc] 44)).heap.size = w.heap.size + 2 := by simp
  generalize World.alloc (World.alloc w _) _ = w0 at ra rb hab hb1 sab ⊢
  have ra1 := (hb1.block _ (by omega)).trans ra
  have rb1 := (hb1.block _ (by omega)).trans rb
  have hbz := hab.trans (hb1.mono hab.size)
  obtain ⟨rc, hbc⟩ := box1 w1 (.cells #[.int .i64 0, .nilFunc, .nilFunc] 44)
  have ra2 := (hbc.block _ (lt_of_block ra1)).trans ra1
  have rb2 := (hbc.block _ (lt_of_block rb1)).trans rb1
  have hb2 := hbz.trans (hbc.mono hbz.size)
  have hne : w.heap.size + 1 ≠ w1.heap.size := by have := lt_of_block rb1; omega
  generalize World.alloc w1 _ = w2 at rc hbc ra2 rb2 hb2 ⊢
  obtain ⟨g1, hg1⟩ : ∃ g, g = w1.heap.size := ⟨_, rfl⟩
  rw [← hg1] at rc hne ⊢
  have hd : Below w2.heap.size w2 w2.drew := below_drewN (Below.refl _ _) 1
  have ra3 := (hd.block _ (lt_of_block ra2)).trans ra2
  have rb3 := (hd.block _ (lt_of_block rb2)).trans rb2
  have rc3 := (hd.block _ (lt_of_block rc)).trans rc
  have hb3 := hb2.trans (hd.mono hb2.size)
  clear ra rb hab hb1 sab ra1 rb1 hbz hbc hg1 ra2 rb2 rc hb2 hd
  refine wh_startN (S := fun W => Below w.heap.size w W ∧ W.heap[w.heap.size]? = some (.cells #[.int .i64 kd, .string x, .string t, .string l] 33 (0, 0)) ∧ W.heap[g1]? = some (.cells #[.int .i64 0, .nilFunc, .nilFunc] 44 (0, 0))) 17 rfl (by kernel_rfl) ?_
  generalize w2.drew = wv at ra3 rb3 rc3 hb3 ⊢
  refine wh_takeW 0 12 (.agg #[.int .i64 0, .nilFunc, .nilFunc]) rfl rfl (by kernel_rfl) (by kernel_rfl) (by kernel_rfl) (by kernel_rfl) (fun _ _ _ _ h => h) ⟨hb3, ra3, rc3⟩ (fun w' h => by exact run_load_row 44 _ rfl g1 rfl 44 _ _ _ w' h.2.2 Tryz.underlying44 rfl (by kernel_rfl)) ?_
  simp only [List.setIfInBounds_toArray, List.set_cons_succ, List.set_cons_zero]
  refine wh_takeW 1 13 (.bool false) rfl rfl (by kernel_rfl) (by kernel_rfl) (by kernel_rfl) (by kernel_rfl) (fun _ _ _ _ h => h) ⟨hb3, ra3, rc3⟩ (fun w' h => by simp [go_sem]) ?_
  simp only [List.setIfInBounds_toArray, List.set_cons_succ, List.set_cons_zero]
  refine wh_takeW 2 14 (.bool false) rfl rfl (by kernel_rfl) (by kernel_rfl) (by kernel_rfl) (by kernel_rfl) (fun _ _ _ _ h => h) ⟨hb3, ra3, rc3⟩ (fun w' h => by simp [go_sem]) ?_
  simp only [List.setIfInBounds_toArray, List.set_cons_succ, List.set_cons_zero]
  refine wh_takeU 3 15 rfl rfl (by kernel_rfl) (by kernel_rfl) (by kernel_rfl) (by kernel_rfl) (fun _ _ _ _ h => h) ⟨hb3, ra3, rc3⟩ ?_
  simp only [List.setIfInBounds_toArray, List.set_cons_succ, List.set_cons_zero]
  refine wh_takeU 4 16 rfl rfl (by kernel_rfl) (by kernel_rfl) (by kernel_rfl) (by kernel_rfl) (fun _ _ _ _ h => h) ⟨hb3, ra3, rc3⟩ ?_
  simp only [List.setIfInBounds_toArray, List.set_cons_succ, List.set_cons_zero]
  refine wh_takeU 5 17 rfl rfl (by kernel_rfl) (by kernel_rfl) (by kernel_rfl) (by kernel_rfl) (fun _ _ _ _ h => h) ⟨hb3, ra3, rc3⟩ ?_
  simp only [List.setIfInBounds_toArray, List.set_cons_succ, List.set_cons_zero]
  refine wh_takeW 6 18 (.bool false) rfl rfl (by kernel_rfl) (by kernel_rfl) (by kernel_rfl) (by kernel_rfl) (fun _ _ _ _ h => h) ⟨hb3, ra3, rc3⟩ (fun w' h => by simp [go_sem]) ?_
  simp only [List.setIfInBounds_toArray, List.set_cons_succ, List.set_cons_zero]
  refine wh_takeW 7 19 (.bool false) rfl rfl (by kernel_rfl) (by kernel_rfl) (by kernel_rfl) (by kernel_rfl) (fun _ _ _ _ h => h) ⟨hb3, ra3, rc3⟩ (fun w' h => by simp [go_sem]) ?_
  simp only [List.setIfInBounds_toArray, List.set_cons_succ, List.set_cons_zero]
  refine wh_takeU 8 20 rfl rfl (by kernel_rfl) (by kernel_rfl) (by kernel_rfl) (by kernel_rfl) (fun _ _ _ _ h => h) ⟨hb3, ra3, rc3⟩ ?_
  simp only [List.setIfInBounds_toArray, List.set_cons_succ, List.set_cons_zero]
  refine wh_takeU 9 21 rfl rfl (by kernel_rfl) (by kernel_rfl) (by kernel_rfl) (by kernel_rfl) (fun _ _ _ _ h => h) ⟨hb3, ra3, rc3⟩ ?_
  simp only [List.setIfInBounds_toArray, List.set_cons_succ, List.set_cons_zero]
  refine wh_takeU 10 22 rfl rfl (by kernel_rfl) (by kernel_rfl) (by kernel_rfl) (by kernel_rfl) (fun _ _ _ _ h => h) ⟨hb3, ra3, rc3⟩ ?_
  simp only [List.setIfInBounds_toArray, List.set_cons_succ, List.set_cons_zero]
  refine wh_takeU 11 23 rfl rfl (by kernel_rfl) (by kernel_rfl) (by kernel_rfl) (by kernel_rfl) (fun _ _ _ _ h => h) ⟨hb3, ra3, rc3⟩ ?_
  simp only [List.setIfInBounds_toArray, List.set_cons_succ, List.set_cons_zero]
  refine wh_takeU 12 24 rfl rfl (by kernel_rfl) (by kernel_rfl) (by kernel_rfl) (by kernel_rfl) (fun _ _ _ _ h => h) ⟨hb3, ra3, rc3⟩ ?_
  simp only [List.setIfInBounds_toArray, List.set_cons_succ, List.set_cons_zero]
  refine wh_takeU 13 25 rfl rfl (by kernel_rfl) (by kernel_rfl) (by kernel_rfl) (by kernel_rfl) (fun _ _ _ _ h => h) ⟨hb3, ra3, rc3⟩ ?_
  simp only [List.setIfInBounds_toArray, List.set_cons_succ, List.set_cons_zero]
  refine wh_takeW 14 26 (.bool false) rfl rfl (by kernel_rfl) (by kernel_rfl) (by kernel_rfl) (by kernel_rfl) (fun _ _ _ _ h => h) ⟨hb3, ra3, rc3⟩ (fun w' h => by simp [go_sem]) ?_
  simp only [List.setIfInBounds_toArray, List.set_cons_succ, List.set_cons_zero]
  have f3 : ∀ i, wv.frozen? ⟨w.heap.size + 1, i, none⟩ = false := fun i => frozen_of_row _ _ _ _ _ rb3
  have y0 := row_cell rb3 0
  have y1 := row_cell rb3 1
  have y2 := row_cell rb3 2
  simp at y0 y1 y2
  have s0 := set_row (i := 0) (v := .int .i64 0) rb3 rfl
  have s1 := set_row (i := 1) (v := .nilFunc) s0 rfl
  have s2 := set_row (i := 2) (v := .nilFunc) s1 rfl
  have t0 := fun (g : Nat) (o : Obj) (h : wv.heap[g]? = some o) (hn : w.heap.size + 1 ≠ g) => set_row_ne (i := 2) (v := .nilFunc) (set_row_ne (i := 1) (v := .nilFunc) (set_row_ne (i := 0) (v := .int .i64 0) h hn) hn) hn
  have ta := t0 _ _ ra3 (by omega)
  have tc := t0 _ _ rc3 hne
  have hb5 := ((hb3.setCell (p := ⟨w.heap.size + 1, 0, none⟩) (by simp) (.int .i64 0)).setCell (p := ⟨w.heap.size + 1, 1, none⟩) (by simp) (.nilFunc)).setCell (p := ⟨w.heap.size + 1, 2, none⟩) (by simp) (.nilFunc)
  refine wh_skipD 15 (w' := World.setCell (World.setCell (World.setCell wv ⟨w.heap.size + 1, 0, none⟩ (.int .i64 0)) ⟨w.heap.size + 1, 1, none⟩ (.nilFunc)) ⟨w.heap.size + 1, 2, none⟩ (.nilFunc)) rfl rfl rfl (by kernel_rfl) (by simp [go_sem, f3, y0, y1, y2]) ⟨hb5, ta, tc⟩ ?_
  generalize World.setCell (World.setCell (World.setCell wv _ _) _ _) _ _ = wy at s2 ta tc hb5 ⊢
  refine wh_takeW 16 3 (.bool false) rfl rfl (by kernel_rfl) (by kernel_rfl) (by kernel_rfl) (by kernel_rfl) (fun _ _ _ _ h => h) ⟨hb5, ta, tc⟩ (fun w' h => by simp [go_sem]) ?_
  simp only [List.setIfInBounds_toArray, List.set_cons_succ, List.set_cons_zero]
  refine wpAnyH_done (by kernel_rfl) ?_ 0
  have c0 := row_cell s2 0
  have c1 := row_cell s2 1
  have c2 := row_cell s2 2
  simp at c0 c1 c2
  go_wp2_with fail
  refine bodyPost_ret (v := .tuple #[.agg #[.int .i64 0, .nilFunc, .nilFunc], .bool false]) (by simp [results, Tryz.results28, go_sem, c0, c1, c2]) rfl ⟨rfl, hb5⟩
set_option maxHeartbeats 2000000 in
theorem valued_kd (f : Int) (F G : Nat) (kd : Int) (x t l : ByteArray) (w : World) (h : ∀ w, Calls Tryz.prog 24 #[.string t] w fun e w' => ∃ caps : Array Value, e = .returned (.tuple #[.agg #[.int .i64 f, .func (.func F) #[] caps, .func (.func G) #[] #[]], .bool true]) ∧ Below w.heap.size w w') (hkd : kd ≠ 3) :
    Calls Tryz.prog 28 #[.agg #[.int .i64 kd, .string x, .string t, .string l]] w (VdY f false w) := by
  have ekd : (kd == (3 : Int)) = false := by simpa using hkd
  have H := Lib.hid h
  clear hkd
  clear h
  go_enter Tryz.func28, Tryz.ntmps28
  go_upto_region 2 with (go_at_call 24; (with_reducible refine (H.out _).mono ?_); rintro e w1 ⟨caps, rfl, hb1⟩)
  obtain ⟨ra, rb, hab⟩ := box2 w (.cells #[.int .i64 kd, .string x, .string t, .string l] 33) (.cells #[.int .i64 0, .nilFunc, .nilFunc] 44)
  have sab : ((w.alloc (.cells #[.int .i64 kd, .string x, .string t, .string l] 33)).alloc (.cells #[.int .i64 0, .nilFunc, .nilFunc] 44)).heap.size = w.heap.size + 2 := by simp
  generalize World.alloc (World.alloc w _) _ = w0 at ra rb hab hb1 sab ⊢
  have ra1 := (hb1.block _ (by omega)).trans ra
  have rb1 := (hb1.block _ (by omega)).trans rb
  have hbz := hab.trans (hb1.mono hab.size)
  obtain ⟨rc, hbc⟩ := box1 w1 (.cells #[.int .i64 f, .func (.func F) #[] caps, .func (.func G) #[] #[]] 44)
  have ra2 := (hbc.block _ (lt_of_block ra1)).trans ra1
  have rb2 := (hbc.block _ (lt_of_block rb1)).trans rb1
  have hb2 := hbz.trans (hbc.mono hbz.size)
  have hne : w.heap.size + 1 ≠ w1.heap.size := by have := lt_of_block rb1; omega
  generalize World.alloc w1 _ = w2 at rc hbc ra2 rb2 hb2 ⊢
  obtain ⟨g1, hg1⟩ : ∃ g, g = w1.heap.size := ⟨_, rfl⟩
  rw [← hg1] at rc hne ⊢
  have hd : Below w2.heap.size w2 w2.drew := below_drewN (Below.refl _ _) 1
  have ra3 := (hd.block _ (lt_of_block ra2)).trans ra2
  have rb3 := (hd.block _ (lt_of_block rb2)).trans rb2
  have rc3 := (hd.block _ (lt_of_block rc)).trans rc
  have hb3 := hb2.trans (hd.mono hb2.size)
  clear ra rb hab hb1 sab ra1 rb1 hbz hbc hg1 ra2 rb2 rc hb2 hd
  refine wh_startN (S := fun W => Below w.heap.size w W ∧ W.heap[w.heap.size]? = some (.cells #[.int .i64 kd, .string x, .string t, .string l] 33 (0, 0)) ∧ W.heap[g1]? = some (.cells #[.int .i64 f, .func (.func F) #[] caps, .func (.func G) #[] #[]] 44 (0, 0))) 17 rfl (by kernel_rfl) ?_
  generalize w2.drew = wv at ra3 rb3 rc3 hb3 ⊢
  refine wh_takeW 0 12 (.agg #[.int .i64 f, .func (.func F) #[] caps, .func (.func G) #[] #[]]) rfl rfl (by kernel_rfl) (by kernel_rfl) (by kernel_rfl) (by kernel_rfl) (fun _ _ _ _ h => h) ⟨hb3, ra3, rc3⟩ (fun w' h => by exact run_load_row 44 _ rfl g1 rfl 44 _ _ _ w' h.2.2 Tryz.underlying44 rfl (by kernel_rfl)) ?_
  simp only [List.setIfInBounds_toArray, List.set_cons_succ, List.set_cons_zero]
  refine wh_takeW 1 13 (.bool true) rfl rfl (by kernel_rfl) (by kernel_rfl) (by kernel_rfl) (by kernel_rfl) (fun _ _ _ _ h => h) ⟨hb3, ra3, rc3⟩ (fun w' h => by simp [go_sem]) ?_
  simp only [List.setIfInBounds_toArray, List.set_cons_succ, List.set_cons_zero]
  refine wh_takeW 2 14 (.bool true) rfl rfl (by kernel_rfl) (by kernel_rfl) (by kernel_rfl) (by kernel_rfl) (fun _ _ _ _ h => h) ⟨hb3, ra3, rc3⟩ (fun w' h => by simp [go_sem]) ?_
  simp only [List.setIfInBounds_toArray, List.set_cons_succ, List.set_cons_zero]
  refine wh_takeW 3 15 (.pointer (some ⟨w.heap.size, 0, none⟩)) rfl rfl (by kernel_rfl) (by kernel_rfl) (by kernel_rfl) (by kernel_rfl) (fun _ _ _ _ h => h) ⟨hb3, ra3, rc3⟩ (fun w' h => by simp [go_sem]) ?_
  simp only [List.setIfInBounds_toArray, List.set_cons_succ, List.set_cons_zero]
  refine wh_takeW 4 16 (.int .i64 kd) rfl rfl (by kernel_rfl) (by kernel_rfl) (by kernel_rfl) (by kernel_rfl) (fun _ _ _ _ h => h) ⟨hb3, ra3, rc3⟩ (fun w' h => by have hc := row_cell h.2.1 0; simp at hc; simp [go_sem, hc]) ?_
  simp only [List.setIfInBounds_toArray, List.set_cons_succ, List.set_cons_zero]
  refine wh_takeW 5 17 (.bool false) rfl rfl (by kernel_rfl) (by kernel_rfl) (by kernel_rfl) (by kernel_rfl) (fun _ _ _ _ h => h) ⟨hb3, ra3, rc3⟩ (fun w' h => by simp [go_sem, ekd]) ?_
  simp only [List.setIfInBounds_toArray, List.set_cons_succ, List.set_cons_zero]
  refine wh_takeW 6 18 (.bool false) rfl rfl (by kernel_rfl) (by kernel_rfl) (by kernel_rfl) (by kernel_rfl) (fun _ _ _ _ h => h) ⟨hb3, ra3, rc3⟩ (fun w' h => by simp [go_sem]) ?_
  simp only [List.setIfInBounds_toArray, List.set_cons_succ, List.set_cons_zero]
  refine wh_takeW 7 19 (.bool false) rfl rfl (by kernel_rfl) (by kernel_rfl) (by kernel_rfl) (by kernel_rfl) (fun _ _ _ _ h => h) ⟨hb3, ra3, rc3⟩ (fun w' h => by simp [go_sem]) ?_
  simp only [List.setIfInBounds_toArray, List.set_cons_succ, List.set_cons_zero]
  refine wh_takeU 8 20 rfl rfl (by kernel_rfl) (by kernel_rfl) (by kernel_rfl) (by kernel_rfl) (fun _ _ _ _ h => h) ⟨hb3, ra3, rc3⟩ ?_
  simp only [List.setIfInBounds_toArray, List.set_cons_succ, List.set_cons_zero]
  refine wh_takeU 9 21 rfl rfl (by kernel_rfl) (by kernel_rfl) (by kernel_rfl) (by kernel_rfl) (fun _ _ _ _ h => h) ⟨hb3, ra3, rc3⟩ ?_
  simp only [List.setIfInBounds_toArray, List.set_cons_succ, List.set_cons_zero]
  refine wh_takeU 10 22 rfl rfl (by kernel_rfl) (by kernel_rfl) (by kernel_rfl) (by kernel_rfl) (fun _ _ _ _ h => h) ⟨hb3, ra3, rc3⟩ ?_
  simp only [List.setIfInBounds_toArray, List.set_cons_succ, List.set_cons_zero]
  refine wh_takeU 11 23 rfl rfl (by kernel_rfl) (by kernel_rfl) (by kernel_rfl) (by kernel_rfl) (fun _ _ _ _ h => h) ⟨hb3, ra3, rc3⟩ ?_
  simp only [List.setIfInBounds_toArray, List.set_cons_succ, List.set_cons_zero]
  refine wh_takeU 12 24 rfl rfl (by kernel_rfl) (by kernel_rfl) (by kernel_rfl) (by kernel_rfl) (fun _ _ _ _ h => h) ⟨hb3, ra3, rc3⟩ ?_
  simp only [List.setIfInBounds_toArray, List.set_cons_succ, List.set_cons_zero]
  refine wh_takeU 13 25 rfl rfl (by kernel_rfl) (by kernel_rfl) (by kernel_rfl) (by kernel_rfl) (fun _ _ _ _ h => h) ⟨hb3, ra3, rc3⟩ ?_
  simp only [List.setIfInBounds_toArray, List.set_cons_succ, List.set_cons_zero]
  refine wh_takeW 14 26 (.bool false) rfl rfl (by kernel_rfl) (by kernel_rfl) (by kernel_rfl) (by kernel_rfl) (fun _ _ _ _ h => h) ⟨hb3, ra3, rc3⟩ (fun w' h => by simp [go_sem]) ?_
  simp only [List.setIfInBounds_toArray, List.set_cons_succ, List.set_cons_zero]
  have f3 : ∀ i, wv.frozen? ⟨w.heap.size + 1, i, none⟩ = false := fun i => frozen_of_row _ _ _ _ _ rb3
  have y0 := row_cell rb3 0
  have y1 := row_cell rb3 1
  have y2 := row_cell rb3 2
  simp at y0 y1 y2
  have s0 := set_row (i := 0) (v := .int .i64 f) rb3 rfl
  have s1 := set_row (i := 1) (v := .func (.func F) #[] caps) s0 rfl
  have s2 := set_row (i := 2) (v := .func (.func G) #[] #[]) s1 rfl
  have t0 := fun (g : Nat) (o : Obj) (h : wv.heap[g]? = some o) (hn : w.heap.size + 1 ≠ g) => set_row_ne (i := 2) (v := .func (.func G) #[] #[]) (set_row_ne (i := 1) (v := .func (.func F) #[] caps) (set_row_ne (i := 0) (v := .int .i64 f) h hn) hn) hn
  have ta := t0 _ _ ra3 (by omega)
  have tc := t0 _ _ rc3 hne
  have hb5 := ((hb3.setCell (p := ⟨w.heap.size + 1, 0, none⟩) (by simp) (.int .i64 f)).setCell (p := ⟨w.heap.size + 1, 1, none⟩) (by simp) (.func (.func F) #[] caps)).setCell (p := ⟨w.heap.size + 1, 2, none⟩) (by simp) (.func (.func G) #[] #[])
  refine wh_skipD 15 (w' := World.setCell (World.setCell (World.setCell wv ⟨w.heap.size + 1, 0, none⟩ (.int .i64 f)) ⟨w.heap.size + 1, 1, none⟩ (.func (.func F) #[] caps)) ⟨w.heap.size + 1, 2, none⟩ (.func (.func G) #[] #[])) rfl rfl rfl (by kernel_rfl) (by simp [go_sem, f3, y0, y1, y2]) ⟨hb5, ta, tc⟩ ?_
  generalize World.setCell (World.setCell (World.setCell wv _ _) _ _) _ _ = wy at s2 ta tc hb5 ⊢
  refine wh_takeW 16 3 (.bool false) rfl rfl (by kernel_rfl) (by kernel_rfl) (by kernel_rfl) (by kernel_rfl) (fun _ _ _ _ h => h) ⟨hb5, ta, tc⟩ (fun w' h => by simp [go_sem]) ?_
  simp only [List.setIfInBounds_toArray, List.set_cons_succ, List.set_cons_zero]
  refine wpAnyH_done (by kernel_rfl) ?_ 0
  have c0 := row_cell s2 0
  have c1 := row_cell s2 1
  have c2 := row_cell s2 2
  simp at c0 c1 c2
  go_wp2_with fail
  refine bodyPost_ret (v := .tuple #[.agg #[.int .i64 f, .func (.func F) #[] caps, .func (.func G) #[] #[]], .bool false]) (by simp [results, Tryz.results28, go_sem, c0, c1, c2]) rfl ⟨F, G, caps, rfl, hb5⟩
set_option maxHeartbeats 2000000 in
theorem valued_bad (f : Int) (F G : Nat) (c : Int)  (x t l : ByteArray) (w : World) (h : ∀ w, Calls Tryz.prog 24 #[.string t] w fun e w' => ∃ caps : Array Value, e = .returned (.tuple #[.agg #[.int .i64 f, .func (.func F) #[] caps, .func (.func G) #[] #[]], .bool true]) ∧ Below w.heap.size w w') (hc : ∀ w, Calls Tryz.prog 13 #[.string t, .string x] w fun e w' => e = .returned (.int .i64 c) ∧ Below w.heap.size w w') (hc0 : c ≠ 0) :
    Calls Tryz.prog 28 #[.agg #[.int .i64 3, .string x, .string t, .string l]] w (VdY f false w) := by
  have ec : (c == (0 : Int)) = false := by simpa using hc0
  have H := Lib.hid h
  have HC := Lib.hid hc
  clear hc hc0
  clear h
  go_enter Tryz.func28, Tryz.ntmps28
  go_upto_region 2 with (go_at_call 24; (with_reducible refine (H.out _).mono ?_); rintro e w1 ⟨caps, rfl, hb1⟩)
  obtain ⟨ra, rb, hab⟩ := box2 w (.cells #[.int .i64 3, .string x, .string t, .string l] 33) (.cells #[.int .i64 0, .nilFunc, .nilFunc] 44)
  have sab : ((w.alloc (.cells #[.int .i64 3, .string x, .string t, .string l] 33)).alloc (.cells #[.int .i64 0, .nilFunc, .nilFunc] 44)).heap.size = w.heap.size + 2 := by simp
  generalize World.alloc (World.alloc w _) _ = w0 at ra rb hab hb1 sab ⊢
  have ra1 := (hb1.block _ (by omega)).trans ra
  have rb1 := (hb1.block _ (by omega)).trans rb
  have hbz := hab.trans (hb1.mono hab.size)
  obtain ⟨rc, hbc⟩ := box1 w1 (.cells #[.int .i64 f, .func (.func F) #[] caps, .func (.func G) #[] #[]] 44)
  have ra2 := (hbc.block _ (lt_of_block ra1)).trans ra1
  have rb2 := (hbc.block _ (lt_of_block rb1)).trans rb1
  have hb2 := hbz.trans (hbc.mono hbz.size)
  have hne : w.heap.size + 1 ≠ w1.heap.size := by have := lt_of_block rb1; omega
  generalize World.alloc w1 _ = w2 at rc hbc ra2 rb2 hb2 ⊢
  obtain ⟨g1, hg1⟩ : ∃ g, g = w1.heap.size := ⟨_, rfl⟩
  rw [← hg1] at rc hne ⊢
  have hd : Below w2.heap.size w2 w2.drew := below_drewN (Below.refl _ _) 1
  have ra3 := (hd.block _ (lt_of_block ra2)).trans ra2
  have rb3 := (hd.block _ (lt_of_block rb2)).trans rb2
  have rc3 := (hd.block _ (lt_of_block rc)).trans rc
  have hb3 := hb2.trans (hd.mono hb2.size)
  clear ra rb hab hb1 sab ra1 rb1 hbz hbc hg1 ra2 rb2 rc hb2 hd
  refine wh_startN (S := fun W => Below w.heap.size w W ∧ W.heap[w.heap.size]? = some (.cells #[.int .i64 3, .string x, .string t, .string l] 33 (0, 0)) ∧ W.heap[g1]? = some (.cells #[.int .i64 f, .func (.func F) #[] caps, .func (.func G) #[] #[]] 44 (0, 0))) 17 rfl (by kernel_rfl) ?_
  generalize w2.drew = wv at ra3 rb3 rc3 hb3 ⊢
  refine wh_takeW 0 12 (.agg #[.int .i64 f, .func (.func F) #[] caps, .func (.func G) #[] #[]]) rfl rfl (by kernel_rfl) (by kernel_rfl) (by kernel_rfl) (by kernel_rfl) (fun _ _ _ _ h => h) ⟨hb3, ra3, rc3⟩ (fun w' h => by exact run_load_row 44 _ rfl g1 rfl 44 _ _ _ w' h.2.2 Tryz.underlying44 rfl (by kernel_rfl)) ?_
  simp only [List.setIfInBounds_toArray, List.set_cons_succ, List.set_cons_zero]
  refine wh_takeW 1 13 (.bool true) rfl rfl (by kernel_rfl) (by kernel_rfl) (by kernel_rfl) (by kernel_rfl) (fun _ _ _ _ h => h) ⟨hb3, ra3, rc3⟩ (fun w' h => by simp [go_sem]) ?_
  simp only [List.setIfInBounds_toArray, List.set_cons_succ, List.set_cons_zero]
  refine wh_takeW 2 14 (.bool true) rfl rfl (by kernel_rfl) (by kernel_rfl) (by kernel_rfl) (by kernel_rfl) (fun _ _ _ _ h => h) ⟨hb3, ra3, rc3⟩ (fun w' h => by simp [go_sem]) ?_
  simp only [List.setIfInBounds_toArray, List.set_cons_succ, List.set_cons_zero]
  refine wh_takeW 3 15 (.pointer (some ⟨w.heap.size, 0, none⟩)) rfl rfl (by kernel_rfl) (by kernel_rfl) (by kernel_rfl) (by kernel_rfl) (fun _ _ _ _ h => h) ⟨hb3, ra3, rc3⟩ (fun w' h => by simp [go_sem]) ?_
  simp only [List.setIfInBounds_toArray, List.set_cons_succ, List.set_cons_zero]
  refine wh_takeW 4 16 (.int .i64 3) rfl rfl (by kernel_rfl) (by kernel_rfl) (by kernel_rfl) (by kernel_rfl) (fun _ _ _ _ h => h) ⟨hb3, ra3, rc3⟩ (fun w' h => by have hc := row_cell h.2.1 0; simp at hc; simp [go_sem, hc]) ?_
  simp only [List.setIfInBounds_toArray, List.set_cons_succ, List.set_cons_zero]
  refine wh_takeW 5 17 (.bool true) rfl rfl (by kernel_rfl) (by kernel_rfl) (by kernel_rfl) (by kernel_rfl) (fun _ _ _ _ h => h) ⟨hb3, ra3, rc3⟩ (fun w' h => by simp [go_sem]) ?_
  simp only [List.setIfInBounds_toArray, List.set_cons_succ, List.set_cons_zero]
  refine wh_takeW 6 18 (.bool true) rfl rfl (by kernel_rfl) (by kernel_rfl) (by kernel_rfl) (by kernel_rfl) (fun _ _ _ _ h => h) ⟨hb3, ra3, rc3⟩ (fun w' h => by simp [go_sem]) ?_
  simp only [List.setIfInBounds_toArray, List.set_cons_succ, List.set_cons_zero]
  refine wh_takeW 7 19 (.bool true) rfl rfl (by kernel_rfl) (by kernel_rfl) (by kernel_rfl) (by kernel_rfl) (fun _ _ _ _ h => h) ⟨hb3, ra3, rc3⟩ (fun w' h => by simp [go_sem]) ?_
  simp only [List.setIfInBounds_toArray, List.set_cons_succ, List.set_cons_zero]
  refine wh_takeW 8 20 (.pointer (some ⟨w.heap.size, 2, none⟩)) rfl rfl (by kernel_rfl) (by kernel_rfl) (by kernel_rfl) (by kernel_rfl) (fun _ _ _ _ h => h) ⟨hb3, ra3, rc3⟩ (fun w' h => by simp [go_sem]) ?_
  simp only [List.setIfInBounds_toArray, List.set_cons_succ, List.set_cons_zero]
  refine wh_takeW 9 21 (.string t) rfl rfl (by kernel_rfl) (by kernel_rfl) (by kernel_rfl) (by kernel_rfl) (fun _ _ _ _ h => h) ⟨hb3, ra3, rc3⟩ (fun w' h => by have hc := row_cell h.2.1 2; simp at hc; simp [go_sem, hc]) ?_
  simp only [List.setIfInBounds_toArray, List.set_cons_succ, List.set_cons_zero]
  refine wh_takeW 10 22 (.pointer (some ⟨w.heap.size, 1, none⟩)) rfl rfl (by kernel_rfl) (by kernel_rfl) (by kernel_rfl) (by kernel_rfl) (fun _ _ _ _ h => h) ⟨hb3, ra3, rc3⟩ (fun w' h => by simp [go_sem]) ?_
  simp only [List.setIfInBounds_toArray, List.set_cons_succ, List.set_cons_zero]
  refine wh_takeW 11 23 (.string x) rfl rfl (by kernel_rfl) (by kernel_rfl) (by kernel_rfl) (by kernel_rfl) (fun _ _ _ _ h => h) ⟨hb3, ra3, rc3⟩ (fun w' h => by have hc := row_cell h.2.1 1; simp at hc; simp [go_sem, hc]) ?_
  simp only [List.setIfInBounds_toArray, List.set_cons_succ, List.set_cons_zero]
  refine wh_callW 12 24 (.int .i64 c) (fun W => Below wv.heap.size wv W) rfl rfl (by kernel_rfl) (by kernel_rfl) (by simp [go_sem]) (HC.out _) (fun W h => ⟨hb3.trans (h.mono hb3.size), (h.block _ (lt_of_block ra3)).trans ra3, (h.block _ (lt_of_block rc3)).trans rc3⟩) ?_
  intro wx hx
  simp only [List.setIfInBounds_toArray, List.set_cons_succ, List.set_cons_zero]
  have ra4 := (hx.block _ (lt_of_block ra3)).trans ra3
  have rb4 := (hx.block _ (lt_of_block rb3)).trans rb3
  have rc4 := (hx.block _ (lt_of_block rc3)).trans rc3
  have hb4 := hb3.trans (hx.mono hb3.size)
  clear ra3 rb3 rc3 hb3 hx
  refine wh_takeW 13 25 (.bool false) rfl rfl (by kernel_rfl) (by kernel_rfl) (by kernel_rfl) (by kernel_rfl) (fun _ _ _ _ h => h) ⟨hb4, ra4, rc4⟩ (fun w' h => by simp [go_sem, ec]) ?_
  simp only [List.setIfInBounds_toArray, List.set_cons_succ, List.set_cons_zero]
  refine wh_takeW 14 26 (.bool false) rfl rfl (by kernel_rfl) (by kernel_rfl) (by kernel_rfl) (by kernel_rfl) (fun _ _ _ _ h => h) ⟨hb4, ra4, rc4⟩ (fun w' h => by simp [go_sem]) ?_
  simp only [List.setIfInBounds_toArray, List.set_cons_succ, List.set_cons_zero]
  have f3 : ∀ i, wx.frozen? ⟨w.heap.size + 1, i, none⟩ = false := fun i => frozen_of_row _ _ _ _ _ rb4
  have y0 := row_cell rb4 0
  have y1 := row_cell rb4 1
  have y2 := row_cell rb4 2
  simp at y0 y1 y2
  have s0 := set_row (i := 0) (v := .int .i64 f) rb4 rfl
  have s1 := set_row (i := 1) (v := .func (.func F) #[] caps) s0 rfl
  have s2 := set_row (i := 2) (v := .func (.func G) #[] #[]) s1 rfl
  have t0 := fun (g : Nat) (o : Obj) (h : wx.heap[g]? = some o) (hn : w.heap.size + 1 ≠ g) => set_row_ne (i := 2) (v := .func (.func G) #[] #[]) (set_row_ne (i := 1) (v := .func (.func F) #[] caps) (set_row_ne (i := 0) (v := .int .i64 f) h hn) hn) hn
  have ta := t0 _ _ ra4 (by omega)
  have tc := t0 _ _ rc4 hne
  have hb5 := ((hb4.setCell (p := ⟨w.heap.size + 1, 0, none⟩) (by simp) (.int .i64 f)).setCell (p := ⟨w.heap.size + 1, 1, none⟩) (by simp) (.func (.func F) #[] caps)).setCell (p := ⟨w.heap.size + 1, 2, none⟩) (by simp) (.func (.func G) #[] #[])
  refine wh_skipD 15 (w' := World.setCell (World.setCell (World.setCell wx ⟨w.heap.size + 1, 0, none⟩ (.int .i64 f)) ⟨w.heap.size + 1, 1, none⟩ (.func (.func F) #[] caps)) ⟨w.heap.size + 1, 2, none⟩ (.func (.func G) #[] #[])) rfl rfl rfl (by kernel_rfl) (by simp [go_sem, f3, y0, y1, y2]) ⟨hb5, ta, tc⟩ ?_
  generalize World.setCell (World.setCell (World.setCell wx _ _) _ _) _ _ = wy at s2 ta tc hb5 ⊢
  refine wh_takeW 16 3 (.bool false) rfl rfl (by kernel_rfl) (by kernel_rfl) (by kernel_rfl) (by kernel_rfl) (fun _ _ _ _ h => h) ⟨hb5, ta, tc⟩ (fun w' h => by simp [go_sem]) ?_
  simp only [List.setIfInBounds_toArray, List.set_cons_succ, List.set_cons_zero]
  refine wpAnyH_done (by kernel_rfl) ?_ 0
  have c0 := row_cell s2 0
  have c1 := row_cell s2 1
  have c2 := row_cell s2 2
  simp at c0 c1 c2
  go_wp2_with fail
  refine bodyPost_ret (v := .tuple #[.agg #[.int .i64 f, .func (.func F) #[] caps, .func (.func G) #[] #[]], .bool false]) (by simp [results, Tryz.results28, go_sem, c0, c1, c2]) rfl ⟨F, G, caps, rfl, hb5⟩
set_option maxHeartbeats 2000000 in
theorem valued_ok (f : Int) (F G : Nat) (c : Int)  (x t l : ByteArray) (w : World) (h : ∀ w, Calls Tryz.prog 24 #[.string t] w fun e w' => ∃ caps : Array Value, e = .returned (.tuple #[.agg #[.int .i64 f, .func (.func F) #[] caps, .func (.func G) #[] #[]], .bool true]) ∧ Below w.heap.size w w') (hc : ∀ w, Calls Tryz.prog 13 #[.string t, .string x] w fun e w' => e = .returned (.int .i64 c) ∧ Below w.heap.size w w') (hc0 : c = 0) :
    Calls Tryz.prog 28 #[.agg #[.int .i64 3, .string x, .string t, .string l]] w (VdY f true w) := by
  have ec : (c == (0 : Int)) = true := by simp [hc0]
  have H := Lib.hid h
  have HC := Lib.hid hc
  clear hc hc0
  clear h
  go_enter Tryz.func28, Tryz.ntmps28
  go_upto_region 2 with (go_at_call 24; (with_reducible refine (H.out _).mono ?_); rintro e w1 ⟨caps, rfl, hb1⟩)
  obtain ⟨ra, rb, hab⟩ := box2 w (.cells #[.int .i64 3, .string x, .string t, .string l] 33) (.cells #[.int .i64 0, .nilFunc, .nilFunc] 44)
  have sab : ((w.alloc (.cells #[.int .i64 3, .string x, .string t, .string l] 33)).alloc (.cells #[.int .i64 0, .nilFunc, .nilFunc] 44)).heap.size = w.heap.size + 2 := by simp
  generalize World.alloc (World.alloc w _) _ = w0 at ra rb hab hb1 sab ⊢
  have ra1 := (hb1.block _ (by omega)).trans ra
  have rb1 := (hb1.block _ (by omega)).trans rb
  have hbz := hab.trans (hb1.mono hab.size)
  obtain ⟨rc, hbc⟩ := box1 w1 (.cells #[.int .i64 f, .func (.func F) #[] caps, .func (.func G) #[] #[]] 44)
  have ra2 := (hbc.block _ (lt_of_block ra1)).trans ra1
  have rb2 := (hbc.block _ (lt_of_block rb1)).trans rb1
  have hb2 := hbz.trans (hbc.mono hbz.size)
  have hne : w.heap.size + 1 ≠ w1.heap.size := by have := lt_of_block rb1; omega
  generalize World.alloc w1 _ = w2 at rc hbc ra2 rb2 hb2 ⊢
  obtain ⟨g1, hg1⟩ : ∃ g, g = w1.heap.size := ⟨_, rfl⟩
  rw [← hg1] at rc hne ⊢
  have hd : Below w2.heap.size w2 w2.drew := below_drewN (Below.refl _ _) 1
  have ra3 := (hd.block _ (lt_of_block ra2)).trans ra2
  have rb3 := (hd.block _ (lt_of_block rb2)).trans rb2
  have rc3 := (hd.block _ (lt_of_block rc)).trans rc
  have hb3 := hb2.trans (hd.mono hb2.size)
  clear ra rb hab hb1 sab ra1 rb1 hbz hbc hg1 ra2 rb2 rc hb2 hd
  refine wh_startN (S := fun W => Below w.heap.size w W ∧ W.heap[w.heap.size]? = some (.cells #[.int .i64 3, .string x, .string t, .string l] 33 (0, 0)) ∧ W.heap[g1]? = some (.cells #[.int .i64 f, .func (.func F) #[] caps, .func (.func G) #[] #[]] 44 (0, 0))) 17 rfl (by kernel_rfl) ?_
  generalize w2.drew = wv at ra3 rb3 rc3 hb3 ⊢
  refine wh_takeW 0 12 (.agg #[.int .i64 f, .func (.func F) #[] caps, .func (.func G) #[] #[]]) rfl rfl (by kernel_rfl) (by kernel_rfl) (by kernel_rfl) (by kernel_rfl) (fun _ _ _ _ h => h) ⟨hb3, ra3, rc3⟩ (fun w' h => by exact run_load_row 44 _ rfl g1 rfl 44 _ _ _ w' h.2.2 Tryz.underlying44 rfl (by kernel_rfl)) ?_
  simp only [List.setIfInBounds_toArray, List.set_cons_succ, List.set_cons_zero]
  refine wh_takeW 1 13 (.bool true) rfl rfl (by kernel_rfl) (by kernel_rfl) (by kernel_rfl) (by kernel_rfl) (fun _ _ _ _ h => h) ⟨hb3, ra3, rc3⟩ (fun w' h => by simp [go_sem]) ?_
  simp only [List.setIfInBounds_toArray, List.set_cons_succ, List.set_cons_zero]
  refine wh_takeW 2 14 (.bool true) rfl rfl (by kernel_rfl) (by kernel_rfl) (by kernel_rfl) (by kernel_rfl) (fun _ _ _ _ h => h) ⟨hb3, ra3, rc3⟩ (fun w' h => by simp [go_sem]) ?_
  simp only [List.setIfInBounds_toArray, List.set_cons_succ, List.set_cons_zero]
  refine wh_takeW 3 15 (.pointer (some ⟨w.heap.size, 0, none⟩)) rfl rfl (by kernel_rfl) (by kernel_rfl) (by kernel_rfl) (by kernel_rfl) (fun _ _ _ _ h => h) ⟨hb3, ra3, rc3⟩ (fun w' h => by simp [go_sem]) ?_
  simp only [List.setIfInBounds_toArray, List.set_cons_succ, List.set_cons_zero]
  refine wh_takeW 4 16 (.int .i64 3) rfl rfl (by kernel_rfl) (by kernel_rfl) (by kernel_rfl) (by kernel_rfl) (fun _ _ _ _ h => h) ⟨hb3, ra3, rc3⟩ (fun w' h => by have hc := row_cell h.2.1 0; simp at hc; simp [go_sem, hc]) ?_
  simp only [List.setIfInBounds_toArray, List.set_cons_succ, List.set_cons_zero]
  refine wh_takeW 5 17 (.bool true) rfl rfl (by kernel_rfl) (by kernel_rfl) (by kernel_rfl) (by kernel_rfl) (fun _ _ _ _ h => h) ⟨hb3, ra3, rc3⟩ (fun w' h => by simp [go_sem]) ?_
  simp only [List.setIfInBounds_toArray, List.set_cons_succ, List.set_cons_zero]
  refine wh_takeW 6 18 (.bool true) rfl rfl (by kernel_rfl) (by kernel_rfl) (by kernel_rfl) (by kernel_rfl) (fun _ _ _ _ h => h) ⟨hb3, ra3, rc3⟩ (fun w' h => by simp [go_sem]) ?_
  simp only [List.setIfInBounds_toArray, List.set_cons_succ, List.set_cons_zero]
  refine wh_takeW 7 19 (.bool true) rfl rfl (by kernel_rfl) (by kernel_rfl) (by kernel_rfl) (by kernel_rfl) (fun _ _ _ _ h => h) ⟨hb3, ra3, rc3⟩ (fun w' h => by simp [go_sem]) ?_
  simp only [List.setIfInBounds_toArray, List.set_cons_succ, List.set_cons_zero]
  refine wh_takeW 8 20 (.pointer (some ⟨w.heap.size, 2, none⟩)) rfl rfl (by kernel_rfl) (by kernel_rfl) (by kernel_rfl) (by kernel_rfl) (fun _ _ _ _ h => h) ⟨hb3, ra3, rc3⟩ (fun w' h => by simp [go_sem]) ?_
  simp only [List.setIfInBounds_toArray, List.set_cons_succ, List.set_cons_zero]
  refine wh_takeW 9 21 (.string t) rfl rfl (by kernel_rfl) (by kernel_rfl) (by kernel_rfl) (by kernel_rfl) (fun _ _ _ _ h => h) ⟨hb3, ra3, rc3⟩ (fun w' h => by have hc := row_cell h.2.1 2; simp at hc; simp [go_sem, hc]) ?_
  simp only [List.setIfInBounds_toArray, List.set_cons_succ, List.set_cons_zero]
  refine wh_takeW 10 22 (.pointer (some ⟨w.heap.size, 1, none⟩)) rfl rfl (by kernel_rfl) (by kernel_rfl) (by kernel_rfl) (by kernel_rfl) (fun _ _ _ _ h => h) ⟨hb3, ra3, rc3⟩ (fun w' h => by simp [go_sem]) ?_
  simp only [List.setIfInBounds_toArray, List.set_cons_succ, List.set_cons_zero]
  refine wh_takeW 11 23 (.string x) rfl rfl (by kernel_rfl) (by kernel_rfl) (by kernel_rfl) (by kernel_rfl) (fun _ _ _ _ h => h) ⟨hb3, ra3, rc3⟩ (fun w' h => by have hc := row_cell h.2.1 1; simp at hc; simp [go_sem, hc]) ?_
  simp only [List.setIfInBounds_toArray, List.set_cons_succ, List.set_cons_zero]
  refine wh_callW 12 24 (.int .i64 c) (fun W => Below wv.heap.size wv W) rfl rfl (by kernel_rfl) (by kernel_rfl) (by simp [go_sem]) (HC.out _) (fun W h => ⟨hb3.trans (h.mono hb3.size), (h.block _ (lt_of_block ra3)).trans ra3, (h.block _ (lt_of_block rc3)).trans rc3⟩) ?_
  intro wx hx
  simp only [List.setIfInBounds_toArray, List.set_cons_succ, List.set_cons_zero]
  have ra4 := (hx.block _ (lt_of_block ra3)).trans ra3
  have rb4 := (hx.block _ (lt_of_block rb3)).trans rb3
  have rc4 := (hx.block _ (lt_of_block rc3)).trans rc3
  have hb4 := hb3.trans (hx.mono hb3.size)
  clear ra3 rb3 rc3 hb3 hx
  refine wh_takeW 13 25 (.bool true) rfl rfl (by kernel_rfl) (by kernel_rfl) (by kernel_rfl) (by kernel_rfl) (fun _ _ _ _ h => h) ⟨hb4, ra4, rc4⟩ (fun w' h => by simp [go_sem, ec]) ?_
  simp only [List.setIfInBounds_toArray, List.set_cons_succ, List.set_cons_zero]
  refine wh_takeW 14 26 (.bool true) rfl rfl (by kernel_rfl) (by kernel_rfl) (by kernel_rfl) (by kernel_rfl) (fun _ _ _ _ h => h) ⟨hb4, ra4, rc4⟩ (fun w' h => by simp [go_sem]) ?_
  simp only [List.setIfInBounds_toArray, List.set_cons_succ, List.set_cons_zero]
  have f3 : ∀ i, wx.frozen? ⟨w.heap.size + 1, i, none⟩ = false := fun i => frozen_of_row _ _ _ _ _ rb4
  have y0 := row_cell rb4 0
  have y1 := row_cell rb4 1
  have y2 := row_cell rb4 2
  simp at y0 y1 y2
  have s0 := set_row (i := 0) (v := .int .i64 f) rb4 rfl
  have s1 := set_row (i := 1) (v := .func (.func F) #[] caps) s0 rfl
  have s2 := set_row (i := 2) (v := .func (.func G) #[] #[]) s1 rfl
  have t0 := fun (g : Nat) (o : Obj) (h : wx.heap[g]? = some o) (hn : w.heap.size + 1 ≠ g) => set_row_ne (i := 2) (v := .func (.func G) #[] #[]) (set_row_ne (i := 1) (v := .func (.func F) #[] caps) (set_row_ne (i := 0) (v := .int .i64 f) h hn) hn) hn
  have ta := t0 _ _ ra4 (by omega)
  have tc := t0 _ _ rc4 hne
  have hb5 := ((hb4.setCell (p := ⟨w.heap.size + 1, 0, none⟩) (by simp) (.int .i64 f)).setCell (p := ⟨w.heap.size + 1, 1, none⟩) (by simp) (.func (.func F) #[] caps)).setCell (p := ⟨w.heap.size + 1, 2, none⟩) (by simp) (.func (.func G) #[] #[])
  refine wh_skipD 15 (w' := World.setCell (World.setCell (World.setCell wx ⟨w.heap.size + 1, 0, none⟩ (.int .i64 f)) ⟨w.heap.size + 1, 1, none⟩ (.func (.func F) #[] caps)) ⟨w.heap.size + 1, 2, none⟩ (.func (.func G) #[] #[])) rfl rfl rfl (by kernel_rfl) (by simp [go_sem, f3, y0, y1, y2]) ⟨hb5, ta, tc⟩ ?_
  generalize World.setCell (World.setCell (World.setCell wx _ _) _ _) _ _ = wy at s2 ta tc hb5 ⊢
  refine wh_takeW 16 3 (.bool true) rfl rfl (by kernel_rfl) (by kernel_rfl) (by kernel_rfl) (by kernel_rfl) (fun _ _ _ _ h => h) ⟨hb5, ta, tc⟩ (fun w' h => by simp [go_sem]) ?_
  simp only [List.setIfInBounds_toArray, List.set_cons_succ, List.set_cons_zero]
  refine wpAnyH_done (by kernel_rfl) ?_ 0
  have c0 := row_cell s2 0
  have c1 := row_cell s2 1
  have c2 := row_cell s2 2
  simp at c0 c1 c2
  go_wp2_with fail
  refine bodyPost_ret (v := .tuple #[.agg #[.int .i64 f, .func (.func F) #[] caps, .func (.func G) #[] #[]], .bool true]) (by simp [results, Tryz.results28, go_sem, c0, c1, c2]) rfl ⟨F, G, caps, rfl, hb5⟩
end Go.Proofs.YtlhcejbimlilaaaGreatDoor
