/- VaT VaW, laid as one. -/
import Derived.Test.YtlhcejbimlilaaaGreatDoorVaS
import Derived.Test.YtlhcejbimlilaaaGreatDoorVaC
set_option linter.unusedVariables false
set_option linter.unusedSimpArgs false
/- The program's moments: in, readDateTime, readDay, readClock. -/
namespace Go.Tk
open Go Go.RowKit
def inW (o : Option (Bool × Int)) (sec : Int) (part z : List UInt8) : Mt := match o with
  | none => ⟨sec, part, false, 0, z⟩
  | some x => ⟨sec, part, x.1, x.2, if x.1 = true ∧ x.2 = 0 then [90] else z⟩
def inV (sec : Int) (part z : List UInt8) : Mt := inW (rdZ z) sec part z
theorem inP_eq (sec : Int) (part z : List UInt8) : inP sec part z = if (rdZ z).isSome = true then some (inV sec part z) else none := by
  unfold inP inV inW
  cases rdZ z <;> rfl
theorem rdY_bd {s : List UInt8} {y m d : Int} {e : List UInt8} (h : rdY s = some (y, m, d, e)) : (-1000000000 < y ∧ y < 1000000000) ∧ (1 ≤ m ∧ m ≤ 12) ∧ (1 ≤ d ∧ d ≤ mdP y m) ∧ e.length ≤ s.length := by
  rw [rdY_eq] at h
  split at h
  · rename_i hok
    unfold rdY2 at h
    cases h1 : twoP ((ngR s).drop ((yrI (ngR s)).toNat + 1)) [45] with
    | none => rw [h1] at h; cases h
    | some q =>
      obtain ⟨m', r⟩ := q
      rw [h1] at h
      simp only at h
      split at h
      · cases h
      · rename_i hm
        unfold rdY3 at h
        cases h2 : twoP r [] with
        | none => rw [h2] at h; cases h
        | some q =>
          obtain ⟨d', e'⟩ := q
          rw [h2] at h
          simp only at h
          split at h
          · cases h
          · rename_i hd
            simp only [Option.some.injEq, Prod.mk.injEq] at h
            obtain ⟨rfl, rfl, rfl, rfl⟩ := h
            have b1 := twoP_bd h1
            have b2 := twoP_bd h2
            have b3 := ngR_le s
            rw [List.length_drop] at b1
            refine ⟨?_, by omega, by omega, by omega⟩
            unfold okY at hok
            simp only [Bool.and_eq_true, decide_eq_true_eq] at hok
            have hn := numN_lt _ hok.1.2 (by rw [List.length_take]; omega)
            unfold yrZ
            split <;> omega
  · cases h
theorem dyP_bd {y m d : Int} (hy : -1000000000 < y ∧ y < 1000000000) (hm : 1 ≤ m ∧ m ≤ 12) (hd : 1 ≤ d ∧ d ≤ mdP y m) : -366000020000 ≤ dyP y m d ∧ dyP y m d ≤ 366000020000 := by
  have h1 := ydP_bd y (by omega) (by omega)
  have h2 := cmP_bd y (m - 1).toNat
  have h3 := mdP_bd y m
  unfold dyP
  omega
theorem rdD_bd {s : List UInt8} {n : Int} {r : List UInt8} (h : rdD s = some (n, r)) : (-366000020000 ≤ n ∧ n ≤ 366000020000) ∧ r.length ≤ s.length := by
  rw [rdD_eq] at h
  unfold dtO at h
  cases hy : rdY s with
  | none => rw [hy] at h; cases h
  | some q =>
    obtain ⟨y, m, d, e⟩ := q
    rw [hy] at h
    simp only [Option.map_some, Option.some.injEq, Prod.mk.injEq] at h
    obtain ⟨rfl, rfl⟩ := h
    have hb := rdY_bd hy
    exact ⟨dyP_bd hb.1 hb.2.1 hb.2.2.1, hb.2.2.2⟩
theorem rdT_bd {s : List UInt8} {c : Int} {p e : List UInt8} (h : rdT s = some (c, p, e)) : (0 ≤ c ∧ c ≤ 86400) ∧ p.length ≤ s.length ∧ e.length ≤ s.length := by
  cases h1 : twoP s [58] with
  | none => rw [rdT_1 h1] at h; cases h
  | some q =>
    obtain ⟨hh, r1⟩ := q
    cases h2 : twoP r1 [58] with
    | none => rw [rdT_2 h1 h2] at h; cases h
    | some q =>
      obtain ⟨m, r2⟩ := q
      cases h3 : twoP r2 [] with
      | none => rw [rdT_3 h1 h2 h3] at h; cases h
      | some q =>
        obtain ⟨c', r3⟩ := q
        rw [rdT_eq h1 h2 h3] at h
        have b1 := twoP_bd h1
        have b2 := twoP_bd h2
        have b3 := twoP_bd h3
        split at h
        · cases h
        · rename_i hr
          unfold rdT2 at h
          cases hf : rdF r3 with
          | none => rw [hf] at h; cases h
          | some q =>
            obtain ⟨p', e'⟩ := q
            rw [hf] at h
            simp only at h
            split at h
            · cases h
            · rename_i hb
              simp only [Option.some.injEq, Prod.mk.injEq] at h
              obtain ⟨rfl, rfl, rfl⟩ := h
              have hpe : p'.length ≤ r3.length ∧ e'.length ≤ r3.length := by
                unfold rdF at hf
                split at hf
                · split at hf
                  · cases hf
                  · simp only [Option.some.injEq, Prod.mk.injEq] at hf
                    obtain ⟨rfl, rfl⟩ := hf
                    have := tr0_le ((r3.drop 1).take (dgN (r3.drop 1)))
                    rw [List.length_take, List.length_drop] at this
                    rw [List.length_drop, List.length_drop]
                    omega
                · simp only [Option.some.injEq, Prod.mk.injEq] at hf
                  obtain ⟨rfl, rfl⟩ := hf
                  simp
              refine ⟨?_, by omega, by omega⟩
              by_cases h24 : hh = 24
              · have hm0 : ¬ 0 < m := fun g => hb ⟨h24, .inl g⟩
                have hc0 : ¬ 0 < c' := fun g => hb ⟨h24, .inr (.inl g)⟩
                omega
              · omega
theorem set_row {w : World} {g i : Nat} {cs cs' : Array Value} {T : TypeId} {v : Value} (h : w.heap[g]? = some (.cells cs T (0, 0))) (e : cs.setIfInBounds i v = cs') : (w.setCell ⟨g, i, none⟩ v).heap[g]? = some (.cells cs' T (0, 0)) := by
  rw [heap_setCell_same w g i cs T _ h, e]
theorem set_row_ne {w : World} {g g2 i : Nat} {o : Option Obj} {v : Value} (h : w.heap[g2]? = o) (hne : g ≠ g2) : (w.setCell ⟨g, i, none⟩ v).heap[g2]? = o :=
  (heap_setCell_other w _ g2 v (Ne.symm hne)).trans h
def mtO (o : Option Mt) (m : Mt) : Prop := ∀ m', o = some m' → m = m'
end Go.Tk
namespace Go.Proofs.YtlhcejbimlilaaaGreatDoor
open Go.RowKit Go.Tk
set_option maxHeartbeats 2000000 in
theorem in_calls (sec : Int) (P Z : ByteArray) (w : World) (hs : Z.size ≤ 4000000000) :
    Calls Tryz.prog 87 #[.agg #[.int .i64 sec, .string P, .bool false, .int .i64 0, .string ⟨#[]⟩], .string Z] w fun e w' => e = .returned (.tuple #[(inV sec P.data.toList Z.data.toList).val, .bool (rdZ Z.data.toList).isSome]) ∧ Below w.heap.size w w' := by
  have hrz := fun w => readZone_calls Z w hs
  obtain ⟨o, ho⟩ : ∃ o, o = rdZ Z.data.toList := ⟨_, rfl⟩
  unfold inV
  rw [← ho] at hrz ⊢
  clear ho
  cases o with
  | none =>
    have hrz : ∀ w, Calls Tryz.prog 129 #[.string Z] w fun e w' => e = .returned (.tuple #[.bool false, .int .i64 0, .bool false]) ∧ ∃ n, w' = w.drewN n := hrz
    have HRZ := Lib.hid hrz
    clear hrz
    unfold inW Mt.val
    dsimp only
    rw [str_mk, str_mk]
    show Calls _ _ _ _ fun e w' => e = .returned (.tuple #[.agg #[.int .i64 sec, .string P, .bool false, .int .i64 0, .string Z], .bool false]) ∧ _
    go_enter Tryz.func87, Tryz.ntmps87
    go_wp2_with (go_at_call 129; (with_reducible refine (HRZ.out _).mono ?_); rintro e w' ⟨rfl, n, rfl⟩)
    refine bodyPost_ret (v := .tuple #[.agg #[.int .i64 sec, .string P, .bool false, .int .i64 0, .string Z], .bool false]) (by simp [results, Tryz.results87, go_sem]) rfl ⟨rfl, ?_⟩
    repeat (first | with_reducible exact Below.refl _ _ | with_reducible refine below_drewN ?_ _ | (with_reducible refine Below.setCell ?_ (by simp) _) | (with_reducible refine Below.alloc ?_ (by simp) _))
  | some x =>
  obtain ⟨zd, zn⟩ := x
  have hrz : ∀ w, Calls Tryz.prog 129 #[.string Z] w fun e w' => e = .returned (.tuple #[.bool zd, .int .i64 zn, .bool true]) ∧ ∃ n, w' = w.drewN n := hrz
  have HRZ := Lib.hid hrz
  clear hrz
  obtain ⟨T, hT⟩ : ∃ T : ByteArray, T = ⟨(if zd = true ∧ zn = 0 then [90] else Z.data.toList).toArray⟩ := ⟨_, rfl⟩
  have hTz : (zd = true ∧ zn = 0 ∧ T = ⟨#[90]⟩) ∨ ((zd = false ∨ zd = true ∧ (zn == 0) = false) ∧ T = Z) := by
    cases zd with
    | false => exact .inr ⟨.inl rfl, by rw [hT, if_neg (by simp), str_mk]⟩
    | true =>
      by_cases hz : zn = 0
      · exact .inl ⟨rfl, hz, by rw [hT, if_pos ⟨rfl, hz⟩]⟩
      · exact .inr ⟨.inr ⟨rfl, by rw [beq_eq_false_iff_ne]; exact hz⟩, by rw [hT, if_neg (fun h => hz h.2), str_mk]⟩
  unfold inW Mt.val
  dsimp only
  rw [str_mk, ← hT]
  clear hT
  go_enter Tryz.func87, Tryz.ntmps87
  go_upto_region 4 with (go_at_call 129; (with_reducible refine (HRZ.out _).mono ?_); rintro e w' ⟨rfl, n, rfl⟩)
  obtain ⟨r1, r2, hb⟩ := box2 w (.cells #[.int .i64 sec, .string P, .bool false, .int .i64 0, .string ⟨#[]⟩] 76) (.cells #[.int .i64 0, .string ⟨#[]⟩, .bool false, .int .i64 0, .string ⟨#[]⟩] 76)
  generalize World.alloc (World.alloc w _) _ = w2 at r1 r2 hb ⊢
  have s1 := set_row (w := w2.drewN n) (g := w.heap.size) (i := 2) (v := .bool zd) r1 rfl
  have s2 := set_row (i := 3) (v := .int .i64 zn) s1 rfl
  have s3 := set_row (i := 4) (v := .string Z) s2 rfl
  have t1 := set_row_ne (w := w2.drewN n) (g := w.heap.size) (i := 2) (v := .bool zd) r2 (by omega)
  have t2 := set_row_ne (g := w.heap.size) (i := 3) (v := .int .i64 zn) t1 (by omega)
  have t3 := set_row_ne (g := w.heap.size) (i := 4) (v := .string Z) t2 (by omega)
  have hb3 : Below w.heap.size w ((((w2.drewN n).setCell ⟨w.heap.size, 2, none⟩ (.bool zd)).setCell ⟨w.heap.size, 3, none⟩ (.int .i64 zn)).setCell ⟨w.heap.size, 4, none⟩ (.string Z)) := (((below_drewN hb n).setCell (by simp) _).setCell (by simp) _).setCell (by simp) _
  generalize World.setCell (World.setCell (World.setCell (World.drewN w2 n) _ _) _ _) _ _ = w3 at s3 t3 hb3 ⊢
  clear s1 s2 t1 t2 r1 r2 hb
  have c0 := row_cell s3 0
  have c1 := row_cell s3 1
  have c2 := row_cell s3 2
  have c3 := row_cell s3 3
  have c4 := row_cell s3 4
  have d0 := row_cell t3 0
  have d1 := row_cell t3 1
  have d2 := row_cell t3 2
  have d3 := row_cell t3 3
  have d4 := row_cell t3 4
  have f1 : ∀ i, w3.frozen? ⟨w.heap.size, i, none⟩ = false := fun i => frozen_of_row _ _ _ _ _ s3
  have f2 : ∀ i, w3.frozen? ⟨w.heap.size + 1, i, none⟩ = false := fun i => frozen_of_row _ _ _ _ _ t3
  simp at c0 c1 c2 c3 c4 d0 d1 d2 d3 d4
  rcases hTz with ⟨rfl, rfl, rfl⟩ | ⟨h | ⟨h, hz⟩, rfl⟩
  · have s4 := set_row (i := 4) (v := .string ⟨#[90]⟩) s3 rfl
    have t4 := set_row_ne (g := w.heap.size) (i := 4) (v := .string ⟨#[90]⟩) t3 (by omega)
    have hb4 := hb3.setCell (p := ⟨w.heap.size, 4, none⟩) (by simp) (.string ⟨#[90]⟩)
    clear s3 t3 hb3
    go_upto_region 6 with fail
    generalize World.setCell w3 _ _ = w4 at s4 t4 hb4 ⊢
    clear c0 c1 c2 c3 c4 d0 d1 d2 d3 d4 f1 f2
    have c0 := row_cell s4 0
    have c1 := row_cell s4 1
    have c2 := row_cell s4 2
    have c3 := row_cell s4 3
    have c4 := row_cell s4 4
    have d0 := row_cell t4 0
    have d1 := row_cell t4 1
    have d2 := row_cell t4 2
    have d3 := row_cell t4 3
    have d4 := row_cell t4 4
    have f2 : ∀ i, w4.frozen? ⟨w.heap.size + 1, i, none⟩ = false := fun i => frozen_of_row _ _ _ _ _ t4
    simp at c0 c1 c2 c3 c4 d0 d1 d2 d3 d4
    clear s4 t4
    go_wp2_with fail
    refine bodyPost_ret (v := .tuple #[.agg #[.int .i64 sec, .string P, .bool true, .int .i64 0, .string ⟨#[90]⟩], .bool true]) (by simp [results, Tryz.results87, go_sem, d0, d1, d2, d3, d4]) rfl ⟨rfl, ?_⟩
    repeat (first | exact hb4 | (with_reducible refine Below.setCell ?_ (by simp) _))
  · subst h
    clear s3 t3
    go_wp2_with fail
    refine bodyPost_ret (v := .tuple #[.agg #[.int .i64 sec, .string P, .bool false, .int .i64 zn, .string _], .bool true]) (by simp [results, Tryz.results87, go_sem, d0, d1, d2, d3, d4]) rfl ⟨rfl, ?_⟩
    repeat (first | exact hb3 | (with_reducible refine Below.setCell ?_ (by simp) _))
  · subst h
    clear s3 t3
    go_wp2_with fail
    refine bodyPost_ret (v := .tuple #[.agg #[.int .i64 sec, .string P, .bool true, .int .i64 zn, .string _], .bool true]) (by simp [results, Tryz.results87, go_sem, d0, d1, d2, d3, d4]) rfl ⟨rfl, ?_⟩
    repeat (first | exact hb3 | (with_reducible refine Below.setCell ?_ (by simp) _))
end Go.Proofs.YtlhcejbimlilaaaGreatDoor
/- The program's moments: pad, utc, before. -/
namespace Go.Tk
open Go Go.RowKit
theorem pdP_len (n : Int) (k : Nat) (h0 : -9223372036854775808 ≤ n) (h1 : n ≤ 9223372036854775807) (hk : k ≤ 21) : (pdP n k).length ≤ 21 := by
  have := Lib.itoa_length_le n h0 h1
  unfold pdP rep0
  rw [List.length_append, List.length_replicate]
  omega
end Go.Tk
namespace Go.Proofs.YtlhcejbimlilaaaGreatDoor
open Go.RowKit Go.Tk
set_option maxHeartbeats 1000000 in
theorem pad_calls (n : Int) (k : Nat) (w : World) (hp : Pow w) (h0 : -9223372036854775808 ≤ n) (h1 : n ≤ 9223372036854775807) (hk : k ≤ 21) :
    Calls Tryz.prog 144 #[.int .i64 n, .int .i64 (k : Nat)] w fun e w' => e = .returned (.string ⟨(pdP n k).toArray⟩) ∧ Below w.heap.size w w' := by
  have hf := fun w (h : Pow w) => fmt_calls n w h h0 h1
  have hl := Lib.itoa_length_le n h0 h1
  obtain ⟨I, hI⟩ : ∃ I : ByteArray, I = ⟨(Lib.itoa n).toArray⟩ := ⟨_, rfl⟩
  rw [← hI] at hf
  have hId : I.data.toList = Lib.itoa n := by rw [hI]
  have hIs : I.size = (Lib.itoa n).length := by rw [Lib.size_eq, hId]
  rw [← hIs] at hl
  have hT : (⟨(pdP n k).toArray⟩ : ByteArray) = ⟨(rep0 (k - I.size)).toArray⟩ ++ I := by
    apply ba_ext; rw [cat_ba, hId, hIs]; rfl
  rw [hT]
  have HF := Lib.hid hf
  have HP := Lib.hid hp
  by_cases hlt : I.size ≤ k
  · have hr := fun w => rep_calls ((k : Int) - (I.size : Int)) w (by omega) (by omega)
    have he : ((k : Int) - (I.size : Int)).toNat = k - I.size := by omega
    rw [he] at hr
    obtain ⟨R, hR⟩ : ∃ R : ByteArray, R = ⟨(rep0 (k - I.size)).toArray⟩ := ⟨_, rfl⟩
    rw [← hR] at hr ⊢
    have hRs : R.size ≤ 21 := by rw [hR, sz_mk]; simp [rep0]; omega
    have hz : (I.size : Int) ≤ (k : Int) := by omega
    have hz2 : 0 ≤ (k : Int) - (I.size : Int) := by omega
    have hmx : max 0 ((k : Int) - (I.size : Int)) = (k : Int) - (I.size : Int) := by omega
    have hmx2 : (if (0 : Int) ≤ (k : Int) - (I.size : Int) then (k : Int) - (I.size : Int) else 0) = (k : Int) - (I.size : Int) := if_pos hz2
    have HR := Lib.hid hr
    clear hf hI hId hIs hT hr hR he hp
    go_enter Tryz.func144, Tryz.ntmps144
    go_wp2_with (first | (go_at_call 178; (with_reducible refine (HF.out _ HP.out).mono ?_); rintro e w3 ⟨rfl, hb3⟩) | (go_at_call 135; (with_reducible refine (HR.out _).mono ?_); rintro e w4 ⟨rfl, hb4⟩))
    go_ret
    exact ⟨rfl, hb3.trans (hb4.mono hb3.size)⟩
  · have hr := fun w => rep_calls 0 w (by omega) (by omega)
    have he : k - I.size = 0 := by omega
    rw [he]
    have hr : ∀ w, Calls Tryz.prog 135 #[.string ⟨#[48]⟩, .int .i64 0] w fun e w' => e = .returned (.string ⟨#[]⟩) ∧ Below w.heap.size w w' := hr
    have hz : (k : Int) - (I.size : Int) < 0 := by omega
    have hz1 : (k : Int) < (I.size : Int) := by omega
    have hmx : max 0 ((k : Int) - (I.size : Int)) = 0 := by omega
    have HR := Lib.hid hr
    clear hf hI hId hIs hT hr he hp
    go_enter Tryz.func144, Tryz.ntmps144
    go_wp2_with (first | (go_at_call 178; (with_reducible refine (HF.out _ HP.out).mono ?_); rintro e w3 ⟨rfl, hb3⟩) | (go_at_call 135; (with_reducible refine (HR.out _).mono ?_); rintro e w4 ⟨rfl, hb4⟩))
    go_ret
    exact ⟨rfl, hb3.trans (hb4.mono hb3.size)⟩
set_option maxHeartbeats 1000000 in
theorem utc_calls (m : Mt) (w : World) (h1 : -100000000000000000 ≤ m.sec ∧ m.sec ≤ 100000000000000000) (h2 : -100000 ≤ m.zone ∧ m.zone ≤ 100000) :
    Calls Tryz.prog 102 #[m.val] w fun e w' => e = .returned (utM m).val ∧ Below w.heap.size w w' := by
  obtain ⟨sec, part, zd, zn, sp⟩ := m
  dsimp only at h1 h2
  obtain ⟨h1a, h1b⟩ := h1
  obtain ⟨h2a, h2b⟩ := h2
  obtain ⟨P, hP⟩ : ∃ P : ByteArray, P = ⟨part.toArray⟩ := ⟨_, rfl⟩
  obtain ⟨S, hS⟩ : ∃ S : ByteArray, S = ⟨sp.toArray⟩ := ⟨_, rfl⟩
  cases zd with
  | false =>
    have hu : (utM ⟨sec, part, false, zn, sp⟩).val = .agg #[.int .i64 (sec - 60 * zn), .string P, .bool false, .int .i64 0, .string S] := by rw [hP, hS]; rfl
    rw [hu]
    unfold Mt.val
    dsimp only
    rw [← hP, ← hS]
    clear hu hP hS
    go_enter Tryz.func102, Tryz.ntmps102
    go_wp2_with fail
    refine bodyPost_ret (v := .agg #[.int .i64 (sec - 60 * zn), .string P, .bool false, .int .i64 0, .string S]) (by simp [results, Tryz.results102, go_sem]) rfl ⟨rfl, ?_⟩
    repeat (first | with_reducible exact Below.refl _ _ | with_reducible refine below_drewN ?_ _ | (with_reducible refine Below.setCell ?_ (by simp) _) | (with_reducible refine Below.alloc ?_ (by simp) _))
  | true =>
    have hu : (utM ⟨sec, part, true, zn, sp⟩).val = .agg #[.int .i64 (sec - 60 * zn), .string P, .bool true, .int .i64 0, .string ⟨#[90]⟩] := by rw [hP]; rfl
    rw [hu]
    unfold Mt.val
    dsimp only
    rw [← hP, ← hS]
    clear hu hP hS
    go_enter Tryz.func102, Tryz.ntmps102
    go_wp2_with fail
    refine bodyPost_ret (v := .agg #[.int .i64 (sec - 60 * zn), .string P, .bool true, .int .i64 0, .string ⟨#[90]⟩]) (by simp [results, Tryz.results102, go_sem]) rfl ⟨rfl, ?_⟩
    repeat (first | with_reducible exact Below.refl _ _ | with_reducible refine below_drewN ?_ _ | (with_reducible refine Below.setCell ?_ (by simp) _) | (with_reducible refine Below.alloc ?_ (by simp) _))
theorem before_calls (a b : Mt) (w : World) :
    Calls Tryz.prog 123 #[a.val, b.val] w fun e w' => e = .returned (.int .i64 (bfM a b)) ∧ Below w.heap.size w w' := by
  obtain ⟨s1, p1, z1, n1, q1⟩ := a
  obtain ⟨s2, p2, z2, n2, q2⟩ := b
  have hc := fun w => compare_calls ⟨p1.toArray⟩ ⟨p2.toArray⟩ w
  have he : bfM ⟨s1, p1, z1, n1, q1⟩ ⟨s2, p2, z2, n2, q2⟩ = if s1 < s2 then -1 else if s2 < s1 then 1 else cmB p1 p2 := rfl
  rw [he]
  unfold Mt.val
  dsimp only at hc ⊢
  obtain ⟨c, hcc⟩ : ∃ c, c = cmB p1 p2 := ⟨_, rfl⟩
  have hc : ∀ w, Calls Tryz.prog 32 #[.string ⟨p1.toArray⟩, .string ⟨p2.toArray⟩] w fun e w' => e = .returned (.int .i64 c) ∧ w = w' := fun w => by rw [hcc]; exact hc w
  rw [← hcc]
  have HC := Lib.hid hc
  clear hc he hcc
  by_cases c1 : s1 < s2
  · rw [if_pos c1]
    go_enter Tryz.func123, Tryz.ntmps123
    go_wp2_with fail
    go_ret
    exact ⟨rfl, ((Below.refl _ _).alloc (Nat.le_refl _) _).alloc (by simp) _⟩
  · rw [if_neg c1]
    by_cases c2 : s2 < s1
    · rw [if_pos c2]
      go_enter Tryz.func123, Tryz.ntmps123
      go_wp2_with fail
      go_ret
      exact ⟨rfl, ((Below.refl _ _).alloc (Nat.le_refl _) _).alloc (by simp) _⟩
    · rw [if_neg c2]
      go_enter Tryz.func123, Tryz.ntmps123
      go_wp2_with (go_at_call 32; (with_reducible refine (HC.out _).mono ?_); rintro e w' ⟨rfl, rfl⟩)
      go_ret
      exact ⟨rfl, ((Below.refl _ _).alloc (Nat.le_refl _) _).alloc (by simp) _⟩
end Go.Proofs.YtlhcejbimlilaaaGreatDoor
