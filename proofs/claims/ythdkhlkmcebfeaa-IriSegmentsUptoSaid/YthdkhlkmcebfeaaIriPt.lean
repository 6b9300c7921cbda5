/- The document's parts. -/
import Derived.Test.YthdkhlkmcebfeaaIriSp
set_option linter.unusedVariables false
set_option linter.unusedSimpArgs false
namespace Go.Tk
open Go Go.RowKit
theorem pre1 (l : List UInt8) (x : UInt8) : Lib.hasPrefix l [x] = (decide (1 ≤ l.length) && (l.take 1 == [x])) := (Lib.hasPrefix_of_take l [x]).symm
theorem pre2 (l : List UInt8) (x y : UInt8) : Lib.hasPrefix l [x, y] = (decide (2 ≤ l.length) && (l.take 2 == [x, y])) := (Lib.hasPrefix_of_take l [x, y]).symm
theorem pre1_cons (b : UInt8) (l : List UInt8) (x : UInt8) : Lib.hasPrefix (b :: l) [x] = (b == x) := by rw [pre1]; simp
theorem pre1_nil (x : UInt8) : Lib.hasPrefix [] [x] = false := by rw [pre1]; simp
theorem prefix_length {p q : List UInt8} (h : Lib.hasPrefix p q = true) : q.length ≤ p.length := by
  rw [← Lib.hasPrefix_of_take] at h
  simp at h
  omega
theorem extract_dsize (q : ByteArray) (n : Nat) : (q.extract n q.size).size = q.size - n := by
  rw [Lib.size_eq, extract_ds, List.length_drop, ← Lib.size_eq]
theorem unt_drop (q : UInt8 → Bool) : ∀ l : List UInt8, l.drop (unt q l) = [] ∨ ∃ b t, l.drop (unt q l) = b :: t ∧ q b = true
  | [] => .inl rfl
  | b :: l => by
    by_cases h : q b = true
    · right; exact ⟨b, l, by rw [unt_yes h]; rfl, h⟩
    · have h' : q b = false := by simpa using h
      rw [unt_no h', List.drop_succ_cons]
      exact unt_drop q l
/-- What is left behind the query is nothing, or a fragment. -/
theorem s4_head (l2 : List UInt8) : Prts.s4 (Prts.s3 l2) = [] ∨ Prts.hasF (Prts.s4 (Prts.s3 l2)) = true := by
  unfold Prts.s4
  split
  · rcases unt_drop (among [35]) ((Prts.s3 l2).drop 1) with h | ⟨b, t, h, hb⟩
    · exact .inl h
    · right
      rw [h]
      unfold Prts.hasF
      rw [pre1_cons]
      rw [among_one] at hb
      exact hb
  · rename_i hq
    unfold Prts.s3 at hq ⊢
    rcases unt_drop (among [63, 35]) l2 with h | ⟨b, t, h, hb⟩
    · exact .inl h
    · right
      rw [h] at hq ⊢
      unfold Prts.hasQ at hq
      unfold Prts.hasF
      rw [pre1_cons] at hq ⊢
      unfold among at hb
      simp at hb hq ⊢
      rcases hb with hb | hb
      · exact absurd hb hq
      · exact hb
end Go.Tk
namespace Go.Proofs.Ythdkhlkmcebfeaa
open Go.RowKit Go.Tk
theorem until_at (t : ByteArray) (l signs : List UInt8) (sg : ByteArray) (w : World) (ht : t.data.toList = l) (hsg : sg.data.toList = signs) (h1 : t.size ≤ 9223372036854775807) (h2 : sg.size ≤ 9223372036854775807) :
    Calls Try.prog 38 #[.string t, .string sg] w fun e w' => e = .returned (.int .i64 (unt (among signs) l : Nat)) ∧ ∃ n, w' = w.drewN n := by
  have := until_calls t sg w h1 h2
  rw [ht, hsg] at this
  exact this
set_option maxHeartbeats 4000000 in
set_option maxRecDepth 100000 in
theorem parts_calls (s : ByteArray) (w : World) (hs : s.size < 4294967281) :
    Calls Try.prog 49 #[.string s] w fun e w' => e = .returned (splitP s.data.toList).val ∧ Below w.heap.size w w' := by
  obtain ⟨l, hl⟩ : ∃ l, l = s.data.toList := ⟨_, rfl⟩
  have hsc := rscheme_calls s (hs := by omega)
  rw [← hl] at hsc
  have hst := PR.start 34 w
  obtain ⟨n, hn⟩ : ∃ n, n = sch l := ⟨_, rfl⟩
  rw [← hn] at hsc
  have HSC := Lib.hid hsc
  have HST := Lib.hid hst
  have HL := Lib.hid hl
  have HN := Lib.hid hn
  clear hsc hst hl hn
  go_enter Try.func49, Try.ntmps49
  go_wp2_with fail
  refine (HSC.out _).mono ?_
  rintro e w1 ⟨rfl, hw1⟩
  have h1 := HST.out
  rw [show ((w.alloc (.cells P0.cells 34)).alloc (.cells P0.cells 34)) = w1 from hw1] at h1
  have c0 : w1.cell? ⟨w.heap.size + 1, 0, none⟩ = some (.string { data := #[] }) := h1.cell 0
  have f0 := h1.free 0
  have H1 := Lib.hid h1
  clear hw1 h1
  go_upto_if 8 with fail
  obtain ⟨l1, hl1⟩ : ∃ l1, l1 = Prts.s1 l := ⟨_, rfl⟩
  obtain ⟨p1, hp1⟩ : ∃ p1 : Prts, p1 = { P0 with sc := l.take (sch l) } := ⟨_, rfl⟩
  have HL1 := Lib.hid hl1
  have HP1 := Lib.hid hp1
  clear hl1 hp1
  go_cut [0] (fun v wx => ∃ t : ByteArray, v = .string t ∧ t.data.toList = l1 ∧ PR 34 w wx p1)
  case first =>
    by_cases h0 : n = 0
    · have e0 : decide (0 < n) = false := by simp [h0]
      have hfin : s.data.toList = l1 := by rw [HL1.out]; unfold Prts.s1; rw [← HN.out, if_pos h0, HL.out]
      have hpp : p1 = P0 := by rw [HP1.out, ← HN.out, h0]; rfl
      have HPP := Lib.hid hpp
      have HF := Lib.hid hfin
      first | rw [e0] | simp only [h0]
      clear h0 e0 hfin hpp
      go_wp2_with fail
      go_meet
      exact ⟨s, rfl, HF.out, by rw [HPP.out]; exact H1.out⟩
    · have e0 : decide (0 < n) = true := by simp; omega
      have hz : n + 1 ≤ s.size := by have := sch_lt (l := l) (by rw [← HN.out]; exact h0); rw [← HN.out, HL.out, ← Lib.size_eq] at this; omega
      have hfin : (s.extract (n + 1) s.size).data.toList = l1 := by rw [extract_ds, HL1.out]; unfold Prts.s1; rw [← HN.out, if_neg h0, HL.out]
      have hP : PR 34 w (w1.setCell ⟨w.heap.size + 1, 0, none⟩ (.string (s.extract 0 n))) p1 := H1.out.set 0 _ (by rw [HP1.out, extract_take, HN.out, HL.out]; rfl)
      have HP := Lib.hid hP
      have HF := Lib.hid hfin
      rw [e0]
      clear h0 e0 hfin hP
      go_wp2_with fail
      go_meet
      exact ⟨_, rfl, HF.out, HP.out⟩
  case rest =>
    clear c0 f0
    obtain ⟨t1, rfl, ht1, hp1⟩ := hcut
    have hz1 : t1.size ≤ s.size := by
      rw [Lib.size_eq t1, ht1, HL1.out]
      unfold Prts.s1
      rw [HL.out]
      split
      · rw [← Lib.size_eq]; omega
      · rw [List.length_drop, ← Lib.size_eq]; omega
    have HT1 := Lib.hid ht1
    have R1 := Lib.hid hp1
    obtain ⟨a1, ha1⟩ : ∃ a1, a1 = Prts.hasA l1 := ⟨_, rfl⟩
    have HA1 := Lib.hid ha1
    clear ht1 hp1 ha1
    go_upto_region 6 with fail
    go_cut [24] (fun v wx => v = .bool a1 ∧ wx = wc)
    case first =>
      have h := HA1.out
      unfold Prts.hasA at h
      rw [pre2, ← HT1.out, ← Lib.size_eq] at h
      by_cases h2 : 2 ≤ t1.size
      · have e1 : ((t1.extract 0 2).toList == [47, 47]) = a1 := by rw [Lib.extract_toList, h, decide_eq_true h2]; simp
        clear h
        go_wp2_with fail
        go_meet
        exact ⟨by rw [← e1], rfl⟩
      · have e1 : a1 = false := by rw [h, decide_eq_false h2]; rfl
        clear h
        subst e1
        go_wp2_with fail
        go_meet
        exact ⟨rfl, rfl⟩
    case rest =>
      obtain ⟨rfl, rfl⟩ := hcut
      go_upto_if 24 with fail
      obtain ⟨l2, hl2⟩ : ∃ l2, l2 = Prts.s2 l1 := ⟨_, rfl⟩
      obtain ⟨p2, hp2⟩ : ∃ p2 : Prts, p2 = { p1 with au := Prts.auth l1, ha := Prts.hasA l1 } := ⟨_, rfl⟩
      have HL2 := Lib.hid hl2
      have HP2 := Lib.hid hp2
      clear hl2 hp2
      go_cut [0] (fun v wx => ∃ t : ByteArray, v = .string t ∧ t.data.toList = l2 ∧ PR 34 w wx p2)
      case first =>
        cases a1 with
        | false =>
          have hfin : t1.data.toList = l2 := by rw [HL2.out]; unfold Prts.s2; rw [← HA1.out, if_neg (by simp), HT1.out]
          have hpp : p2 = p1 := by rw [HP2.out]; unfold Prts.auth; rw [← HA1.out, if_neg (by simp), HP1.out]; rfl
          have HPP2 := Lib.hid hpp
          have HF := Lib.hid hfin
          clear hfin hpp
          go_wp2_with fail
          go_meet
          exact ⟨t1, rfl, HF.out, by rw [HPP2.out]; exact R1.out⟩
        | true =>
          have h2 : 2 ≤ t1.size := by
            have h := HA1.out
            unfold Prts.hasA at h
            have := prefix_length h.symm
            rw [← HT1.out, ← Lib.size_eq] at this
            simpa using this
          go_upto_region 8 with fail
          obtain ⟨tr, htr⟩ : ∃ tr, tr = t1.extract 2 t1.size := ⟨_, rfl⟩
          rw [← htr]
          have htl : tr.data.toList = l1.drop 2 := by rw [htr, extract_ds, HT1.out]
          have htz : tr.size ≤ s.size := by rw [Lib.size_eq, htl, List.length_drop, ← HT1.out, ← Lib.size_eq]; omega
          obtain ⟨k, hk⟩ : ∃ k, k = unt (among [47, 63, 35]) (l1.drop 2) := ⟨_, rfl⟩
          have hkz : k ≤ tr.size := by rw [Lib.size_eq, htl, hk]; exact unt_le _ _
          have hun := fun w => until_at tr (l1.drop 2) [47, 63, 35] { data := #[47, 63, 35] } w htl rfl (by omega) (by decide)
          rw [← hk] at hun
          have hau : (tr.extract 0 k) = ⟨(Prts.auth l1).toArray⟩ := by rw [extract_take, htl]; unfold Prts.auth; rw [← HA1.out, if_pos rfl, ← hk]
          have hs2 : (tr.extract k tr.size).data.toList = l2 := by rw [extract_ds, htl, HL2.out]; unfold Prts.s2; rw [← HA1.out, if_pos rfl, ← hk]
          have HUN := Lib.hid hun
          have HAU := Lib.hid hau
          have HS2 := Lib.hid hs2
          clear htr htl hk hun hau hs2
          go_wp2_with fail
          refine (HUN.out _).mono ?_
          rintro e w3 ⟨rfl, n3, hw3⟩
          have r3 := R1.out.drewN n3
          rw [← hw3] at r3
          have c5 : w3.cell? ⟨w.heap.size + 1, 5, none⟩ = some (.bool p1.ha) := r3.cell 5
          have f5 := r3.free 5
          have c1 : w3.cell? ⟨w.heap.size + 1, 1, none⟩ = some (strV p1.au) := r3.cell 1
          have f1 := r3.free 1
          unfold strV at c1
          have r4 := r3.set 5 (.bool true) (q := { p1 with ha := true }) rfl
          have r5 : PR 34 w ((w3.setCell ⟨w.heap.size + 1, 5, none⟩ (.bool true)).setCell ⟨w.heap.size + 1, 1, none⟩ (.string (tr.extract 0 k))) p2 := r4.set 1 _ (by rw [HP2.out, ← HA1.out, HAU.out]; rfl)
          have R5 := Lib.hid r5
          clear r3 r4 r5 hw3
          go_wp2_with fail
          go_meet
          exact ⟨_, rfl, HS2.out, R5.out⟩
      case rest =>
        obtain ⟨t2, rfl, ht2, hp2⟩ := hcut
        have hz2 : t2.size ≤ s.size := by
          have : l2.length ≤ l1.length := by
            rw [HL2.out]; unfold Prts.s2; split
            · simp only [List.length_drop]; omega
            · omega
          rw [← ht2, ← HT1.out, ← Lib.size_eq, ← Lib.size_eq] at this
          omega
        obtain ⟨k2, hk2⟩ : ∃ k, k = unt (among [63, 35]) l2 := ⟨_, rfl⟩
        have hkz2 : k2 ≤ t2.size := by rw [Lib.size_eq, ht2, hk2]; exact unt_le _ _
        have hun := fun w => until_at t2 l2 [63, 35] { data := #[63, 35] } w ht2 rfl (by omega) (by decide)
        rw [← hk2] at hun
        obtain ⟨l3, hl3⟩ : ∃ l3, l3 = Prts.s3 l2 := ⟨_, rfl⟩
        have hpa : t2.extract 0 k2 = ⟨(Prts.path l2).toArray⟩ := by rw [extract_take, ht2, hk2]; rfl
        have hs3 : (t2.extract k2 t2.size).data.toList = l3 := by rw [extract_ds, ht2, hk2, hl3]; rfl
        obtain ⟨p3, hp3⟩ : ∃ p3 : Prts, p3 = { p2 with pa := Prts.path l2 } := ⟨_, rfl⟩
        have HUN2 := Lib.hid hun
        have HPA := Lib.hid hpa
        have HS3 := Lib.hid hs3
        have HL3 := Lib.hid hl3
        have HP3 := Lib.hid hp3
        have R2 := Lib.hid hp2
        have HT2 := Lib.hid ht2
        clear ht2 hp2 hun hl3 hpa hs3 hp3 hk2
        go_wp2_with fail
        refine (HUN2.out _).mono ?_
        rintro e w4 ⟨rfl, n4, hw4⟩
        have r3 := R2.out.drewN n4
        rw [← hw4] at r3
        have c2 : w4.cell? ⟨w.heap.size + 1, 2, none⟩ = some (strV p2.pa) := r3.cell 2
        have f2 := r3.free 2
        unfold strV at c2
        have r4 : PR 34 w (w4.setCell ⟨w.heap.size + 1, 2, none⟩ (.string (t2.extract 0 k2))) p3 := r3.set 2 _ (by rw [HP3.out, HPA.out]; rfl)
        have R3' := Lib.hid r4
        clear r3 r4 hw4
        go_upto_region 15 with fail
        obtain ⟨t3, ht3⟩ : ∃ t, t = t2.extract k2 t2.size := ⟨_, rfl⟩
        obtain ⟨w5, hw5⟩ : ∃ w5, w5 = w4.setCell ⟨w.heap.size + 1, 2, none⟩ (.string (t2.extract 0 k2)) := ⟨_, rfl⟩
        have R3 : Hid (PR 34 w w5 p3) := Lib.hid (by rw [hw5]; exact R3'.out)
        have htl3 : t3.data.toList = l3 := by rw [ht3]; exact HS3.out
        rw [← ht3, ← hw5]
        have hz3 : t3.size ≤ s.size := by rw [ht3, extract_dsize]; omega
        have HT3 := Lib.hid htl3
        obtain ⟨q1, hq1⟩ : ∃ q1, q1 = Prts.hasQ l3 := ⟨_, rfl⟩
        have HQ1 := Lib.hid hq1
        clear ht3 hw5 htl3 hq1 c2 f2 R3'
        go_cut [53] (fun v wx => v = .bool q1 ∧ wx = w5)
        case first =>
          have h := HQ1.out
          unfold Prts.hasQ at h
          by_cases h1 : 1 ≤ t3.size
          · obtain ⟨bt, hbt⟩ : ∃ bt, bt = t3[0] := ⟨_, rfl⟩
            have hd : l3 = bt :: l3.drop 1 := by
              have := HT3.out
              subst this
              rw [hbt]
              exact (List.drop_eq_getElem_cons (by rw [← Lib.size_eq]; exact h1) : t3.data.toList.drop 0 = _)
            rw [hd, pre1_cons] at h
            have hq : (((t3[0]).toNat : Int) == 63) = q1 := by
              rw [h, ← hbt]
              cases hb : bt == 63 with
              | true => exact byte_lit_eq 63 rfl (by simpa using hb)
              | false => exact byte_lit_ne 63 rfl (by simpa using hb)
            have e1 : decide (0 < t3.size) = true := decide_eq_true (by omega)
            clear h hbt hd
            go_wp2_with fail
            go_meet
            exact ⟨by rw [← hq], rfl⟩
          · have e1 : decide (0 < t3.size) = false := decide_eq_false (by omega)
            have hd : l3 = [] := by rw [← HT3.out]; exact List.eq_nil_of_length_eq_zero (by rw [← Lib.size_eq]; omega)
            rw [hd, pre1_nil] at h
            subst h
            clear hd
            go_wp2_with fail
            go_meet
            exact ⟨rfl, rfl⟩
        case rest =>
          obtain ⟨rfl, rfl⟩ := hcut
          go_upto_if 53 with fail
          obtain ⟨l4, hl4⟩ : ∃ l4, l4 = Prts.s4 l3 := ⟨_, rfl⟩
          obtain ⟨p4, hp4⟩ : ∃ p4 : Prts, p4 = { p3 with qu := Prts.query l3, hq := Prts.hasQ l3 } := ⟨_, rfl⟩
          have HL4 := Lib.hid hl4
          have HP4 := Lib.hid hp4
          clear hl4 hp4
          go_cut [0] (fun v wx => ∃ t : ByteArray, v = .string t ∧ t.data.toList = l4 ∧ PR 34 w wx p4)
          case first =>
            cases q1 with
            | false =>
              have hfin : t3.data.toList = l4 := by rw [HL4.out]; unfold Prts.s4; rw [← HQ1.out, if_neg (by simp), HT3.out]
              have hpp : p4 = p3 := by rw [HP4.out]; unfold Prts.query; rw [← HQ1.out, if_neg (by simp), HP3.out, HP2.out, HP1.out]; rfl
              have HPP2 := Lib.hid hpp
              have HF := Lib.hid hfin
              clear hfin hpp
              go_wp2_with fail
              go_meet
              exact ⟨t3, rfl, HF.out, by rw [HPP2.out]; exact R3.out⟩
            | true =>
              have h2 : 1 ≤ t3.size := by
                have h := HQ1.out
                unfold Prts.hasQ at h
                have := prefix_length h.symm
                rw [← HT3.out, ← Lib.size_eq] at this
                simpa using this
              go_upto_region 17 with fail
              obtain ⟨tr, htr⟩ : ∃ tr, tr = t3.extract 1 t3.size := ⟨_, rfl⟩
              rw [← htr]
              have htl : tr.data.toList = l3.drop 1 := by rw [htr, extract_ds, HT3.out]
              have htz : tr.size ≤ s.size := by rw [Lib.size_eq, htl, List.length_drop, ← HT3.out, ← Lib.size_eq]; omega
              obtain ⟨k, hk⟩ : ∃ k, k = unt (among [35]) (l3.drop 1) := ⟨_, rfl⟩
              have hkz : k ≤ tr.size := by rw [Lib.size_eq, htl, hk]; exact unt_le _ _
              have hun := fun w => until_at tr (l3.drop 1) [35] { data := #[35] } w htl rfl (by omega) (by decide)
              rw [← hk] at hun
              have hau : (tr.extract 0 k) = ⟨(Prts.query l3).toArray⟩ := by rw [extract_take, htl]; unfold Prts.query; rw [← HQ1.out, if_pos rfl, ← hk]
              have hs2 : (tr.extract k tr.size).data.toList = l4 := by rw [extract_ds, htl, HL4.out]; unfold Prts.s4; rw [← HQ1.out, if_pos rfl, ← hk]
              have HUN3 := Lib.hid hun
              have HAU := Lib.hid hau
              have HS2 := Lib.hid hs2
              clear htr htl hk hun hau hs2
              go_wp2_with fail
              refine (HUN3.out _).mono ?_
              rintro e w6 ⟨rfl, n6, hw6⟩
              have r3 := R3.out.drewN n6
              rw [← hw6] at r3
              have c6 : w6.cell? ⟨w.heap.size + 1, 6, none⟩ = some (.bool p3.hq) := r3.cell 6
              have f6 := r3.free 6
              have c3 : w6.cell? ⟨w.heap.size + 1, 3, none⟩ = some (strV p3.qu) := r3.cell 3
              have f3 := r3.free 3
              unfold strV at c3
              have r4 := r3.set 6 (.bool true) (q := { p3 with hq := true }) rfl
              have r5 : PR 34 w ((w6.setCell ⟨w.heap.size + 1, 6, none⟩ (.bool true)).setCell ⟨w.heap.size + 1, 3, none⟩ (.string (tr.extract 0 k))) p4 := r4.set 3 _ (by rw [HP4.out, ← HQ1.out, HAU.out]; rfl)
              have R5 := Lib.hid r5
              clear r3 r4 r5 hw6
              go_wp2_with fail
              go_meet
              exact ⟨_, rfl, HS2.out, R5.out⟩
          case rest =>
            obtain ⟨t4, rfl, ht4, hp4⟩ := hcut
            have hhd := s4_head l2
            rw [← HL3.out, ← HL4.out] at hhd
            have f4 := hp4.free 4
            have f7 := hp4.free 7
            have c4 : wc.cell? ⟨w.heap.size + 1, 4, none⟩ = some (strV p4.fr) := hp4.cell 4
            have c7 : wc.cell? ⟨w.heap.size + 1, 7, none⟩ = some (.bool p4.hf) := hp4.cell 7
            unfold strV at c4
            have hfr0 : p4.fr = [] := by rw [HP4.out, HP3.out, HP2.out, HP1.out]; rfl
            have hhf0 : p4.hf = false := by rw [HP4.out, HP3.out, HP2.out, HP1.out]; rfl
            have hlast : splitP s.data.toList = { p4 with fr := Prts.frag l4, hf := Prts.hasF l4 } := by
              rw [HP4.out, HP3.out, HP2.out, HP1.out, HL4.out, HL3.out, HL2.out, HL1.out, HL.out]
              rfl
            obtain ⟨pf, hpf⟩ : ∃ pf, pf = splitP s.data.toList := ⟨_, rfl⟩
            rw [← hpf] at hlast
            have HPF := Lib.hid hpf
            have HFR0 := Lib.hid hfr0
            have HHF0 := Lib.hid hhf0
            have HLAST := Lib.hid hlast
            have HHD := Lib.hid hhd
            have HT4 := Lib.hid ht4
            have R4 := Lib.hid hp4
            clear ht4 hp4 hhd hpf hlast hfr0 hhf0
            go_upto_if 68 with fail
            go_cut [2] (fun v wx => v = .pointer (some ⟨w.heap.size, 0, none⟩) ∧ PR 34 w wx pf)
            case first =>
              by_cases h0 : 0 < t4.size
              · have e1 : decide (0 < t4.size) = true := by simpa using h0
                have hhf : Prts.hasF l4 = true := by
                  rcases HHD.out with h | h
                  · rw [← HT4.out] at h
                    have := Lib.size_eq t4
                    rw [h, List.length_nil] at this
                    omega
                  · exact h
                have hfr : t4.extract 1 t4.size = ⟨(Prts.frag l4).toArray⟩ := by rw [extract_drop, HT4.out]; unfold Prts.frag; rw [if_pos hhf]
                have r5 := R4.out.set 7 (.bool true) (q := { p4 with hf := true }) rfl
                have r6 : PR 34 w ((wc.setCell ⟨w.heap.size + 1, 7, none⟩ (.bool true)).setCell ⟨w.heap.size + 1, 4, none⟩ (.string (t4.extract 1 t4.size))) pf := r5.set 4 _ (by rw [HLAST.out, hhf, hfr]; rfl)
                have R6 := Lib.hid r6
                rw [e1]
                clear e1 hhf hfr r5 r6
                go_wp2_with fail
                go_meet
                exact ⟨rfl, R6.out⟩
              · have e1 : decide (0 < t4.size) = false := decide_eq_false h0
                have hl0 : l4 = [] := by rw [← HT4.out]; exact List.eq_nil_of_length_eq_zero (by rw [← Lib.size_eq]; omega)
                have hpp : p4 = pf := by
                  have h1 : Prts.frag l4 = p4.fr := by rw [hl0, HFR0.out]; rfl
                  have h2 : Prts.hasF l4 = p4.hf := by rw [hl0, HHF0.out]; rfl
                  rw [HLAST.out, h1, h2]
                have HPP := Lib.hid hpp
                rw [e1]
                clear e1 hl0 hpp
                go_wp2_with fail
                go_meet
                exact ⟨rfl, by rw [← HPP.out]; exact R4.out⟩
            case rest =>
              obtain ⟨rfl, r6⟩ := hcut
              have hrow := r6.row
              have hres := r6.res
              have hbl := r6.below
              have hi8 : (Try.prog.info? 34).map (·.size) = some 8 := by kernel_rfl
              have HI8 := Lib.hid hi8
              have HROW := Lib.hid hrow
              have HRES := Lib.hid hres
              clear hrow hres hi8 r6 c4 c7 f4 f7
              go_wp2_with (first
                | (refine wpList_load_row rfl 34 _ rfl (w.heap.size + 1) rfl _ _ _ _ HROW.out Try.underlying34 rfl HI8.out ?_)
                | (refine wpList_store_row rfl 34 _ _ rfl w.heap.size _ rfl rfl _ _ HRES.out HI8.out rfl (Prts.one pf) ?_))
              have hnew := setRow_heap wc w.heap.size _ pf.cells _ _ HRES.out
              refine bodyPost_ret (results_cell_row rfl _ _ w.heap.size _ _ _ _ rfl hnew Try.underlying34 rfl HI8.out) rfl ⟨?_, ?_⟩
              · rw [← HPF.out]; rfl
              · exact ⟨hbl.os, hbl.tape, hbl.output, by simpa using hbl.size, fun k hk => (setRow_other wc w.heap.size k _ (by omega)).trans (hbl.block k hk)⟩
end Go.Proofs.Ythdkhlkmcebfeaa
